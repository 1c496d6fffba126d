/- Deltas: entries of a report. -/
import Derived.Test.YtfckliidjmeeaaaDoorD42htoD42j
namespace Go.PM
open Go.Proofs
set_option maxRecDepth 10000
set_option maxHeartbeats 2000000
def txt (l : List Part) : List UInt8 := outT [] (wordsP l)
def nameM (word : List UInt8) (i : Int) : List UInt8 := word ++ [32] ++ itoa i
def entM (word : List UInt8) (i : Int) (l : List Part) : Ent := ⟨⟨(nameM word i).toArray⟩, ⟨(txt l).toArray⟩⟩
def HR2 (v : Nat) (es : List Ent) : Hp := [.var [.sref 1 v 0 es.length false], .row v 2 false (es.map Ent.d)]
def AddC (word : List UInt8) (i : Int) (full : Bool) (l : List Part) : Prop := ∀ (v : Nat) (es : List Ent), es.length < 2 ^ 28 →
  CallV Tryd.prog 29 [.ptr 0 0 0 0, .d (.s ⟨word.toArray⟩), .d (I i), .d (.sl 1 full (l.map Part.d))] (HR2 v es) fun r h' => r = retD [] ∧ h'.length = (HR2 v es).length ∧ h'.all (okB (HR2 v es).length) = true ∧ ∃ v', h' = HR2 v' (es ++ [entM word i l])
theorem itoa_len (i : Int) (h : -9223372036854775808 ≤ i ∧ i < 9223372036854775808) : 1 ≤ (itoa i).length ∧ (itoa i).length ≤ 21 := by
  by_cases hn : i < 0
  · rw [itoa_negs hn]
    have := decs_len (u := i.natAbs) (by omega)
    simp; omega
  · obtain ⟨m, rfl⟩ : ∃ m : Nat, i = m := ⟨i.toNat, by omega⟩
    rw [itoa_nat]
    have := decs_len (u := m) (by omega)
    omega
theorem bytesL_bD : ∀ l : List UInt8, bytesL (l.map bD) = some l
  | [] => rfl
  | x :: l => by
    show (match bytesL (l.map bD) with | some r => some (UInt8.ofNat (x.toNat : Int).toNat :: r) | none => none) = some (x :: l)
    rw [bytesL_bD l]
    simp
theorem ACall.writeNew {full : Bool} {l : List Part} (hW : WriteC full l) (ht : (txt l).length < 2 ^ 28) {h : Hp} {n : Nat} (hn : h[n]? = some (.vard [.sl 0 true []])) {k : V → Hp → Prop}
    (hk : ∀ v', k (.tup []) ((h ++ [Blk.row v' 1 true ((txt l).map bD)] : Hp).set n (Blk.vard [.sl 1 false ((txt l).map bD)]))) : ACall Tryd.prog 64 [.ptr n 0 0 0, .d (.sl 1 full (l.map Part.d))] h k := by
  have hnl : n < h.length := (List.getElem?_eq_some_iff.1 hn).1
  refine ACall.pre (WkH.of fun N => Wk.virtC (i := 0) (a := 0) (sz := 1) false (by decide) hn rfl) ?_
  have hne : n ≠ h.length := by omega
  have hnd : [n, h.length].Nodup := by simp; omega
  refine ACall.upd (H := HT 0 []) rfl rfl (hW 0 [] ht) [n, h.length] (by simp; omega) rfl rfl (fun i m hi => ?_) ?_
  · match i, hi with
    | 0, hi =>
      simp at hi; subst hi
      rw [List.getElem?_set_self (by simp; omega)]; rfl
    | 1, hi =>
      simp at hi; subst hi
      rw [List.getElem?_set_ne (by omega)]
      simp [HT, renB]
  · rintro _ ⟨v', rfl⟩ _
    obtain ⟨F, hF⟩ : ∃ F, F = hset ((h ++ [Blk.row 0 1 false []]).set n (.var (([D.sl 0 true []].map V.d).set 0 (.sref h.length 0 0 0 false)))) ([n, h.length].zip ((HT v' (outT [] (wordsP l))).map (renB [n, h.length]))) := ⟨_, rfl⟩
    have hFn : F[n]? = some (.var (([D.sl 0 true []].map V.d).set 0 (.sref h.length v' 0 (txt l).length false))) := by
      rw [hF]
      exact hset_at [n, h.length] _ _ 0 n _ hnd rfl rfl (by rw [List.length_set, List.length_append]; omega)
    have hFm : F[h.length]? = some (.row v' 1 false ((txt l).map bD)) := by
      rw [hF]
      exact hset_at [n, h.length] _ _ 1 h.length _ hnd rfl rfl (by rw [List.length_set, List.length_append]; exact Nat.lt_succ_self _)
    have hFj : ∀ j, j ≠ n → j ≠ h.length → F[j]? = h[j]? := fun j h1 h2 => by
      rw [hF, hset_other _ _ j (fun p hp => by
        have := (List.of_mem_zip hp).1
        simp at this
        omega), List.getElem?_set_ne (Ne.symm h1)]
      by_cases hj : j < h.length
      · rw [List.getElem?_append_left hj]
      · rw [List.getElem?_eq_none (by simp; omega), List.getElem?_eq_none (by omega)]
    rw [← hF]
    refine ⟨_, WkH.of fun N => Wk.cell (i := 0) (ds := [D.sl 0 true []]) (lo := 0) (len := (txt l).length) (xs := (txt l).map bD) hFn hFm (by rw [List.length_map]; omega) (by decide), ?_⟩
    have he : ((F.set h.length (Blk.row v' 1 true ((txt l).map bD))).set n (Blk.vard ([D.sl 0 true []].set 0 (.sl 1 false ((((txt l).map bD).drop 0).take (txt l).length)))) : Hp) = (h ++ [Blk.row v' 1 true ((txt l).map bD)] : Hp).set n (Blk.vard [.sl 1 false ((txt l).map bD)]) := by
      have hFl : F.length = h.length + 1 := by rw [hF, hset_len]; simp
      refine List.ext_getElem? fun j => ?_
      by_cases h1 : j = n
      · subst h1
        rw [List.getElem?_set_self (by rw [List.length_set]; omega), List.getElem?_set_self (by rw [List.length_append]; omega)]
        simp
        exact List.take_of_length_le (by rw [List.length_map]; exact Nat.le_refl _)
      · rw [List.getElem?_set_ne (Ne.symm h1), List.getElem?_set_ne (Ne.symm h1)]
        by_cases h2 : j = h.length
        · subst h2
          rw [List.getElem?_set_self (by omega)]; simp
        · rw [List.getElem?_set_ne (Ne.symm h2), hFj j h1 h2]
          by_cases hj : j < h.length
          · rw [List.getElem?_append_left hj]
          · rw [List.getElem?_eq_none (by omega), List.getElem?_eq_none (by simp; omega)]
    rw [he]
    exact hk v'
theorem deltas_add (word : List UInt8) (hw : word.length < 100) (i : Int) (hi : okI i) (full : Bool) (l : List Part) (hl : l.length < 2 ^ 28) (hk : ∀ p ∈ l, p.ok) (ht : (txt l).length < 2 ^ 28) : AddC word i full l := by
  intro v es he
  have hW := write_all full l hl hk
  refine exUpd_sound (E := envOf Tryd.prog tt Tryd.f29.ntmps) (envOf_ok ttok mixed) Tryd.func29 (by rfl) rfl (Nat.le_of_ble_eq_true rfl) ?_
  have hil := itoa_len i ⟨hi.1, by have := hi.2; omega⟩
  unfold HR2
  repeat' ((conv => whnf); first | (with_reducible first | refine dT ?_ | refine dU ?_ | refine dF ?_ | refine dG ?_) | refine aT ?_ | refine aF ?_ | refine dS (fun _ => ?_) fun _ => ?_ | refine aW ?_ | refine aC ?_ | refine aL ?_ | refine Prep.skip ?_ | refine Eith.l ?_ | refine aD ?_ | refine aB (fun _ => ?_) fun _ => ?_ | (refine ACall.writeNew hW ht rfl ?_; intro v') | refine ACall.of (deltas_Itoa i ⟨hi.1, by have := hi.2; omega⟩) ?_ | refine APCall.of (deltas_Itoa i ⟨hi.1, by have := hi.2; omega⟩) ?_ | (conv => whnf); first | refine Chk.mk (baC _ [32] (by simp; omega)) ?_ | refine Nam.mk (ba_app _ [32]) ?_ | refine Chk.mk (baC (word ++ [32]) (itoa i) (by simp only [List.length_append, List.length_cons, List.length_nil]; omega)) ?_ | refine Nam.mk (ba_app (word ++ [32]) (itoa i)) ?_ | refine Nam.mk (bytesL_bD _) ?_ | (with_reducible first | refine dT ?_ | refine dU ?_ | refine dF ?_ | refine dG ?_) | refine aT ?_ | refine aF ?_ | refine dS (fun _ => ?_) fun _ => ?_ | refine aW ?_ | refine aC ?_ | refine aL ?_ | refine Prep.skip ?_ | refine Eith.l ?_ | refine aD ?_ | refine aB (fun _ => ?_) fun _ => ?_ | fail)
  all_goals (conv => whnf)
  refine ⟨rfl, rfl, v + 1, ?_⟩
  simp [HR2, entM, nameM, dropL, Ent.d]
end Go.PM
/- Deltas: what is reported; the elements of a list as parts. -/
namespace Go.PM
open Go.Proofs
set_option maxRecDepth 10000
set_option maxHeartbeats 2000000
structure Lin where
  a : Int
  b : Int
  c : Int
deriving DecidableEq
def Lin.d (x : Lin) : D := lineD x.a x.b x.c
def Lin.part (x : Lin) : Part := .line x.a x.b x.c
structure Bran where
  ch : List Int
  k : Int
  v : Int
  p : Int
deriving DecidableEq
def Bran.d (x : Bran) : D := branchD x.ch x.k x.v x.p
def Bran.part (x : Bran) : Part := .branch x.ch x.k x.v x.p
structure Rd where
  a : Int
  b : Int
  c : Int
  s : Int
  e : Int
deriving DecidableEq
def Rd.d (x : Rd) : D := readD' x.a x.b x.c x.s x.e
def Rd.part (x : Rd) : Part := .read x.a x.b x.c x.s x.e
structure Nee where
  l : Lin
  day : Int
  amt : Rat
  kind : Int
  no : Int
def Nee.d (x : Nee) : D := .agg [I x.l.a, I x.l.b, I x.l.c, I x.day, .b x.amt.neg, .s x.amt.n, .s x.amt.d, I x.kind, I x.no]
def Nee.parts (x : Nee) : List Part := [x.l.part, .int x.day, .ratio x.amt, .int x.kind, .int x.no]
structure Lo where
  l : Lin
  day : Int
  amt : Int
deriving DecidableEq
def Lo.d (x : Lo) : D := .agg [I x.l.a, I x.l.b, I x.l.c, I x.day, I x.amt]
def Lo.parts (x : Lo) : List Part := [x.l.part, .int x.day, .int x.amt]
structure Jo where
  a : Int
  b : Int
  c : Int
  s : Int
  e : Int
  f : Int
deriving DecidableEq
def Jo.d (x : Jo) : D := .agg [I x.a, I x.b, I x.c, I x.s, I x.e, I x.f]
def Jo.parts (x : Jo) : List Part := [.int x.a, .int x.b, .int x.c, .int x.s, .int x.e, .int x.f]
structure Pe where
  kind : Int
  no : Int
  need : Int
  amt : Rat
def Pe.d (x : Pe) : D := .agg [I x.kind, I x.no, I x.need, .b x.amt.neg, .s x.amt.n, .s x.amt.d]
def Pe.parts (x : Pe) : List Part := [.int x.kind, .int x.no, .int x.need, .ratio x.amt]
structure Pla where
  start : Int
  days : Int
  lines : List Lin
  needs : List Nee
  lots : List Lo
  costs : List Int
  jobs : List Jo
  pegs : List Pe
  late : List Int
def Pla.d (p : Pla) : D := .agg [I p.start, I p.days, SL 3 (p.lines.map Lin.d), SL 9 (p.needs.map Nee.d), SL 5 (p.lots.map Lo.d), SL 1 (p.costs.map I), SL 6 (p.jobs.map Jo.d), SL 6 (p.pegs.map Pe.d), SL 1 (p.late.map I)]
structure Ver where
  kind : Int
  wth : List Int
  wo : List Int
  leaves : List Bran
deriving DecidableEq
def Ver.d (x : Ver) : D := .agg [I x.kind, SL 1 (x.wth.map I), SL 1 (x.wo.map I), SL 4 (x.leaves.map Bran.d)]
structure Ans where
  ok : Bool
  amts : List (List Int)
  conf : List Int
  reads : List Rd
deriving DecidableEq
def IntsD (l : List Int) : D := SL 1 (l.map I)
def Ans.d (x : Ans) : D := .agg [.b x.ok, SL 1 (x.amts.map IntsD), SL 1 (x.conf.map I), SL 5 (x.reads.map Rd.d)]
def partsM {α : Type} (f : α → Part) (l : List α) : List Part := .int l.length :: l.map f
def Ver.parts (x : Ver) : List Part := [.int x.kind, .ints x.wth, .ints x.wo] ++ partsM Bran.part x.leaves
def Ans.parts (x : Ans) : List Part := [.bool x.ok] ++ partsM .ints x.amts ++ [.ints x.conf] ++ partsM Rd.part x.reads
structure XPa where
  i : Nat
  v : Nat
def partsI {α : Type} (f : α → Part) (l : List α) (i : Nat) : List D := (Part.int l.length :: (l.take i).map f).map Part.d
theorem partsI_one {α : Type} (f : α → Part) {l : List α} {y : α} (h : l[0]? = some y) : partsI f l 1 = [(Part.int l.length).d, (f y).d] := by
  cases l with
  | nil => cases h
  | cons z l => simp at h; subst h; rfl
theorem partsI_len {α : Type} (f : α → Part) {l : List α} {i : Nat} (hi : i ≤ l.length) : (partsI f l i).length = i + 1 := by
  simp [partsI]; omega
theorem partsI_next {α : Type} (f : α → Part) {l : List α} {y : α} {i : Nat} (h : l[i]? = some y) : partsI f l (i + 1) = partsI f l i ++ [(f y).d] := by
  unfold partsI
  rw [List.take_add_one, h]
  simp
theorem partsI_all {α : Type} (f : α → Part) (l : List α) : partsI f l l.length = (partsM f l).map Part.d := by
  unfold partsI partsM
  rw [List.take_length]
theorem parts_ints (l : List (List Int)) (hl : l.length < 2 ^ 28) : CallP Tryd.prog 67 [.d (SL 1 (l.map IntsD))] (retD [.sl 1 false ((partsM .ints l).map Part.d)]) := by
  refine exPure_sound (E := envOf Tryd.prog tt Tryd.f67.ntmps) (envOf_ok ttok mixed) Tryd.func67 (by rfl) rfl rfl (Nat.le_of_ble_eq_true rfl) ?_
  repeat' ((conv => whnf); first | (with_reducible first | refine dT ?_ | refine dU ?_ | refine dF ?_ | refine dG ?_) | refine aT ?_ | refine aF ?_ | refine dS (fun _ => ?_) fun _ => ?_ | refine aW ?_ | refine aC ?_ | refine aL ?_ | refine Prep.skip ?_ | refine Eith.l ?_ | refine aD ?_ | refine aB (fun _ => ?_) fun _ => ?_ | refine Nam.mk (List.length_map _) ?_ | fail)
  all_goals (conv => whnf)
  by_cases he : 0 < l.length
  · refine ALoop.peel (E := (envOf Tryd.prog tt Tryd.f67.ntmps)) (envOf_ok ttok mixed) ?_
    obtain ⟨y, hy, _⟩ := drop_get he
    repeat' ((conv => whnf); first | refine Eith.r (Chk.mk (by assumption) ?_) | (with_reducible first | refine dT ?_ | refine dU ?_ | refine dF ?_ | refine dG ?_) | refine aT ?_ | refine aF ?_ | refine dS (fun _ => ?_) fun _ => ?_ | refine aW ?_ | refine aC ?_ | refine aL ?_ | refine Prep.skip ?_ | refine Eith.l ?_ | refine aD ?_ | refine aB (fun _ => ?_) fun _ => ?_ | refine nthK_mk (map_get (f := IntsD) hy) ?_ | fail)
    all_goals (conv => whnf)
    refine ALoop.drop [5, 13, 14, 15, 16, 17, 18, 19, 20, 21] ?_
    conv => whnf
    refine ALoop.at (E := envOf Tryd.prog tt Tryd.f67.ntmps) (envOf_ok ttok mixed) (X := XPa) (fun x => [(12, .d (I x.i)), (3, .sref 0 x.v 0 (x.i + 1) false)]) (fun x => [(0, .row x.v 1 false (partsI .ints l x.i))]) (fun x => x.i ≤ l.length) (fun x => l.length - x.i) ⟨1, 0⟩ sam (by rw [partsI_one .ints hy]; rfl) he ?_
    rintro ⟨i, v⟩ hi
    dsimp only at hi
    dsimp only
    by_cases hlt : i < l.length
    · obtain ⟨z, hz, _⟩ := drop_get hlt
      have hpl := partsI_len .ints hi
      repeat' ((conv => whnf); first | (with_reducible first | refine dT ?_ | refine dU ?_ | refine dF ?_ | refine dG ?_) | refine aT ?_ | refine aF ?_ | refine dS (fun _ => ?_) fun _ => ?_ | refine aW ?_ | refine aC ?_ | refine aL ?_ | refine Prep.skip ?_ | refine Eith.l ?_ | refine aD ?_ | refine aB (fun _ => ?_) fun _ => ?_ | refine nthK_mk (map_get (f := IntsD) hz) ?_ | fail)
      all_goals (conv => whnf)
      all_goals first | (exfalso; omega) | skip
      refine ⟨⟨i + 1, v + 1⟩, ?_, hlt, by show l.length - (i + 1) < l.length - i; omega⟩
      dsimp only
      rw [partsI_next .ints hz]
      exact Wm.end sam rfl rfl rfl
    · have hie : i = l.length := by omega
      subst hie
      have hpl := partsI_len .ints hi
      repeat' ((conv => whnf); first | (with_reducible first | refine dT ?_ | refine dU ?_ | refine dF ?_ | refine dG ?_) | refine aT ?_ | refine aF ?_ | refine dS (fun _ => ?_) fun _ => ?_ | refine aW ?_ | refine aC ?_ | refine aL ?_ | refine Prep.skip ?_ | refine Eith.l ?_ | refine aD ?_ | refine aB (fun _ => ?_) fun _ => ?_ | fail)
      all_goals (conv => whnf)
      all_goals first | (exfalso; omega) | skip
      exact Nam.mk (y := (partsM .ints l).map Part.d) (by rw [← partsI_all .ints l]; exact List.take_of_length_le (by rw [List.drop_zero, hpl]; exact Nat.le_refl _)) (DLe.refl _)
  · have hn : l = [] := List.eq_nil_of_length_eq_zero (by omega)
    subst hn
    refine ALoop.rounds 1 ?_
    refine ALoopN.step (E := (envOf Tryd.prog tt Tryd.f67.ntmps)) (envOf_ok ttok mixed) ?_
    repeat' ((conv => whnf); first | (with_reducible first | refine dT ?_ | refine dU ?_ | refine dF ?_ | refine dG ?_) | refine aT ?_ | refine aF ?_ | refine dS (fun _ => ?_) fun _ => ?_ | refine aW ?_ | refine aC ?_ | refine aL ?_ | refine Prep.skip ?_ | refine Eith.l ?_ | refine aD ?_ | refine aB (fun _ => ?_) fun _ => ?_ | fail)
    all_goals (conv => whnf)
    exact DLe.full _ _ _
theorem parts_bran (l : List Bran) (hl : l.length < 2 ^ 28) : CallP Tryd.prog 66 [.d (SL 4 (l.map Bran.d))] (retD [.sl 1 false ((partsM Bran.part l).map Part.d)]) := by
  refine exPure_sound (E := envOf Tryd.prog tt Tryd.f66.ntmps) (envOf_ok ttok mixed) Tryd.func66 (by rfl) rfl rfl (Nat.le_of_ble_eq_true rfl) ?_
  repeat' ((conv => whnf); first | (with_reducible first | refine dT ?_ | refine dU ?_ | refine dF ?_ | refine dG ?_) | refine aT ?_ | refine aF ?_ | refine dS (fun _ => ?_) fun _ => ?_ | refine aW ?_ | refine aC ?_ | refine aL ?_ | refine Prep.skip ?_ | refine Eith.l ?_ | refine aD ?_ | refine aB (fun _ => ?_) fun _ => ?_ | refine Nam.mk (List.length_map _) ?_ | fail)
  all_goals (conv => whnf)
  by_cases he : 0 < l.length
  · refine ALoop.peel (E := (envOf Tryd.prog tt Tryd.f66.ntmps)) (envOf_ok ttok mixed) ?_
    obtain ⟨y, hy, _⟩ := drop_get he
    repeat' ((conv => whnf); first | refine Eith.r (Chk.mk (by assumption) ?_) | (with_reducible first | refine dT ?_ | refine dU ?_ | refine dF ?_ | refine dG ?_) | refine aT ?_ | refine aF ?_ | refine dS (fun _ => ?_) fun _ => ?_ | refine aW ?_ | refine aC ?_ | refine aL ?_ | refine Prep.skip ?_ | refine Eith.l ?_ | refine aD ?_ | refine aB (fun _ => ?_) fun _ => ?_ | refine nthK_mk (map_get (f := Bran.d) hy) ?_ | fail)
    all_goals (conv => whnf)
    refine ALoop.drop [5, 13, 14, 15, 16, 17, 18, 19, 20, 21] ?_
    conv => whnf
    refine ALoop.at (E := envOf Tryd.prog tt Tryd.f66.ntmps) (envOf_ok ttok mixed) (X := XPa) (fun x => [(12, .d (I x.i)), (3, .sref 1 x.v 0 (x.i + 1) false)]) (fun x => [(1, .row x.v 1 false (partsI Bran.part l x.i))]) (fun x => x.i ≤ l.length) (fun x => l.length - x.i) ⟨1, 0⟩ sam (by rw [partsI_one Bran.part hy]; rfl) he ?_
    rintro ⟨i, v⟩ hi
    dsimp only at hi
    dsimp only
    by_cases hlt : i < l.length
    · obtain ⟨z, hz, _⟩ := drop_get hlt
      have hpl := partsI_len Bran.part hi
      repeat' ((conv => whnf); first | (with_reducible first | refine dT ?_ | refine dU ?_ | refine dF ?_ | refine dG ?_) | refine aT ?_ | refine aF ?_ | refine dS (fun _ => ?_) fun _ => ?_ | refine aW ?_ | refine aC ?_ | refine aL ?_ | refine Prep.skip ?_ | refine Eith.l ?_ | refine aD ?_ | refine aB (fun _ => ?_) fun _ => ?_ | refine nthK_mk (map_get (f := Bran.d) hz) ?_ | fail)
      all_goals (conv => whnf)
      all_goals first | (exfalso; omega) | skip
      refine ⟨⟨i + 1, v + 1⟩, ?_, hlt, by show l.length - (i + 1) < l.length - i; omega⟩
      dsimp only
      rw [partsI_next Bran.part hz]
      exact Wm.end sam rfl rfl rfl
    · have hie : i = l.length := by omega
      subst hie
      have hpl := partsI_len Bran.part hi
      repeat' ((conv => whnf); first | (with_reducible first | refine dT ?_ | refine dU ?_ | refine dF ?_ | refine dG ?_) | refine aT ?_ | refine aF ?_ | refine dS (fun _ => ?_) fun _ => ?_ | refine aW ?_ | refine aC ?_ | refine aL ?_ | refine Prep.skip ?_ | refine Eith.l ?_ | refine aD ?_ | refine aB (fun _ => ?_) fun _ => ?_ | fail)
      all_goals (conv => whnf)
      all_goals first | (exfalso; omega) | skip
      exact Nam.mk (y := (partsM Bran.part l).map Part.d) (by rw [← partsI_all Bran.part l]; exact List.take_of_length_le (by rw [List.drop_zero, hpl]; exact Nat.le_refl _)) (DLe.refl _)
  · have hn : l = [] := List.eq_nil_of_length_eq_zero (by omega)
    subst hn
    refine ALoop.rounds 1 ?_
    refine ALoopN.step (E := (envOf Tryd.prog tt Tryd.f66.ntmps)) (envOf_ok ttok mixed) ?_
    repeat' ((conv => whnf); first | (with_reducible first | refine dT ?_ | refine dU ?_ | refine dF ?_ | refine dG ?_) | refine aT ?_ | refine aF ?_ | refine dS (fun _ => ?_) fun _ => ?_ | refine aW ?_ | refine aC ?_ | refine aL ?_ | refine Prep.skip ?_ | refine Eith.l ?_ | refine aD ?_ | refine aB (fun _ => ?_) fun _ => ?_ | fail)
    all_goals (conv => whnf)
    exact DLe.full _ _ _
theorem parts_read (l : List Rd) (hl : l.length < 2 ^ 28) : CallP Tryd.prog 68 [.d (SL 5 (l.map Rd.d))] (retD [.sl 1 false ((partsM Rd.part l).map Part.d)]) := by
  refine exPure_sound (E := envOf Tryd.prog tt Tryd.f68.ntmps) (envOf_ok ttok mixed) Tryd.func68 (by rfl) rfl rfl (Nat.le_of_ble_eq_true rfl) ?_
  repeat' ((conv => whnf); first | (with_reducible first | refine dT ?_ | refine dU ?_ | refine dF ?_ | refine dG ?_) | refine aT ?_ | refine aF ?_ | refine dS (fun _ => ?_) fun _ => ?_ | refine aW ?_ | refine aC ?_ | refine aL ?_ | refine Prep.skip ?_ | refine Eith.l ?_ | refine aD ?_ | refine aB (fun _ => ?_) fun _ => ?_ | refine Nam.mk (List.length_map _) ?_ | fail)
  all_goals (conv => whnf)
  by_cases he : 0 < l.length
  · refine ALoop.peel (E := (envOf Tryd.prog tt Tryd.f68.ntmps)) (envOf_ok ttok mixed) ?_
    obtain ⟨y, hy, _⟩ := drop_get he
    repeat' ((conv => whnf); first | refine Eith.r (Chk.mk (by assumption) ?_) | (with_reducible first | refine dT ?_ | refine dU ?_ | refine dF ?_ | refine dG ?_) | refine aT ?_ | refine aF ?_ | refine dS (fun _ => ?_) fun _ => ?_ | refine aW ?_ | refine aC ?_ | refine aL ?_ | refine Prep.skip ?_ | refine Eith.l ?_ | refine aD ?_ | refine aB (fun _ => ?_) fun _ => ?_ | refine nthK_mk (map_get (f := Rd.d) hy) ?_ | fail)
    all_goals (conv => whnf)
    refine ALoop.drop [5, 13, 14, 15, 16, 17, 18, 19, 20, 21] ?_
    conv => whnf
    refine ALoop.at (E := envOf Tryd.prog tt Tryd.f68.ntmps) (envOf_ok ttok mixed) (X := XPa) (fun x => [(12, .d (I x.i)), (3, .sref 1 x.v 0 (x.i + 1) false)]) (fun x => [(1, .row x.v 1 false (partsI Rd.part l x.i))]) (fun x => x.i ≤ l.length) (fun x => l.length - x.i) ⟨1, 0⟩ sam (by rw [partsI_one Rd.part hy]; rfl) he ?_
    rintro ⟨i, v⟩ hi
    dsimp only at hi
    dsimp only
    by_cases hlt : i < l.length
    · obtain ⟨z, hz, _⟩ := drop_get hlt
      have hpl := partsI_len Rd.part hi
      repeat' ((conv => whnf); first | (with_reducible first | refine dT ?_ | refine dU ?_ | refine dF ?_ | refine dG ?_) | refine aT ?_ | refine aF ?_ | refine dS (fun _ => ?_) fun _ => ?_ | refine aW ?_ | refine aC ?_ | refine aL ?_ | refine Prep.skip ?_ | refine Eith.l ?_ | refine aD ?_ | refine aB (fun _ => ?_) fun _ => ?_ | refine nthK_mk (map_get (f := Rd.d) hz) ?_ | fail)
      all_goals (conv => whnf)
      all_goals first | (exfalso; omega) | skip
      refine ⟨⟨i + 1, v + 1⟩, ?_, hlt, by show l.length - (i + 1) < l.length - i; omega⟩
      dsimp only
      rw [partsI_next Rd.part hz]
      exact Wm.end sam rfl rfl rfl
    · have hie : i = l.length := by omega
      subst hie
      have hpl := partsI_len Rd.part hi
      repeat' ((conv => whnf); first | (with_reducible first | refine dT ?_ | refine dU ?_ | refine dF ?_ | refine dG ?_) | refine aT ?_ | refine aF ?_ | refine dS (fun _ => ?_) fun _ => ?_ | refine aW ?_ | refine aC ?_ | refine aL ?_ | refine Prep.skip ?_ | refine Eith.l ?_ | refine aD ?_ | refine aB (fun _ => ?_) fun _ => ?_ | fail)
      all_goals (conv => whnf)
      all_goals first | (exfalso; omega) | skip
      exact Nam.mk (y := (partsM Rd.part l).map Part.d) (by rw [← partsI_all Rd.part l]; exact List.take_of_length_le (by rw [List.drop_zero, hpl]; exact Nat.le_refl _)) (DLe.refl _)
  · have hn : l = [] := List.eq_nil_of_length_eq_zero (by omega)
    subst hn
    refine ALoop.rounds 1 ?_
    refine ALoopN.step (E := (envOf Tryd.prog tt Tryd.f68.ntmps)) (envOf_ok ttok mixed) ?_
    repeat' ((conv => whnf); first | (with_reducible first | refine dT ?_ | refine dU ?_ | refine dF ?_ | refine dG ?_) | refine aT ?_ | refine aF ?_ | refine dS (fun _ => ?_) fun _ => ?_ | refine aW ?_ | refine aC ?_ | refine aL ?_ | refine Prep.skip ?_ | refine Eith.l ?_ | refine aD ?_ | refine aB (fun _ => ?_) fun _ => ?_ | fail)
    all_goals (conv => whnf)
    exact DLe.full _ _ _
end Go.PM
/- Deltas: entries of verdicts and answers. -/
namespace Go.PM
open Go.Proofs
set_option maxRecDepth 10000
set_option maxHeartbeats 2000000
structure okP (l : List Part) : Prop where
  len : l.length < 2 ^ 28
  ok : ∀ p ∈ l, p.ok
  txt : (txt l).length < 2 ^ 28
theorem ACall.add {word : List UInt8} {i : Int} {full : Bool} {l : List Part} (hw : word.length < 100) (hi : okI i) (hl : okP l) {n0 n1 v n : Nat} {es : List Ent} {rs : List D} (hne : n0 ≠ n1) (he : es.length < 2 ^ 28) {h : Hp} (h0 : h[n0]? = some (.var [.sref n1 v 0 n false])) (hn : n = es.length) (h1 : h[n1]? = some (.row v 2 false rs)) (hx : rs = es.map Ent.d) {w : ByteArray} (hww : w = ⟨word.toArray⟩) {ps : List D} (hps : ps = l.map Part.d) {k : V → Hp → Prop}
    (hk : ∀ v', k (.tup []) ((h.set n0 (.var [.sref n1 v' 0 (es ++ [entM word i l]).length false])).set n1 (.row v' 2 false ((es ++ [entM word i l]).map Ent.d)))) : ACall Tryd.prog 29 [.ptr n0 0 0 0, .d (.s w), .d (I i), .d (.sl 1 full ps)] h k := by
  subst hn; subst hx; subst hww; subst hps
  refine ACall.upd (H := HR2 v es) rfl rfl (deltas_add word hw i hi full l hl.len hl.ok hl.txt v es he) [n0, n1] (by simp; exact hne) rfl rfl (fun i m hi => ?_) ?_
  · match i, hi with
    | 0, hi => simp at hi; subst hi; rw [h0]; rfl
    | 1, hi => simp at hi; subst hi; rw [h1]; rfl
  · rintro _ ⟨v', rfl⟩ _
    exact ⟨_, WkH.refl _, hk v'⟩
def upd2 (v : Nat) (es : List Ent) (r : List D) (h' : Hp) (fs : List Ent) : Prop := r = [] ∧ h'.length = (HR2 v es).length ∧ h'.all (okB (HR2 v es).length) = true ∧ ∃ v', h' = HR2 v' (es ++ fs)
theorem deltas_addVerdict (i : Int) (hi : okI i) (x : Ver) (hx : okP x.parts) (hl : x.leaves.length < 2 ^ 27) (v : Nat) (es : List Ent) (he : es.length < 2 ^ 28) :
    CallV Tryd.prog 30 [.ptr 0 0 0 0, .d (I i), .d x.d] (HR2 v es) fun r h' => r = retD [] ∧ h'.length = (HR2 v es).length ∧ h'.all (okB (HR2 v es).length) = true ∧ ∃ v', h' = HR2 v' (es ++ [entM [118, 101, 114, 100, 105, 99, 116] i x.parts]) := by
  refine exUpd_sound (E := envOf Tryd.prog tt Tryd.f30.ntmps) (envOf_ok ttok mixed) Tryd.func30 (by rfl) rfl (Nat.le_of_ble_eq_true rfl) ?_
  unfold HR2
  repeat' ((conv => whnf); first | (with_reducible first | refine dT ?_ | refine dU ?_ | refine dF ?_ | refine dG ?_) | refine aT ?_ | refine aF ?_ | refine dS (fun _ => ?_) fun _ => ?_ | refine aW ?_ | refine aC ?_ | refine aL ?_ | refine Prep.skip ?_ | refine Eith.l ?_ | refine aD ?_ | refine aB (fun _ => ?_) fun _ => ?_ | refine ACall.of (parts_bran x.leaves (by omega)) ?_ | refine Chk.mk ⟨.inr (by simp [partsM]), by simp [partsM, room]; omega⟩ ?_ | (refine ACall.add (word := [118, 101, 114, 100, 105, 99, 116]) (l := x.parts) (by decide) hi hx (by decide) he rfl rfl rfl rfl rfl rfl ?_; intro v') | refine Nam.mk (y := x.parts.map Part.d) ((List.take_of_length_le (by simp; omega)).trans (by simp [Ver.parts, Part.d, dropL])) ?_ | refine ACall.lift ?_ | fail)
  all_goals (conv => whnf)
  exact ⟨rfl, rfl, v', rfl⟩
theorem deltas_addAnswer (i : Int) (hi : okI i) (x : Ans) (hx : okP x.parts) (hl : x.amts.length < 2 ^ 27) (hr : x.reads.length < 2 ^ 27) (v : Nat) (es : List Ent) (he : es.length < 2 ^ 28) :
    CallV Tryd.prog 31 [.ptr 0 0 0 0, .d (I i), .d x.d] (HR2 v es) fun r h' => r = retD [] ∧ h'.length = (HR2 v es).length ∧ h'.all (okB (HR2 v es).length) = true ∧ ∃ v', h' = HR2 v' (es ++ [entM [97, 110, 115, 119, 101, 114] i x.parts]) := by
  refine exUpd_sound (E := envOf Tryd.prog tt Tryd.f31.ntmps) (envOf_ok ttok mixed) Tryd.func31 (by rfl) rfl (Nat.le_of_ble_eq_true rfl) ?_
  unfold HR2
  repeat' ((conv => whnf); first | (with_reducible first | refine dT ?_ | refine dU ?_ | refine dF ?_ | refine dG ?_) | refine aT ?_ | refine aF ?_ | refine dS (fun _ => ?_) fun _ => ?_ | refine aW ?_ | refine aC ?_ | refine aL ?_ | refine Prep.skip ?_ | refine Eith.l ?_ | refine aD ?_ | refine aB (fun _ => ?_) fun _ => ?_ | refine ACall.of (parts_ints x.amts (by omega)) ?_ | refine ACall.of (parts_read x.reads (by omega)) ?_ | refine APCall.of (parts_ints x.amts (by omega)) ?_ | refine APCall.of (parts_read x.reads (by omega)) ?_ | refine Chk.mk ⟨.inr (by simp [partsM]), by simp [partsM, room]; omega⟩ ?_ | refine Chk.mk ⟨rfl, by simp [dropL] <;> omega, by simp [partsM, room, dropL] <;> omega⟩ ?_ | (refine ACall.add (word := [97, 110, 115, 119, 101, 114]) (l := x.parts) (by decide) hi hx (by decide) he rfl rfl rfl rfl rfl rfl ?_; intro v') | refine Nam.mk (y := x.parts.map Part.d) ((List.take_of_length_le (by simp [dropL] <;> omega)).trans (by simp [Ans.parts, Part.d, dropL])) ?_ | refine ACall.lift ?_ | fail)
  all_goals (conv => whnf)
  exact ⟨rfl, rfl, v', rfl⟩
end Go.PM
