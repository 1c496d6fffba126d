/- Deltas: bytes in hexadecimal digits, ratios. -/
import Derived.Test.YtfckliidjmeeaaaDoorD42b
import Derived.Test.YtfckliidjmeeaaaDoorD42dtoD42g
import Derived.Test.YtfckliidjmeeaaaDoorPmRectoPmUpd
namespace Go.PM
open Go.Proofs
set_option maxRecDepth 10000
set_option maxHeartbeats 1000000
def digs : List UInt8 := [48, 49, 50, 51, 52, 53, 54, 55, 56, 57, 97, 98, 99, 100, 101, 102]
def hexB (c : UInt8) : List UInt8 := [digs.getD (c.toNat / 16) 0, digs.getD (c.toNat % 16) 0]
def hexL (l : List UInt8) : List UInt8 := l.flatMap hexB
structure Rat where
  neg : Bool
  n : ByteArray
  d : ByteArray
def Rat.cells (r : Rat) : D := .agg [.b r.neg, .s r.n, .s r.d]
def ratM (r : Rat) : List UInt8 := (if r.neg then [45] else []) ++ hexL r.n.data.toList ++ 47 :: hexL r.d.data.toList
theorem hexL_snoc (l : List UInt8) (c : UInt8) : hexL (l ++ [c]) = hexL l ++ hexB c := by simp [hexL]
theorem hexL_len (l : List UInt8) : (hexL l).length = 2 * l.length := by
  induction l with
  | nil => rfl
  | cons c l ih => simp only [hexL, List.flatMap_cons, List.length_append, List.length_cons] at *; simp only [hexB, List.length_cons, List.length_nil]; omega
theorem and15' : ∀ n : Nat, n < 256 → bitsOp .and .u8 (n : Int) 15 = ((n % 16 : Nat) : Int) := by decide +kernel
theorem shr4' : ∀ n : Nat, n < 256 → ((n : Int).fdiv (2 ^ (min (4 : Int).toNat (IntKind.bits .u8)))).toNat = n / 16 := by decide +kernel
theorem and15 (c : UInt8) : (bitsOp .and .u8 (c.toNat : Int) 15).toNat = c.toNat % 16 := by rw [and15' _ (UInt8.toNat_lt c)]; rfl
theorem shr4 (c : UInt8) : ((c.toNat : Int).fdiv (2 ^ (min (4 : Int).toNat (IntKind.bits .u8)))).toNat = c.toNat / 16 := shr4' _ (UInt8.toNat_lt c)
theorem shr4p (c : UInt8) : 0 ≤ (c.toNat : Int).fdiv (2 ^ (min (4 : Int).toNat (IntKind.bits .u8))) := Int.fdiv_nonneg (by omega) (by decide)
theorem and15p (c : UInt8) : 0 ≤ bitsOp .and .u8 (c.toNat : Int) 15 := by rw [and15' _ (UInt8.toNat_lt c)]; omega
theorem digs_at {k : Nat} (hk : k < 16) : digs[k]? = some (digs.getD k 0) := by
  rw [List.getD_eq_getElem?_getD, List.getElem?_eq_getElem (show k < digs.length from hk)]; rfl
theorem deltas_hex (s : ByteArray) (hs : s.size < 2 ^ 28) : CallRow Tryd.prog 98 [.d (.s s)] 1 ((hexL s.data.toList).map bD) := by
  refine exRow_sound (E := envOf Tryd.prog tt Tryd.f98.ntmps) (envOf_ok ttok mixed) Tryd.func98 (by rfl) rfl rfl (Nat.le_of_ble_eq_true rfl) ?_
  repeat' ((conv => whnf); first | (with_reducible first | refine dT ?_ | refine dU ?_ | refine dF ?_ | refine dG ?_) | refine aT ?_ | refine aF ?_ | refine dS (fun _ => ?_) fun _ => ?_ | refine aW ?_ | refine aC ?_ | refine aL ?_ | refine Prep.skip ?_ | refine Eith.l ?_ | refine aD ?_ | refine aB (fun _ => ?_) fun _ => ?_ | fail)
  all_goals (conv => whnf)
  refine ALoop.virt 2 0 1 false (by decide) rfl ?_
  conv => whnf
  have hsz : s.size = s.data.toList.length := by rw [Array.length_toList]; rfl
  refine ALoop.at (E := envOf Tryd.prog tt Tryd.f98.ntmps) (envOf_ok ttok mixed) (X := Nat) (fun i => [(6, .d (I i)), (2, .sref 0 i 0 (hexL (s.data.toList.take i)).length false)]) (fun i => [(0, .row i 1 false ((hexL (s.data.toList.take i)).map bD))]) (fun i => i ≤ s.size) (fun i => s.size - i) 0 sam rfl (Nat.zero_le _) ?_
  intro i hi
  by_cases hlt : i < s.size
  · obtain ⟨c, hc, _⟩ := drop_get (l := s.data.toList) (i := i) (by omega)
    have hc0 : s.data.toList[((i : Nat) : Int).toNat]? = some c := by rw [Int.toNat_natCast]; exact hc
    have h1 : digs[((c.toNat : Int).fdiv (2 ^ (min (4 : Int).toNat (IntKind.bits .u8)))).toNat]? = some (digs.getD (c.toNat / 16) 0) := by rw [shr4]; exact digs_at (by have := UInt8.toNat_lt c; omega)
    have h2 : digs[(bitsOp .and .u8 (c.toNat : Int) 15).toNat]? = some (digs.getD (c.toNat % 16) 0) := by rw [and15]; exact digs_at (by omega)
    have hl : (hexL (s.data.toList.take i)).length = 2 * i := by rw [hexL_len, List.length_take]; omega
    have hnext : hexL (s.data.toList.take (i + 1)) = hexL (s.data.toList.take i) ++ hexB c := by rw [List.take_add_one, hc, Option.toList_some, hexL_snoc]
    repeat' ((conv => whnf); first | refine Chk.mk (shr4p c) ?_ | refine Chk.mk (and15p c) ?_ | (with_reducible first | refine dT ?_ | refine dU ?_ | refine dF ?_ | refine dG ?_) | refine aT ?_ | refine aF ?_ | refine dS (fun _ => ?_) fun _ => ?_ | refine aW ?_ | refine aC ?_ | refine aL ?_ | refine Prep.skip ?_ | refine Eith.l ?_ | refine aD ?_ | refine aB (fun _ => ?_) fun _ => ?_ | refine nthK_mk hc0 ?_ | refine nthK_mk h1 ?_ | refine nthK_mk h2 ?_ | fail)
    all_goals (conv => whnf)
    all_goals first
      | (refine ⟨i + 1, ?_, hlt, by omega⟩
         rw [hnext, List.length_append, List.map_append]
         exact Wm.end sam rfl rfl rfl)
  · have hti : s.data.toList.take i = s.data.toList := List.take_of_length_le (by omega)
    rw [hti]
    repeat' ((conv => whnf); first | (with_reducible first | refine dT ?_ | refine dU ?_ | refine dF ?_ | refine dG ?_) | refine aT ?_ | refine aF ?_ | refine dS (fun _ => ?_) fun _ => ?_ | refine aW ?_ | refine aC ?_ | refine aL ?_ | refine Prep.skip ?_ | refine Eith.l ?_ | refine aD ?_ | refine aB (fun _ => ?_) fun _ => ?_ | fail)
    all_goals (conv => whnf)
    all_goals first | (exfalso; omega) | exact Nam.mk (y := (hexL s.data.toList).map bD) (whole (List.length_map _).symm) rfl
abbrev digB : ByteArray := ⟨#[48, 49, 50, 51, 52, 53, 54, 55, 56, 57, 97, 98, 99, 100, 101, 102]⟩
theorem dig1 : ∀ k : Nat, k < 16 → (digB.extract k (k + 1)).data.toList = [digs.getD k 0] := by decide +kernel
theorem ba_ext {x y : ByteArray} (h : x.data.toList = y.data.toList) : x = y := ba_inj (by rw [ba_list, ba_list, h])
theorem ba_app (a b : List UInt8) : (⟨a.toArray⟩ : ByteArray) ++ ⟨b.toArray⟩ = ⟨(a ++ b).toArray⟩ := ba_ext (by simp [ByteArray.data_append])
theorem digX (k : Nat) (hk : k < 16) (l h : Int) (hl : l = k) (hh : h = (k : Int) + 1) (acc : List UInt8) : (⟨acc.toArray⟩ : ByteArray) ++ digB.extract l.toNat h.toNat = ⟨(acc ++ [digs.getD k 0]).toArray⟩ := by
  subst hl; subst hh
  rw [← ba_app]
  congr 1
  refine ba_ext ?_
  rw [show (((k : Int) + 1).toNat) = k + 1 by omega, Int.toNat_natCast, dig1 k hk]
theorem digS (k : Nat) (hk : k < 16) (l h : Int) (hl : l = k) (hh : h = (k : Int) + 1) : (digB.extract l.toNat h.toNat).size = 1 := by
  subst hl; subst hh
  rw [show (((k : Int) + 1).toNat) = k + 1 by omega, Int.toNat_natCast, ByteArray.size, ← Array.length_toList, dig1 k hk]; rfl
theorem digC (acc : List UInt8) (ha : acc.length < 2 ^ 30) (k : Nat) (hk : k < 16) (l h : Int) (hl : l = k) (hh : h = (k : Int) + 1) : (⟨acc.toArray⟩ : ByteArray).size + (digB.extract l.toNat h.toNat).size < 4611686018427387904 := by
  rw [digS k hk l h hl hh]
  have : (⟨acc.toArray⟩ : ByteArray).size = acc.length := by simp [ByteArray.size]
  omega
theorem tdiv16 (n : Nat) : ((n : Int).tdiv 16) = ((n / 16 : Nat) : Int) := by rw [Int.tdiv_eq_ediv_of_nonneg (by omega)]; omega
theorem tmod16 (n : Nat) : ((n : Int).tmod 16) = ((n % 16 : Nat) : Int) := by rw [Int.tmod_eq_emod_of_nonneg (by omega)]; omega
theorem ref42_hex (s : ByteArray) (hs : s.size < 2 ^ 28) : CallP Tryd.prog 72 [.d (.s s)] (retD [.s ⟨(hexL s.data.toList).toArray⟩]) := by
  refine exPure_sound (E := envOf Tryd.prog tt Tryd.f72.ntmps) (envOf_ok ttok mixed) Tryd.func72 (by rfl) rfl rfl (Nat.le_of_ble_eq_true rfl) ?_
  repeat' ((conv => whnf); first | (with_reducible first | refine dT ?_ | refine dU ?_ | refine dF ?_ | refine dG ?_) | refine aT ?_ | refine aF ?_ | refine dS (fun _ => ?_) fun _ => ?_ | refine aW ?_ | refine aC ?_ | refine aL ?_ | refine Prep.skip ?_ | refine Eith.l ?_ | refine aD ?_ | refine aB (fun _ => ?_) fun _ => ?_ | fail)
  all_goals (conv => whnf)
  have hsz : s.size = s.data.toList.length := by rw [Array.length_toList]; rfl
  refine ALoop.at (E := envOf Tryd.prog tt Tryd.f72.ntmps) (envOf_ok ttok mixed) (X := Nat) (fun i => [(4, .d (I i)), (3, .d (.s ⟨(hexL (s.data.toList.take i)).toArray⟩))]) (fun _ => []) (fun i => i ≤ s.size) (fun i => s.size - i) 0 sam rfl (Nat.zero_le _) ?_
  intro i hi
  by_cases hlt : i < s.size
  · obtain ⟨c, hc, _⟩ := drop_get (l := s.data.toList) (i := i) (by omega)
    have hc0 : s.data.toList[((i : Nat) : Int).toNat]? = some c := by rw [Int.toNat_natCast]; exact hc
    have hl : (hexL (s.data.toList.take i)).length = 2 * i := by rw [hexL_len, List.length_take]; omega
    have hnext : hexL (s.data.toList.take (i + 1)) = hexL (s.data.toList.take i) ++ hexB c := by rw [List.take_add_one, hc, Option.toList_some, hexL_snoc]
    have hcl := UInt8.toNat_lt c
    have e1 := tdiv16 c.toNat
    have e2 := tmod16 c.toNat
    obtain ⟨m1, hm1⟩ : ∃ m1, m1 = c.toNat / 16 := ⟨_, rfl⟩
    obtain ⟨m2, hm2⟩ : ∃ m2, m2 = c.toNat % 16 := ⟨_, rfl⟩
    have hb : hexB c = [digs.getD m1 0] ++ [digs.getD m2 0] := by rw [hm1, hm2]; rfl
    rw [← hm1] at e1
    rw [← hm2] at e2
    have b1 : m1 < 16 := by omega
    have b2 : m2 < 16 := by omega
    have sz : ((digB.size : Nat) : Int) = 16 := rfl
    have al : ∀ l : List UInt8, (⟨l.toArray⟩ : ByteArray).size = l.length := fun l => by simp [ByteArray.size]
    repeat' ((conv => whnf); first | refine Wr.u8 (m1 : Int) e1 (by omega) ?_ | refine Wr.u8 ((m1 : Int) + 1) rfl (by omega) ?_ | refine Wr.u8 ((m2 : Int) + 1) (by rw [e2]) (by omega) ?_ | refine Chk.mk (by (show (0 : Int) ≤ (m1 : Int) ∧ (m1 : Int) ≤ (m1 : Int) + 1 ∧ (m1 : Int) + 1 ≤ ((digB.size : Nat) : Int)); omega) ?_ | refine Chk.mk (by (show (0 : Int) ≤ (c.toNat : Int).tmod 16 ∧ (c.toNat : Int).tmod 16 ≤ (m2 : Int) + 1 ∧ (m2 : Int) + 1 ≤ ((digB.size : Nat) : Int)); rw [e2]; omega) ?_ | refine Chk.mk (show 16 ≠ 0 by decide) ?_ | with_reducible refine Nam.mk (digX m1 b1 (m1 : Int) ((m1 : Int) + 1) rfl rfl _) ?_ | with_reducible refine Nam.mk (digX m2 b2 ((c.toNat : Int).tmod 16) ((m2 : Int) + 1) e2 rfl _) ?_ | with_reducible refine Chk.mk (digC _ (by omega) m1 b1 (m1 : Int) ((m1 : Int) + 1) rfl rfl) ?_ | with_reducible refine Chk.mk (digC _ (by simp only [List.length_append, List.length_cons, List.length_nil]; omega) m2 b2 ((c.toNat : Int).tmod 16) ((m2 : Int) + 1) e2 rfl) ?_ | (with_reducible first | refine dT ?_ | refine dU ?_ | refine dF ?_ | refine dG ?_) | refine aT ?_ | refine aF ?_ | refine dS (fun _ => ?_) fun _ => ?_ | refine aW ?_ | refine aC ?_ | refine aL ?_ | refine Prep.skip ?_ | refine Eith.l ?_ | refine aD ?_ | refine aB (fun _ => ?_) fun _ => ?_ | refine nthK_mk hc0 ?_ | fail)
    all_goals (conv => whnf)
    all_goals first
      | (refine ⟨i + 1, ?_, hlt, by omega⟩
         rw [hnext, hb, ← List.append_assoc]
         exact Wm.end sam rfl rfl rfl)
  · have hti : s.data.toList.take i = s.data.toList := List.take_of_length_le (by omega)
    rw [hti]
    repeat' ((conv => whnf); first | (with_reducible first | refine dT ?_ | refine dU ?_ | refine dF ?_ | refine dG ?_) | refine aT ?_ | refine aF ?_ | refine dS (fun _ => ?_) fun _ => ?_ | refine aW ?_ | refine aC ?_ | refine aL ?_ | refine Prep.skip ?_ | refine Eith.l ?_ | refine aD ?_ | refine aB (fun _ => ?_) fun _ => ?_ | fail)
    all_goals (conv => whnf)
    all_goals first | (exfalso; omega) | exact DLe.refl _
end Go.PM
/- Deltas: ratios as text. -/
namespace Go.PM
open Go.Proofs
set_option maxRecDepth 10000
set_option maxHeartbeats 1000000
theorem baC (a b : List UInt8) (h : a.length + b.length < 4611686018427387904) : (⟨a.toArray⟩ : ByteArray).size + (⟨b.toArray⟩ : ByteArray).size < 4611686018427387904 := by
  have h1 : (⟨a.toArray⟩ : ByteArray).size = a.length := by simp [ByteArray.size]
  have h2 : (⟨b.toArray⟩ : ByteArray).size = b.length := by simp [ByteArray.size]
  omega
theorem b_len (s : ByteArray) : s.data.toList.length = s.size := by rw [Array.length_toList]; rfl
theorem deltas_ratio (r : Rat) (h1 : r.n.size < 2 ^ 26) (h2 : r.d.size < 2 ^ 26) : CallRow Tryd.prog 83 [.d r.cells] 1 ((ratM r).map bD) := by
  obtain ⟨neg, n, d⟩ := r
  simp only at h1 h2
  have l1 : (hexL n.data.toList).length = 2 * n.size := by rw [hexL_len, b_len]
  have l2 : (hexL d.data.toList).length = 2 * d.size := by rw [hexL_len, b_len]
  refine exRow_sound (E := envOf Tryd.prog tt Tryd.f83.ntmps) (envOf_ok ttok mixed) Tryd.func83 (by rfl) rfl rfl (Nat.le_of_ble_eq_true rfl) ?_
  cases neg
  all_goals (repeat' ((conv => whnf); first | refine Chk.mk ⟨.inl rfl, by simp [room]; omega⟩ ?_ | refine Chk.mk ⟨rfl, by simp [dropL] <;> omega, by simp [room]; omega⟩ ?_ | refine Nam.mk List.take_length ?_ | (with_reducible first | refine dT ?_ | refine dU ?_ | refine dF ?_ | refine dG ?_) | refine aT ?_ | refine aF ?_ | refine dS (fun _ => ?_) fun _ => ?_ | refine aW ?_ | refine aC ?_ | refine aL ?_ | refine Prep.skip ?_ | refine Eith.l ?_ | refine aD ?_ | refine aB (fun _ => ?_) fun _ => ?_ | refine ACall.ofRow (deltas_hex n (by omega)) ?_ | refine ACall.ofRow (deltas_hex d (by omega)) ?_ | fail))
  all_goals (conv => whnf)
  · exact Nam.mk (y := (ratM ⟨false, n, d⟩).map bD) ((List.take_of_length_le (by simp [dropL] <;> omega)).trans (by simp [dropL, ratM, bD])) rfl
  · exact Nam.mk (y := (ratM ⟨true, n, d⟩).map bD) ((List.take_of_length_le (by simp [dropL]; omega)).trans (by simp [dropL, ratM, bD])) rfl
theorem ref42_Ratio (r : Rat) (h1 : r.n.size < 2 ^ 26) (h2 : r.d.size < 2 ^ 26) : CallP Tryd.prog 36 [.d r.cells] (retD [.s ⟨(ratM r).toArray⟩]) := by
  obtain ⟨neg, n, d⟩ := r
  simp only at h1 h2
  have l1 : (hexL n.data.toList).length = 2 * n.size := by rw [hexL_len, b_len]
  have l2 : (hexL d.data.toList).length = 2 * d.size := by rw [hexL_len, b_len]
  refine exPure_sound (E := envOf Tryd.prog tt Tryd.f36.ntmps) (envOf_ok ttok mixed) Tryd.func36 (by rfl) rfl rfl (Nat.le_of_ble_eq_true rfl) ?_
  cases neg
  all_goals (repeat' ((conv => whnf); first | refine Chk.mk (baC _ [47] (by simp; omega)) ?_ | refine Nam.mk (ba_app _ [47]) ?_ | refine Chk.mk (baC (_ ++ [47]) _ (by simp; omega)) ?_ | refine Nam.mk (ba_app (_ ++ [47]) _) ?_ | refine Chk.mk (baC [45] _ (by simp; omega)) ?_ | refine Nam.mk (ba_app [45] _) ?_ | (with_reducible first | refine dT ?_ | refine dU ?_ | refine dF ?_ | refine dG ?_) | refine aT ?_ | refine aF ?_ | refine dS (fun _ => ?_) fun _ => ?_ | refine aW ?_ | refine aC ?_ | refine aL ?_ | refine Prep.skip ?_ | refine Eith.l ?_ | refine aD ?_ | refine aB (fun _ => ?_) fun _ => ?_ | refine ACall.of (ref42_hex n (by omega)) ?_ | refine ACall.of (ref42_hex d (by omega)) ?_ | refine APCall.of (ref42_hex n (by omega)) ?_ | refine APCall.of (ref42_hex d (by omega)) ?_ | fail))
  all_goals (conv => whnf)
  · rw [show ratM ⟨false, n, d⟩ = hexL n.data.toList ++ [47] ++ hexL d.data.toList from by simp [ratM]]; exact DLe.refl _
  · rw [show ratM ⟨true, n, d⟩ = [45] ++ (hexL n.data.toList ++ [47] ++ hexL d.data.toList) from by simp [ratM]]; exact DLe.refl _
end Go.PM
/- Deltas: parts written as text. -/
namespace Go.PM
open Go.Proofs
set_option maxRecDepth 10000
set_option maxHeartbeats 2000000
inductive Part where
  | int (n : Int)
  | bool (x : Bool)
  | ints (l : List Int)
  | ratio (r : Rat)
  | line (a b c : Int)
  | branch (l : List Int) (a b c : Int)
  | read (a b c d e : Int)
def lineD (a b c : Int) : D := .agg [I a, I b, I c]
def branchD (l : List Int) (a b c : Int) : D := .agg [SL 1 (l.map I), I a, I b, I c]
def readD' (a b c d e : Int) : D := .agg [I a, I b, I c, I d, I e]
def Part.d : Part → D
  | .int n => .any 3 (I n)
  | .bool x => .any 4 (.b x)
  | .ints l => .any 25 (SL 1 (l.map I))
  | .ratio r => .any 60 r.cells
  | .line a b c => .any 65 (lineD a b c)
  | .branch l a b c => .any 69 (branchD l a b c)
  | .read a b c d e => .any 125 (readD' a b c d e)
def wordsI (l : List Int) : List (List UInt8) := l.map itoa
def wordsL (l : List Int) : List (List UInt8) := itoa l.length :: wordsI l
def Part.words : Part → List (List UInt8)
  | .int n => [itoa n]
  | .bool x => [itoa (if x then 1 else 0)]
  | .ints l => wordsL l
  | .ratio r => [ratM r]
  | .line a b c => wordsI [a, b, c]
  | .branch l a b c => wordsL l ++ wordsI [a, b, c]
  | .read a b c d e => wordsI [a, b, c, d, e]
def outW (xs w : List UInt8) : List UInt8 := if xs = [] then w else xs ++ [32] ++ w
def outT (xs : List UInt8) (ws : List (List UInt8)) : List UInt8 := ws.foldl outW xs
theorem outT_app (xs : List UInt8) (a b : List (List UInt8)) : outT xs (a ++ b) = outT (outT xs a) b := by unfold outT; rw [List.foldl_append]
theorem outW_le (xs w : List UInt8) : xs.length ≤ (outW xs w).length ∧ w.length ≤ (outW xs w).length := by
  unfold outW; split
  · rename_i h; subst h; simp
  · simp; omega
theorem outT_le : ∀ (ws : List (List UInt8)) (xs : List UInt8), xs.length ≤ (outT xs ws).length
  | [], _ => Nat.le_refl _
  | w :: ws, xs => Nat.le_trans (outW_le xs w).1 (outT_le ws (outW xs w))
def HT (v : Nat) (xs : List UInt8) : Hp := [.var [.sref 1 v 0 xs.length false], .row v 1 false (xs.map bD)]
def okI (n : Int) : Prop := -9223372036854775808 ≤ n ∧ n < 9223372036854775808
def Part.ok : Part → Prop
  | .int n => okI n
  | .bool _ => True
  | .ints l => (∀ n ∈ l, okI n) ∧ l.length < 2 ^ 28
  | .ratio r => r.n.size < 2 ^ 26 ∧ r.d.size < 2 ^ 26
  | .line a b c => okI a ∧ okI b ∧ okI c
  | .branch l a b c => ((∀ n ∈ l, okI n) ∧ l.length < 2 ^ 28) ∧ okI a ∧ okI b ∧ okI c
  | .read a b c d e => okI a ∧ okI b ∧ okI c ∧ okI d ∧ okI e
def wordsP (l : List Part) : List (List UInt8) := l.flatMap Part.words
structure XW where
  i : Nat
  v : Nat
def WriteC (full : Bool) (l : List Part) : Prop := ∀ (v : Nat) (xs : List UInt8), (outT xs (wordsP l)).length < 2 ^ 28 →
  CallV Tryd.prog 64 [.ptr 0 0 0 0, .d (.sl 1 full (l.map Part.d))] (HT v xs) fun r h' => r = retD [] ∧ h'.length = (HT v xs).length ∧ h'.all (okB (HT v xs).length) = true ∧ ∃ v', h' = HT v' (outT xs (wordsP l))
theorem outP_next {l : List Part} {i : Nat} {p : Part} (xs : List UInt8) (h : l[i]? = some p) : outT xs (wordsP (l.take (i + 1))) = outT (outT xs (wordsP (l.take i))) p.words := by
  rw [← outT_app, List.take_add_one, h]
  simp [wordsP]
theorem outP_le (xs : List UInt8) (l : List Part) (i : Nat) : (outT xs (wordsP (l.take i))).length ≤ (outT xs (wordsP l)).length := by
  have : outT xs (wordsP l) = outT (outT xs (wordsP (l.take i))) (wordsP (l.drop i)) := by
    rw [← outT_app]
    congr 1
    unfold wordsP
    rw [← List.flatMap_append, List.take_append_drop]
  rw [this]
  exact outT_le _ _
theorem ACall.write {full : Bool} {l : List Part} (hW : WriteC full l) {v n : Nat} {xs : List UInt8} {rs : List D} (hb : (outT xs (wordsP l)).length < 2 ^ 28) {h : Hp} (h0 : h[0]? = some (.var [.sref 1 v 0 n false])) (hn : n = xs.length) (h1 : h[1]? = some (.row v 1 false rs)) (hx : rs = xs.map bD) {k : V → Hp → Prop}
    (hk : ∀ v', k (.tup []) ((h.set 0 (.var [.sref 1 v' 0 (outT xs (wordsP l)).length false])).set 1 (.row v' 1 false ((outT xs (wordsP l)).map bD)))) : ACall Tryd.prog 64 [.ptr 0 0 0 0, .d (.sl 1 full (l.map Part.d))] h k := by
  subst hn; subst hx
  refine ACall.upd (H := HT v xs) rfl rfl (hW v xs hb) [0, 1] (by decide) rfl rfl (fun i m hi => ?_) ?_
  · match i, hi with
    | 0, hi => simp at hi; subst hi; exact h0
    | 1, hi => simp at hi; subst hi; exact h1
  · rintro _ ⟨v', rfl⟩ _
    exact ⟨_, WkH.refl _, hk v'⟩
def Part.lev : Part → Nat
  | .int _ => 0
  | .branch _ _ _ _ => 2
  | _ => 1
def WriteN (k : Nat) : Prop := ∀ (full : Bool) (l : List Part), l.length < 2 ^ 28 → (∀ p ∈ l, p.lev ≤ k ∧ p.ok) → WriteC full l
theorem outW_eq (ys w : List UInt8) : (ys.length = 0 ∧ outW ys w = ys ++ w) ∨ (0 < ys.length ∧ outW ys w = ys ++ [32] ++ w) := by
  by_cases hy : ys = []
  · subst hy; exact .inl ⟨rfl, rfl⟩
  · exact .inr ⟨List.length_pos_iff.2 hy, by unfold outW; rw [if_neg hy]⟩
theorem write0 : WriteN 0 := by
  intro full l hl hk v xs hb
  refine exUpd_sound (E := envOf Tryd.prog tt Tryd.f64.ntmps) (envOf_ok ttok mixed) Tryd.func64 (by rfl) rfl (Nat.le_of_ble_eq_true rfl) ?_
  unfold HT
  repeat' ((conv => whnf); first | (with_reducible first | refine dT ?_ | refine dU ?_ | refine dF ?_ | refine dG ?_) | refine aT ?_ | refine aF ?_ | refine dS (fun _ => ?_) fun _ => ?_ | refine aW ?_ | refine aC ?_ | refine aL ?_ | refine Prep.skip ?_ | refine Eith.l ?_ | refine aD ?_ | refine aB (fun _ => ?_) fun _ => ?_ | refine Nam.mk (List.length_map _) ?_ | fail)
  all_goals (conv => whnf)
  refine ALoop.at (E := envOf Tryd.prog tt Tryd.f64.ntmps) (envOf_ok ttok mixed) (X := XW) (fun x => [(18, .d (I x.i))]) (fun x => [(0, .var [.sref 1 x.v 0 (outT xs (wordsP (l.take x.i))).length false]), (1, .row x.v 1 false ((outT xs (wordsP (l.take x.i))).map bD))]) (fun x => x.i ≤ l.length) (fun x => l.length - x.i) ⟨0, v⟩ sam rfl (Nat.zero_le _) ?_
  rintro ⟨i, v⟩ hi
  dsimp only at hi
  dsimp only
  by_cases hlt : i < l.length
  · obtain ⟨p, hp, _⟩ := drop_get hlt
    have hnext := outP_next xs hp
    have hle := outP_le xs l (i + 1)
    rw [hnext] at hle
    obtain ⟨ys, hys⟩ : ∃ ys, ys = outT xs (wordsP (l.take i)) := ⟨_, rfl⟩
    rw [← hys] at hnext hle ⊢
    obtain ⟨hlev, hko⟩ := hk p (List.mem_of_getElem? hp)
    cases p with
    | int n =>
      have hnext : outT xs (wordsP (l.take (i + 1))) = outW ys (itoa n) := hnext
      have hle : (outW ys (itoa n)).length < 2 ^ 28 := Nat.lt_of_le_of_lt hle hb
      rcases outW_eq ys (itoa n) with ⟨hy, ho⟩ | ⟨hy, ho⟩
      all_goals rw [ho] at hnext hle
      all_goals simp only [List.length_append, List.length_cons, List.length_nil] at hle
      all_goals (repeat' ((conv => whnf); first | refine Chk.mk ⟨rfl, by simp [dropL], by simp [room]; omega⟩ ?_ | refine Nam.mk List.take_length ?_ | (with_reducible first | refine dT ?_ | refine dU ?_ | refine dF ?_ | refine dG ?_) | refine aT ?_ | refine aF ?_ | refine dS (fun _ => ?_) fun _ => ?_ | refine aW ?_ | refine aC ?_ | refine aL ?_ | refine Prep.skip ?_ | refine Eith.l ?_ | refine aD ?_ | refine aB (fun _ => ?_) fun _ => ?_ | refine nthK_mk (map_get hp) ?_ | refine ACall.ofRow (deltas_AppendInt n hko) ?_ | refine ACall.body (E := envOf Tryd.prog tt Tryd.f81.ntmps) (envOf_ok ttok mixed) Tryd.func81 (by rfl) rfl (Nat.le_of_ble_eq_true rfl) ?_ | fail))
      all_goals (conv => whnf)
      all_goals first | (exfalso; omega) | skip
      · refine ⟨⟨i + 1, v + 1⟩, ?_, hlt, by show l.length - (i + 1) < l.length - i; omega⟩
        dsimp only
        rw [hnext]
        exact Wm.end sam (by simp [dropL, hset]) rfl rfl
      · refine ⟨⟨i + 1, v + 1 + 1⟩, ?_, hlt, by show l.length - (i + 1) < l.length - i; omega⟩
        dsimp only
        rw [hnext]
        exact Wm.end sam (by simp [dropL, hset, bD] <;> omega) rfl rfl
    | _ => cases hlev
  · have hti : l.take i = l := List.take_of_length_le (by omega)
    repeat' ((conv => whnf); first | (with_reducible first | refine dT ?_ | refine dU ?_ | refine dF ?_ | refine dG ?_) | refine aT ?_ | refine aF ?_ | refine dS (fun _ => ?_) fun _ => ?_ | refine aW ?_ | refine aC ?_ | refine aL ?_ | refine Prep.skip ?_ | refine Eith.l ?_ | refine aD ?_ | refine aB (fun _ => ?_) fun _ => ?_ | fail)
    all_goals (conv => whnf)
    all_goals first | (exfalso; omega) | exact ⟨rfl, rfl, v, by rw [hti]; rfl⟩
theorem write1 (k : Nat) (hW : WriteN k) : WriteN (k + 1) := by
  intro full l hl hk v xs hb
  refine exUpd_sound (E := envOf Tryd.prog tt Tryd.f64.ntmps) (envOf_ok ttok mixed) Tryd.func64 (by rfl) rfl (Nat.le_of_ble_eq_true rfl) ?_
  unfold HT
  repeat' ((conv => whnf); first | (with_reducible first | refine dT ?_ | refine dU ?_ | refine dF ?_ | refine dG ?_) | refine aT ?_ | refine aF ?_ | refine dS (fun _ => ?_) fun _ => ?_ | refine aW ?_ | refine aC ?_ | refine aL ?_ | refine Prep.skip ?_ | refine Eith.l ?_ | refine aD ?_ | refine aB (fun _ => ?_) fun _ => ?_ | refine Nam.mk (List.length_map _) ?_ | fail)
  all_goals (conv => whnf)
  refine ALoop.at (E := envOf Tryd.prog tt Tryd.f64.ntmps) (envOf_ok ttok mixed) (X := XW) (fun x => [(18, .d (I x.i))]) (fun x => [(0, .var [.sref 1 x.v 0 (outT xs (wordsP (l.take x.i))).length false]), (1, .row x.v 1 false ((outT xs (wordsP (l.take x.i))).map bD))]) (fun x => x.i ≤ l.length) (fun x => l.length - x.i) ⟨0, v⟩ sam rfl (Nat.zero_le _) ?_
  rintro ⟨i, v⟩ hi
  dsimp only at hi
  dsimp only
  by_cases hlt : i < l.length
  · obtain ⟨p, hp, _⟩ := drop_get hlt
    have hnext := outP_next xs hp
    have hle := outP_le xs l (i + 1)
    rw [hnext] at hle
    obtain ⟨ys, hys⟩ : ∃ ys, ys = outT xs (wordsP (l.take i)) := ⟨_, rfl⟩
    rw [← hys] at hnext hle ⊢
    obtain ⟨hlev, hko⟩ := hk p (List.mem_of_getElem? hp)
    cases p with
    | int n =>
      have hnext : outT xs (wordsP (l.take (i + 1))) = outW ys (itoa n) := hnext
      have hle : (outW ys (itoa n)).length < 2 ^ 28 := Nat.lt_of_le_of_lt hle hb
      rcases outW_eq ys (itoa n) with ⟨hy, ho⟩ | ⟨hy, ho⟩
      all_goals rw [ho] at hnext hle
      all_goals simp only [List.length_append, List.length_cons, List.length_nil] at hle
      all_goals (repeat' ((conv => whnf); first | refine Chk.mk ⟨rfl, by simp [dropL], by simp [room]; omega⟩ ?_ | refine Nam.mk List.take_length ?_ | (with_reducible first | refine dT ?_ | refine dU ?_ | refine dF ?_ | refine dG ?_) | refine aT ?_ | refine aF ?_ | refine dS (fun _ => ?_) fun _ => ?_ | refine aW ?_ | refine aC ?_ | refine aL ?_ | refine Prep.skip ?_ | refine Eith.l ?_ | refine aD ?_ | refine aB (fun _ => ?_) fun _ => ?_ | refine nthK_mk (map_get hp) ?_ | refine ACall.ofRow (deltas_AppendInt n hko) ?_ | refine ACall.body (E := envOf Tryd.prog tt Tryd.f81.ntmps) (envOf_ok ttok mixed) Tryd.func81 (by rfl) rfl (Nat.le_of_ble_eq_true rfl) ?_ | fail))
      all_goals (conv => whnf)
      all_goals first | (exfalso; omega) | skip
      · refine ⟨⟨i + 1, v + 1⟩, ?_, hlt, by show l.length - (i + 1) < l.length - i; omega⟩
        dsimp only
        rw [hnext]
        exact Wm.end sam (by simp [dropL, hset]) rfl rfl
      · refine ⟨⟨i + 1, v + 1 + 1⟩, ?_, hlt, by show l.length - (i + 1) < l.length - i; omega⟩
        dsimp only
        rw [hnext]
        exact Wm.end sam (by simp [dropL, hset, bD] <;> omega) rfl rfl
    | ratio r =>
      have hnext : outT xs (wordsP (l.take (i + 1))) = outW ys (ratM r) := hnext
      have hle : (outW ys (ratM r)).length < 2 ^ 28 := Nat.lt_of_le_of_lt hle hb
      rcases outW_eq ys (ratM r) with ⟨hy, ho⟩ | ⟨hy, ho⟩
      all_goals rw [ho] at hnext hle
      all_goals simp only [List.length_append, List.length_cons, List.length_nil] at hle
      all_goals (repeat' ((conv => whnf); first | refine Chk.mk ⟨rfl, by simp [dropL], by simp [room]; omega⟩ ?_ | refine Nam.mk List.take_length ?_ | (with_reducible first | refine dT ?_ | refine dU ?_ | refine dF ?_ | refine dG ?_) | refine aT ?_ | refine aF ?_ | refine dS (fun _ => ?_) fun _ => ?_ | refine aW ?_ | refine aC ?_ | refine aL ?_ | refine Prep.skip ?_ | refine Eith.l ?_ | refine aD ?_ | refine aB (fun _ => ?_) fun _ => ?_ | refine nthK_mk (map_get hp) ?_ | refine ACall.ofRow (deltas_ratio r hko.1 hko.2) ?_ | refine ACall.body (E := envOf Tryd.prog tt Tryd.f81.ntmps) (envOf_ok ttok mixed) Tryd.func81 (by rfl) rfl (Nat.le_of_ble_eq_true rfl) ?_ | fail))
      all_goals (conv => whnf)
      all_goals first | (exfalso; omega) | skip
      · refine ⟨⟨i + 1, v + 1⟩, ?_, hlt, by show l.length - (i + 1) < l.length - i; omega⟩
        dsimp only
        rw [hnext]
        exact Wm.end sam (by simp [dropL, hset, bD] <;> omega) rfl rfl
      · refine ⟨⟨i + 1, v + 1 + 1⟩, ?_, hlt, by show l.length - (i + 1) < l.length - i; omega⟩
        dsimp only
        rw [hnext]
        exact Wm.end sam (by simp [dropL, hset, bD] <;> omega) rfl rfl
    | line a b c =>
      have hle : (outT ys (wordsP [.int a, .int b, .int c])).length < 2 ^ 28 := Nat.lt_of_le_of_lt hle hb
      have hC := hW true [.int a, .int b, .int c] (by simp) (by simp only [List.mem_cons, List.not_mem_nil, or_false, forall_eq_or_imp, forall_eq]; exact ⟨⟨Nat.zero_le _, hko.1⟩, ⟨Nat.zero_le _, hko.2.1⟩, ⟨Nat.zero_le _, hko.2.2⟩⟩)
      have hnext : outT xs (wordsP (l.take (i + 1))) = outT ys (wordsP [.int a, .int b, .int c]) := hnext
      repeat' ((conv => whnf); first | (with_reducible first | refine dT ?_ | refine dU ?_ | refine dF ?_ | refine dG ?_) | refine aT ?_ | refine aF ?_ | refine dS (fun _ => ?_) fun _ => ?_ | refine aW ?_ | refine aC ?_ | refine aL ?_ | refine Prep.skip ?_ | refine Eith.l ?_ | refine aD ?_ | refine aB (fun _ => ?_) fun _ => ?_ | refine nthK_mk (map_get hp) ?_ | (refine ACall.write (l := [.int a, .int b, .int c]) hC hle rfl rfl rfl rfl ?_; intro v') | fail)
      all_goals (conv => whnf)
      all_goals first | (exfalso; omega) | skip
      all_goals (rename_i v')
      all_goals (refine ⟨⟨i + 1, v'⟩, ?_, hlt, by show l.length - (i + 1) < l.length - i; omega⟩)
      all_goals (dsimp only; rw [hnext])
      all_goals first | exact Wm.end sam rfl rfl rfl
    | read a b c d e =>
      have hle : (outT ys (wordsP [.int a, .int b, .int c, .int d, .int e])).length < 2 ^ 28 := Nat.lt_of_le_of_lt hle hb
      have hC := hW true [.int a, .int b, .int c, .int d, .int e] (by simp) (by simp only [List.mem_cons, List.not_mem_nil, or_false, forall_eq_or_imp, forall_eq]; exact ⟨⟨Nat.zero_le _, hko.1⟩, ⟨Nat.zero_le _, hko.2.1⟩, ⟨Nat.zero_le _, hko.2.2.1⟩, ⟨Nat.zero_le _, hko.2.2.2.1⟩, ⟨Nat.zero_le _, hko.2.2.2.2⟩⟩)
      have hnext : outT xs (wordsP (l.take (i + 1))) = outT ys (wordsP [.int a, .int b, .int c, .int d, .int e]) := hnext
      repeat' ((conv => whnf); first | (with_reducible first | refine dT ?_ | refine dU ?_ | refine dF ?_ | refine dG ?_) | refine aT ?_ | refine aF ?_ | refine dS (fun _ => ?_) fun _ => ?_ | refine aW ?_ | refine aC ?_ | refine aL ?_ | refine Prep.skip ?_ | refine Eith.l ?_ | refine aD ?_ | refine aB (fun _ => ?_) fun _ => ?_ | refine nthK_mk (map_get hp) ?_ | (refine ACall.write (l := [.int a, .int b, .int c, .int d, .int e]) hC hle rfl rfl rfl rfl ?_; intro v') | fail)
      all_goals (conv => whnf)
      all_goals first | (exfalso; omega) | skip
      all_goals (rename_i v')
      all_goals (refine ⟨⟨i + 1, v'⟩, ?_, hlt, by show l.length - (i + 1) < l.length - i; omega⟩)
      all_goals (dsimp only; rw [hnext])
      all_goals first | exact Wm.end sam rfl rfl rfl
    | branch ls a b c =>
      have hle : (outT ys (wordsP [.ints ls, .int a, .int b, .int c])).length < 2 ^ 28 := Nat.lt_of_le_of_lt hle hb
      have hC := hW true [.ints ls, .int a, .int b, .int c] (by simp) (by simp only [List.mem_cons, List.not_mem_nil, or_false, forall_eq_or_imp, forall_eq]; exact ⟨⟨Nat.le_of_succ_le_succ hlev, hko.1⟩, ⟨Nat.zero_le _, hko.2.1⟩, ⟨Nat.zero_le _, hko.2.2.1⟩, ⟨Nat.zero_le _, hko.2.2.2⟩⟩)
      have hnext : outT xs (wordsP (l.take (i + 1))) = outT ys (wordsP [.ints ls, .int a, .int b, .int c]) := hnext
      repeat' ((conv => whnf); first | (with_reducible first | refine dT ?_ | refine dU ?_ | refine dF ?_ | refine dG ?_) | refine aT ?_ | refine aF ?_ | refine dS (fun _ => ?_) fun _ => ?_ | refine aW ?_ | refine aC ?_ | refine aL ?_ | refine Prep.skip ?_ | refine Eith.l ?_ | refine aD ?_ | refine aB (fun _ => ?_) fun _ => ?_ | refine nthK_mk (map_get hp) ?_ | (refine ACall.write (l := [.ints ls, .int a, .int b, .int c]) hC hle rfl rfl rfl rfl ?_; intro v') | fail)
      all_goals (conv => whnf)
      all_goals first | (exfalso; omega) | skip
      all_goals (rename_i v')
      all_goals (refine ⟨⟨i + 1, v'⟩, ?_, hlt, by show l.length - (i + 1) < l.length - i; omega⟩)
      all_goals (dsimp only; rw [hnext])
      all_goals first | exact Wm.end sam rfl rfl rfl
    | bool x =>
      cases x
      · have hle : (outT ys (wordsP [.int 0])).length < 2 ^ 28 := Nat.lt_of_le_of_lt hle hb
        have hC := hW true [.int 0] (by simp) (by simp only [List.mem_cons, List.not_mem_nil, or_false, forall_eq_or_imp, forall_eq]; exact ⟨Nat.zero_le _, by constructor <;> decide⟩)
        have hnext : outT xs (wordsP (l.take (i + 1))) = outT ys (wordsP [.int 0]) := hnext
        repeat' ((conv => whnf); first | (with_reducible first | refine dT ?_ | refine dU ?_ | refine dF ?_ | refine dG ?_) | refine aT ?_ | refine aF ?_ | refine dS (fun _ => ?_) fun _ => ?_ | refine aW ?_ | refine aC ?_ | refine aL ?_ | refine Prep.skip ?_ | refine Eith.l ?_ | refine aD ?_ | refine aB (fun _ => ?_) fun _ => ?_ | refine nthK_mk (map_get hp) ?_ | (refine ACall.write (l := [.int 0]) hC hle rfl rfl rfl rfl ?_; intro v') | fail)
        all_goals (conv => whnf)
        all_goals first | (exfalso; omega) | skip
        all_goals (rename_i v')
        all_goals (refine ⟨⟨i + 1, v'⟩, ?_, hlt, by show l.length - (i + 1) < l.length - i; omega⟩)
        all_goals (dsimp only; rw [hnext])
        all_goals first | exact Wm.end sam rfl rfl rfl
      · have hle : (outT ys (wordsP [.int 1])).length < 2 ^ 28 := Nat.lt_of_le_of_lt hle hb
        have hC := hW true [.int 1] (by simp) (by simp only [List.mem_cons, List.not_mem_nil, or_false, forall_eq_or_imp, forall_eq]; exact ⟨Nat.zero_le _, by constructor <;> decide⟩)
        have hnext : outT xs (wordsP (l.take (i + 1))) = outT ys (wordsP [.int 1]) := hnext
        repeat' ((conv => whnf); first | (with_reducible first | refine dT ?_ | refine dU ?_ | refine dF ?_ | refine dG ?_) | refine aT ?_ | refine aF ?_ | refine dS (fun _ => ?_) fun _ => ?_ | refine aW ?_ | refine aC ?_ | refine aL ?_ | refine Prep.skip ?_ | refine Eith.l ?_ | refine aD ?_ | refine aB (fun _ => ?_) fun _ => ?_ | refine nthK_mk (map_get hp) ?_ | (refine ACall.write (l := [.int 1]) hC hle rfl rfl rfl rfl ?_; intro v') | fail)
        all_goals (conv => whnf)
        all_goals first | (exfalso; omega) | skip
        all_goals (rename_i v')
        all_goals (refine ⟨⟨i + 1, v'⟩, ?_, hlt, by show l.length - (i + 1) < l.length - i; omega⟩)
        all_goals (dsimp only; rw [hnext])
        all_goals first | exact Wm.end sam rfl rfl rfl
    | ints ls =>
      obtain ⟨hlo, hll⟩ := hko
      have hle : (outT ys (wordsL ls)).length < 2 ^ 28 := Nat.lt_of_le_of_lt hle hb
      have hnext : outT xs (wordsP (l.take (i + 1))) = outT ys (wordsL ls) := hnext
      have hsplit : outT ys (wordsL ls) = outT (outT ys (wordsP [.int ls.length])) (wordsI ls) := by rw [← outT_app]; rfl
      have hle1 : (outT ys (wordsP [.int ls.length])).length < 2 ^ 28 := Nat.lt_of_le_of_lt (by rw [hsplit]; exact outT_le _ _) hle
      have hC := hW true [.int ls.length] (by simp) (by simp only [List.mem_cons, List.not_mem_nil, or_false, forall_eq]; exact ⟨Nat.zero_le _, by constructor <;> omega⟩)
      repeat' ((conv => whnf); first | (with_reducible first | refine dT ?_ | refine dU ?_ | refine dF ?_ | refine dG ?_) | refine aT ?_ | refine aF ?_ | refine dS (fun _ => ?_) fun _ => ?_ | refine aW ?_ | refine aC ?_ | refine aL ?_ | refine Prep.skip ?_ | refine Eith.l ?_ | refine aD ?_ | refine aB (fun _ => ?_) fun _ => ?_ | refine nthK_mk (map_get hp) ?_ | (refine ACall.write (l := [.int ls.length]) hC hle1 rfl rfl rfl rfl ?_; intro v') | refine Nam.mk (List.length_map _) ?_ | fail)
      all_goals (conv => whnf)
      all_goals first | (exfalso; omega) | skip
      obtain ⟨base, hbase⟩ : ∃ base, base = outT ys (wordsP [.int ls.length]) := ⟨_, rfl⟩
      rw [← hbase] at hsplit ⊢
      have inext : ∀ (j : Nat) (n : Int), ls[j]? = some n → outT base (wordsI (ls.take (j + 1))) = outT (outT base (wordsI (ls.take j))) (wordsP [.int n]) := fun j n hj => by
        rw [← outT_app, List.take_add_one, hj]
        simp [wordsI, wordsP, Part.words]
      have ile : ∀ j, (outT base (wordsI (ls.take j))).length < 2 ^ 28 := fun j => by
        refine Nat.lt_of_le_of_lt ?_ hle
        rw [hsplit, show wordsI ls = wordsI (ls.take j) ++ wordsI (ls.drop j) from by unfold wordsI; rw [← List.map_append, List.take_append_drop], outT_app]
        exact outT_le _ _
      refine ALoop.at (E := envOf Tryd.prog tt Tryd.f64.ntmps) (envOf_ok ttok mixed) (X := XW) (fun x => [(50, .d (I x.i))]) (fun x => [(0, .var [.sref 1 x.v 0 (outT base (wordsI (ls.take x.i))).length false]), (1, .row x.v 1 false ((outT base (wordsI (ls.take x.i))).map bD))]) (fun x => x.i ≤ ls.length) (fun x => ls.length - x.i) ⟨0, v'⟩ sam rfl (Nat.zero_le _) ?_
      rintro ⟨j, vj⟩ hj
      dsimp only at hj
      dsimp only
      by_cases hjl : j < ls.length
      · obtain ⟨n, hn, _⟩ := drop_get hjl
        have hC2 := hW true [.int n] (by simp) (by simp only [List.mem_cons, List.not_mem_nil, or_false, forall_eq]; exact ⟨Nat.zero_le _, hlo n (List.mem_of_getElem? hn)⟩)
        have hle2 : (outT (outT base (wordsI (ls.take j))) (wordsP [.int n])).length < 2 ^ 28 := by rw [← inext j n hn]; exact ile _
        repeat' ((conv => whnf); first | (with_reducible first | refine dT ?_ | refine dU ?_ | refine dF ?_ | refine dG ?_) | refine aT ?_ | refine aF ?_ | refine dS (fun _ => ?_) fun _ => ?_ | refine aW ?_ | refine aC ?_ | refine aL ?_ | refine Prep.skip ?_ | refine Eith.l ?_ | refine aD ?_ | refine aB (fun _ => ?_) fun _ => ?_ | refine nthK_mk (map_get (f := I) hn) ?_ | (refine ACall.write (l := [.int n]) hC2 hle2 rfl rfl rfl rfl ?_; intro v2) | fail)
        all_goals (conv => whnf)
        all_goals first | (exfalso; omega) | skip
        rename_i v2
        refine ⟨⟨j + 1, v2⟩, ?_, hjl, by show ls.length - (j + 1) < ls.length - j; omega⟩
        dsimp only
        rw [inext j n hn]
        exact Wm.end sam rfl rfl rfl
      · have htj : ls.take j = ls := List.take_of_length_le (by omega)
        rw [htj, ← hsplit]
        repeat' ((conv => whnf); first | (with_reducible first | refine dT ?_ | refine dU ?_ | refine dF ?_ | refine dG ?_) | refine aT ?_ | refine aF ?_ | refine dS (fun _ => ?_) fun _ => ?_ | refine aW ?_ | refine aC ?_ | refine aL ?_ | refine Prep.skip ?_ | refine Eith.l ?_ | refine aD ?_ | refine aB (fun _ => ?_) fun _ => ?_ | fail)
        all_goals (conv => whnf)
        all_goals first | (exfalso; omega) | skip
        refine ⟨⟨i + 1, vj⟩, ?_, hlt, by show l.length - (i + 1) < l.length - i; omega⟩
        dsimp only
        rw [hnext]
        exact Wm.end sam rfl rfl rfl
  · have hti : l.take i = l := List.take_of_length_le (by omega)
    repeat' ((conv => whnf); first | (with_reducible first | refine dT ?_ | refine dU ?_ | refine dF ?_ | refine dG ?_) | refine aT ?_ | refine aF ?_ | refine dS (fun _ => ?_) fun _ => ?_ | refine aW ?_ | refine aC ?_ | refine aL ?_ | refine Prep.skip ?_ | refine Eith.l ?_ | refine aD ?_ | refine aB (fun _ => ?_) fun _ => ?_ | fail)
    all_goals (conv => whnf)
    all_goals first | (exfalso; omega) | exact ⟨rfl, rfl, v, by rw [hti]; rfl⟩
theorem write_all (full : Bool) (l : List Part) (hl : l.length < 2 ^ 28) (hk : ∀ p ∈ l, p.ok) : WriteC full l :=
  write1 1 (write1 0 write0) full l hl fun p hp => ⟨by cases p <;> simp [Part.lev], hk p hp⟩
end Go.PM
