/- Branches: conflicts, the document's way. -/
import Derived.Test.YtbgdpjhgdboigaaB54k
namespace Go.PM
open Go.Proofs
set_option maxRecDepth 10000
set_option maxHeartbeats 8000000

def Chg.keyF (c : Chg) : Fact := ⟨c.kind, c.subj, c.obj, 0, 0, 0, 0, 0⟩
structure XKf where
  i : Nat
  v : Nat
  n : Nat
  d : List D
theorem ref54_keys (l : List Chg) (hl : l.length < 2 ^ 19) : CallP Try.prog 55 [.d (brD l)] (retD [SL 8 ((l.map Chg.keyF).map Fact.d)]) := by
  refine exPure_sound (E := envOf Try.prog tt Try.f55.ntmps) (envOf_ok ttok mixed) Try.func55 (by rfl) rfl rfl (Nat.le_of_ble_eq_true rfl) ?_
  repeat' ((conv => whnf); first | with_reducible refine Dec.t (show true = true from rfl) ?_ | with_reducible refine Dec.t (show false = false from rfl) ?_ | with_reducible refine Dec.f (show ¬ (true = false) by decide) ?_ | with_reducible refine Dec.f (show ¬ (false = true) by decide) ?_ | refine Dec.t (by omega) ?_ | refine Dec.f (by omega) ?_ | refine Dec.split (fun _ => ?_) (fun _ => ?_) | refine Wr.id (by omega) ?_ | refine Chk.mk (by first | omega | exact rfl | (simp only [List.length_map]; omega) | (simp [room]; done) | (simp [room]; omega) | (simp [dropL, room]; done) | (simp [dropL, room]; omega)) ?_ | refine Nam.mk (List.length_map _) ?_ | refine Prep.skip ?_ | refine Eith.l ?_ | refine chk_t (x := D.flat _) (by assumption) ?_ | refine br_mk (fun _ => ?_) (fun _ => ?_) | fail)
  all_goals first | (exfalso; omega) | skip
  all_goals (conv => whnf)
  refine ALoop.virt 3 8 8 false (by decide) rfl ?_
  conv => whnf
  refine ALoop.at (E := envOf Try.prog tt Try.f55.ntmps) (envOf_ok ttok mixed) (X := XKf) (fun x => [(4, .d (I x.i)), (3, .sref 0 x.v 0 x.n false)]) (fun x => [(0, .row x.v 8 false x.d)]) (fun x => x.i ≤ l.length ∧ x.d = ((l.take x.i).map Chg.keyF).map Fact.d ∧ x.n = x.d.length) (fun x => l.length - x.i) ⟨0, 0, 0, []⟩ (by repeat (first | exact trivial | refine And.intro rfl ?_ | refine And.intro (congrArg (fun n => V.d (I n)) (wrap_nat _ (by omega))) ?_)) rfl ⟨Nat.zero_le _, rfl, rfl⟩ ?_
  rintro ⟨i, v, n, d⟩ ⟨hi, hd, hn⟩
  simp only at hi hd hn
  dsimp only
  have hdl : d.length ≤ i := by rw [hd, List.length_map, List.length_map, List.length_take]; omega
  by_cases hlt : i < l.length
  · obtain ⟨c, hx, _⟩ := drop_get hlt
    have hx0 : (l.map Chg.d)[((i : Nat) : Int).toNat]? = some c.d := map_get hx
    have hd1 : d ++ [c.keyF.d] = ((l.take (i + 1)).map Chg.keyF).map Fact.d := by rw [List.take_add_one, hx, List.map_append, List.map_append, hd]; rfl
    clear hd
    repeat' ((conv => whnf); first | with_reducible refine Dec.t (show true = true from rfl) ?_ | with_reducible refine Dec.t (show false = false from rfl) ?_ | with_reducible refine Dec.f (show ¬ (true = false) by decide) ?_ | with_reducible refine Dec.f (show ¬ (false = true) by decide) ?_ | refine Dec.t (by omega) ?_ | refine Dec.f (by omega) ?_ | refine Dec.split (fun _ => ?_) (fun _ => ?_) | refine Wr.id (by omega) ?_ | refine Chk.mk (by first | omega | exact rfl | (simp only [List.length_map]; omega) | (simp [room]; done) | (simp [room]; omega) | (simp [dropL, room]; done) | (simp [dropL, room]; omega)) ?_ | refine Nam.mk (List.length_map _) ?_ | refine Prep.skip ?_ | refine Eith.l ?_ | refine chk_t (x := D.flat _) (by assumption) ?_ | refine br_mk (fun _ => ?_) (fun _ => ?_) | refine nthK_mk hx0 ?_ | refine Chk.mk ⟨rfl, by simp [hn], by simp [room]; omega⟩ ?_ | fail)
    all_goals first | (exfalso; omega) | skip
    all_goals (conv => whnf)
    all_goals first
      | exact ⟨⟨i + 1, v + 1, n + 1, d ++ [c.keyF.d]⟩, Wm.end (by repeat (first | exact trivial | refine And.intro rfl ?_ | refine And.intro (congrArg (fun n => V.d (I n)) (wrap_nat _ (by omega))) ?_)) rfl rfl rfl, ⟨hlt, hd1, by simp [hn]⟩, by show l.length - (i + 1) < l.length - i; omega⟩
  · have : i = l.length := by omega
    subst this
    rw [List.take_length] at hd
    subst hd
    repeat' ((conv => whnf); first | with_reducible refine Dec.t (show true = true from rfl) ?_ | with_reducible refine Dec.t (show false = false from rfl) ?_ | with_reducible refine Dec.f (show ¬ (true = false) by decide) ?_ | with_reducible refine Dec.f (show ¬ (false = true) by decide) ?_ | refine Dec.t (by omega) ?_ | refine Dec.f (by omega) ?_ | refine Dec.split (fun _ => ?_) (fun _ => ?_) | refine Wr.id (by omega) ?_ | refine Chk.mk (by first | omega | exact rfl | (simp only [List.length_map]; omega) | (simp [room]; done) | (simp [room]; omega) | (simp [dropL, room]; done) | (simp [dropL, room]; omega)) ?_ | refine Nam.mk (List.length_map _) ?_ | refine Prep.skip ?_ | refine Eith.l ?_ | refine chk_t (x := D.flat _) (by assumption) ?_ | refine br_mk (fun _ => ?_) (fun _ => ?_) | refine Nam.mk (whole hn) ?_ | fail)
    all_goals first | (exfalso; omega) | skip
    all_goals (conv => whnf)
    all_goals first | exact DLe.refl _
def freshF (b : Brn) (no : Int) : List Fact :=
  if b.par.getD no.toNat 0 < 0 then b.base.drop (b.forks.getD no.toNat 0).toNat else ((b.at (b.par.getD no.toNat 0)).drop (b.forks.getD no.toNat 0).toNat).map Chg.keyF
theorem freshF_key (b : Brn) (no : Int) : (freshF b no).map Fact.key = freshK b no := by
  unfold freshF freshK
  split
  · rfl
  · rw [List.map_map]; rfl
theorem freshF_len (b : Brn) (no : Int) : (freshF b no).length ≤ b.total := by
  unfold freshF
  have := base_le b
  have := at_len b (b.par.getD no.toNat 0)
  split
  · rw [List.length_drop]; omega
  · rw [List.length_map, List.length_drop]; omega
theorem ref54_Fresh (b : Brn) (hf : b.formed) (ht : b.total < 2 ^ 18) (no : Int) (h0 : 0 ≤ no) (hn : no < b.br.length) : CallP Try.prog 28 [.d b.d, .d (I no)] (retD [SL 8 ((freshF b no).map Fact.d)]) := by
  have he := hf.each no.toNat (by omega)
  have h1 := par_get hf (no := no) (by omega) hn
  have h2 := forks_get hf (no := no) (by omega) hn
  refine exPure_sound (E := envOf Try.prog tt Try.f28.ntmps) (envOf_ok ttok mixed) Try.func28 (by rfl) rfl rfl (Nat.le_of_ble_eq_true rfl) ?_
  unfold freshF
  by_cases hp : b.par.getD no.toNat 0 < 0
  · have hlm : lenM b (b.par.getD no.toNat 0) = b.base.length := by unfold lenM; rw [if_pos hp]
    rw [hlm] at he
    rw [if_pos hp]
    repeat' ((conv => whnf); first | with_reducible refine Dec.t (show true = true from rfl) ?_ | with_reducible refine Dec.t (show false = false from rfl) ?_ | with_reducible refine Dec.f (show ¬ (true = false) by decide) ?_ | with_reducible refine Dec.f (show ¬ (false = true) by decide) ?_ | refine Dec.t (by omega) ?_ | refine Dec.f (by omega) ?_ | refine Dec.split (fun _ => ?_) (fun _ => ?_) | refine Wr.id (by omega) ?_ | refine Chk.mk (by first | omega | exact rfl | (simp only [List.length_map]; omega) | (simp [room]; done) | (simp [room]; omega) | (simp [dropL, room]; done) | (simp [dropL, room]; omega)) ?_ | refine Nam.mk (List.length_map _) ?_ | refine Prep.skip ?_ | refine Eith.l ?_ | refine chk_t (x := D.flat _) (by assumption) ?_ | refine br_mk (fun _ => ?_) (fun _ => ?_) | refine nthK_mk h1 ?_ | refine nthK_mk h2 ?_ | fail)
    all_goals first | (exfalso; omega) | skip
    all_goals (conv => whnf)
    all_goals first | (rw [List.map_drop]; exact DLe.refl _)
  · have hlm : lenM b (b.par.getD no.toNat 0) = (b.at (b.par.getD no.toNat 0)).length := by unfold lenM; rw [if_neg hp]
    rw [hlm] at he
    rw [if_neg hp]
    have hal := at_len b (b.par.getD no.toNat 0)
    have h4 := at_get (b := b) (no := b.par.getD no.toNat 0) hp (by omega)
    have hk := ref54_keys ((b.at (b.par.getD no.toNat 0)).drop (b.forks.getD no.toNat 0).toNat) (by rw [List.length_drop]; omega)
    unfold brD at hk
    rw [List.map_drop] at hk
    repeat' ((conv => whnf); first | with_reducible refine Dec.t (show true = true from rfl) ?_ | with_reducible refine Dec.t (show false = false from rfl) ?_ | with_reducible refine Dec.f (show ¬ (true = false) by decide) ?_ | with_reducible refine Dec.f (show ¬ (false = true) by decide) ?_ | refine Dec.t (by omega) ?_ | refine Dec.f (by omega) ?_ | refine Dec.split (fun _ => ?_) (fun _ => ?_) | refine Wr.id (by omega) ?_ | refine Chk.mk (by first | omega | exact rfl | (simp only [List.length_map]; omega) | (simp [room]; done) | (simp [room]; omega) | (simp [dropL, room]; done) | (simp [dropL, room]; omega)) ?_ | refine Nam.mk (List.length_map _) ?_ | refine Prep.skip ?_ | refine Eith.l ?_ | refine chk_t (x := D.flat _) (by assumption) ?_ | refine br_mk (fun _ => ?_) (fun _ => ?_) | refine nthK_mk h1 ?_ | refine nthK_mk h2 ?_ | refine nthK_mk h4 ?_ | refine ACall.of (hk) ?_ | refine APCall.of (hk) ?_ | fail)
    all_goals first | (exfalso; omega) | skip
    all_goals (conv => whnf)
    all_goals first | exact DLe.refl _
theorem keysR_len (l : List Fact) : (keysR l).length ≤ l.length := by
  have key : ∀ (l : List Fact) (out : List Key), (l.foldl (fun out f => insK f.key out) out).length ≤ out.length + l.length := by
    intro l
    induction l with
    | nil => intro out; exact Nat.le_refl _
    | cons f l ih =>
      intro out
      have := insK_len f.key out
      have := ih (insK f.key out)
      simp only [List.foldl_cons, List.length_cons]; omega
  have := key l []
  simpa [keysR] using this
theorem keysR_congr {a b : List Fact} (h : a.map Fact.key = b.map Fact.key) : keysR a = keysR b := by
  have key : ∀ (l : List Fact) (out : List Key), l.foldl (fun out f => insK f.key out) out = (l.map Fact.key).foldl (fun out k => insK k out) out := by
    intro l
    induction l with
    | nil => intro out; rfl
    | cons f l ih => intro out; exact ih _
  unfold keysR
  rw [key, key, h]
theorem confM_eq (b : Brn) (no : Int) : confM b no = (keysR ((b.at no).map Chg.keyF)).filter fun k => decide (k ∈ keysR (freshF b no)) := by
  unfold confM
  rw [keysR_congr (a := (b.at no).map fun c => c.fact 0) (b := (b.at no).map Chg.keyF) (by rw [List.map_map, List.map_map]; rfl)]
  refine List.filter_congr fun k _ => ?_
  rw [decide_eq_decide, (keysR_spec _).2, ← freshF_key, List.mem_map]
theorem ref54_Conflicts (b : Brn) (hf : b.formed) (ht : b.total < 2 ^ 18) (no : Int) (h0 : 0 ≤ no) (hn : no < b.br.length) : CallP Try.prog 53 [.d b.d, .d (I no)] (retD [SL 3 ((confM b no).map Key.d)]) := by
  have hal := at_len b no
  have hfl := freshF_len b no
  have h3 := at_get (b := b) (no := no) (by omega) hn
  have k1 := ref54_keys (b.at no) (by omega)
  have k2 := ref04_Keys ((b.at no).map Chg.keyF) (by rw [List.length_map]; omega)
  have k3 := ref54_Fresh b hf ht no h0 hn
  have k4 := ref04_Keys (freshF b no) (by omega)
  have l1 := keysR_len ((b.at no).map Chg.keyF)
  rw [List.length_map] at l1
  have l2 := keysR_len (freshF b no)
  have hnd : (keysR (freshF b no)).Nodup := by
    refine List.Pairwise.imp ?_ (keysR_spec (freshF b no)).1
    rintro x y h rfl
    exact lessK_irr _ h
  rw [confM_eq]
  generalize keysR ((b.at no).map Chg.keyF) = mine at *
  generalize keysR (freshF b no) = theirs at *
  refine exPure_sound (E := envOf Try.prog tt Try.f53.ntmps) (envOf_ok ttok mixed) Try.func53 (by rfl) rfl rfl (Nat.le_of_ble_eq_true rfl) ?_
  repeat' ((conv => whnf); first | with_reducible refine Dec.t (show true = true from rfl) ?_ | with_reducible refine Dec.t (show false = false from rfl) ?_ | with_reducible refine Dec.f (show ¬ (true = false) by decide) ?_ | with_reducible refine Dec.f (show ¬ (false = true) by decide) ?_ | refine Dec.t (by omega) ?_ | refine Dec.f (by omega) ?_ | refine Dec.split (fun _ => ?_) (fun _ => ?_) | refine Wr.id (by omega) ?_ | refine Chk.mk (by first | omega | exact rfl | (simp only [List.length_map]; omega) | (simp [room]; done) | (simp [room]; omega) | (simp [dropL, room]; done) | (simp [dropL, room]; omega)) ?_ | refine Nam.mk (List.length_map _) ?_ | refine Prep.skip ?_ | refine Eith.l ?_ | refine chk_t (x := D.flat _) (by assumption) ?_ | refine br_mk (fun _ => ?_) (fun _ => ?_) | refine nthK_mk h3 ?_ | refine ACall.of (k1) ?_ | refine APCall.of (k1) ?_ | refine ACall.of (k2) ?_ | refine APCall.of (k2) ?_ | refine ACall.of (k3) ?_ | refine APCall.of (k3) ?_ | refine ACall.of (k4) ?_ | refine APCall.of (k4) ?_ | fail)
  all_goals first | (exfalso; omega) | skip
  all_goals (conv => whnf)
  refine ALoop.virt 7 3 3 false (by decide) rfl ?_
  conv => whnf
  refine ALoop.at (E := envOf Try.prog tt Try.f53.ntmps) (envOf_ok ttok mixed) (X := XKf) (fun x => [(8, .d (I x.i)), (7, .sref 1 x.v 0 x.n false)]) (fun x => [(1, .row x.v 3 false x.d)]) (fun x => x.i ≤ mine.length ∧ x.d = ((mine.take x.i).filter fun k => decide (k ∈ theirs)).map Key.d ∧ x.n = x.d.length) (fun x => mine.length - x.i) ⟨0, 0, 0, []⟩ (by repeat (first | exact trivial | refine And.intro rfl ?_ | refine And.intro (congrArg (fun n => V.d (I n)) (wrap_nat _ (by omega))) ?_)) rfl ⟨Nat.zero_le _, rfl, rfl⟩ ?_
  rintro ⟨i, v, n, d⟩ ⟨hi, hd, hn2⟩
  simp only at hi hd hn2
  dsimp only
  have hdl : d.length ≤ i := by rw [hd, List.length_map]; exact Nat.le_trans (List.length_filter_le _ _) (by rw [List.length_take]; omega)
  by_cases hlt : i < mine.length
  · obtain ⟨m, hx, _⟩ := drop_get hlt
    have hx0 : (mine.map Key.d)[((i : Nat) : Int).toNat]? = some m.d := map_get hx
    have hd1 : ((mine.take (i + 1)).filter fun k => decide (k ∈ theirs)).map Key.d = d ++ (if m ∈ theirs then [m.d] else []) := by
      rw [List.take_add_one, hx, List.filter_append, List.map_append, hd]
      by_cases hm : m ∈ theirs
      · rw [if_pos hm, Option.toList_some, List.filter_cons_of_pos (by simp [hm])]; rfl
      · rw [if_neg hm, Option.toList_some, List.filter_cons_of_neg (by simp [hm])]; rfl
    clear hd
    repeat' ((conv => whnf); first | with_reducible refine Dec.t (show true = true from rfl) ?_ | with_reducible refine Dec.t (show false = false from rfl) ?_ | with_reducible refine Dec.f (show ¬ (true = false) by decide) ?_ | with_reducible refine Dec.f (show ¬ (false = true) by decide) ?_ | refine Dec.t (by omega) ?_ | refine Dec.f (by omega) ?_ | refine Dec.split (fun _ => ?_) (fun _ => ?_) | refine Wr.id (by omega) ?_ | refine Chk.mk (by first | omega | exact rfl | (simp only [List.length_map]; omega) | (simp [room]; done) | (simp [room]; omega) | (simp [dropL, room]; done) | (simp [dropL, room]; omega)) ?_ | refine Nam.mk (List.length_map _) ?_ | refine Prep.skip ?_ | refine Eith.l ?_ | refine chk_t (x := D.flat _) (by assumption) ?_ | refine br_mk (fun _ => ?_) (fun _ => ?_) | refine nthK_mk hx0 ?_ | fail)
    all_goals first | (exfalso; omega) | skip
    all_goals (conv => whnf)
    refine ALoop.at (E := envOf Try.prog tt Try.f53.ntmps) (envOf_ok ttok mixed) (X := XKf) (fun x => [(9, .d (I x.i)), (7, .sref 1 x.v 0 x.n false)]) (fun x => [(1, .row x.v 3 false x.d)]) (fun x => x.i ≤ theirs.length ∧ x.d = d ++ (if m ∈ theirs.take x.i then [m.d] else []) ∧ x.n = x.d.length) (fun x => theirs.length - x.i) ⟨0, v, n, d⟩ (by repeat (first | exact trivial | refine And.intro rfl ?_ | refine And.intro (congrArg (fun n => V.d (I n)) (wrap_nat _ (by omega))) ?_)) rfl ⟨Nat.zero_le _, by simp, hn2⟩ ?_
    rintro ⟨k, v2, n2, d2⟩ ⟨hk, hd2, hn3⟩
    simp only at hk hd2 hn3
    dsimp only
    have hdl2 : d2.length ≤ d.length + 1 := by rw [hd2, List.length_append]; split <;> simp
    by_cases hlk : k < theirs.length
    · obtain ⟨t, hy, _⟩ := drop_get hlk
      have hy0 : (theirs.map Key.d)[((k : Nat) : Int).toNat]? = some t.d := map_get hy
      have htk : theirs.take (k + 1) = theirs.take k ++ [t] := by rw [List.take_add_one, hy]; rfl
      by_cases hmt : m = t
      · have hno : m ∉ theirs.take k := fun hm => by
          obtain ⟨q, hq⟩ := List.mem_iff_getElem?.1 hm
          have hqk : q < k := by
            have := (List.getElem?_eq_some_iff.1 hq).1
            rw [List.length_take] at this; omega
          rw [List.getElem?_take_of_lt hqk] at hq
          have h1 := (List.getElem?_eq_some_iff.1 hq)
          have h2 := (List.getElem?_eq_some_iff.1 hy)
          have := (List.getElem_inj hnd).1 (h1.2.trans (hmt.trans h2.2.symm))
          omega
        have hd3 : d2 ++ [m.d] = d ++ (if m ∈ theirs.take (k + 1) then [m.d] else []) := by
          rw [hd2, if_neg hno, List.append_nil, htk, if_pos (by rw [hmt]; simp)]
        clear hd2
        repeat' ((conv => whnf); first | with_reducible refine Dec.t (show true = true from rfl) ?_ | with_reducible refine Dec.t (show false = false from rfl) ?_ | with_reducible refine Dec.f (show ¬ (true = false) by decide) ?_ | with_reducible refine Dec.f (show ¬ (false = true) by decide) ?_ | refine Dec.t (by omega) ?_ | refine Dec.f (by omega) ?_ | refine Dec.split (fun _ => ?_) (fun _ => ?_) | refine Wr.id (by omega) ?_ | refine Chk.mk (by first | omega | exact rfl | (simp only [List.length_map]; omega) | (simp [room]; done) | (simp [room]; omega) | (simp [dropL, room]; done) | (simp [dropL, room]; omega)) ?_ | refine Nam.mk (List.length_map _) ?_ | refine Prep.skip ?_ | refine Eith.l ?_ | refine chk_t (x := D.flat _) (by assumption) ?_ | refine br_mk (fun _ => ?_) (fun _ => ?_) | refine nthK_mk hx0 ?_ | refine nthK_mk hy0 ?_ | refine Nam.dec (eqKey m t) (fun _ => ?_) (fun h => absurd hmt h) | refine Chk.mk ⟨rfl, by simp [hn3], by simp [room]; omega⟩ ?_ | fail)
        all_goals first | (exfalso; omega) | skip
        all_goals (conv => whnf)
        all_goals first
          | exact ⟨⟨k + 1, v2 + 1, n2 + 1, d2 ++ [m.d]⟩, Wm.end (by repeat (first | exact trivial | refine And.intro rfl ?_ | refine And.intro (congrArg (fun n => V.d (I n)) (wrap_nat _ (by omega))) ?_)) rfl rfl rfl, ⟨hlk, hd3, by simp [hn3]⟩, by show theirs.length - (k + 1) < theirs.length - k; omega⟩
      · have hd3 : d2 = d ++ (if m ∈ theirs.take (k + 1) then [m.d] else []) := by
          rw [hd2, htk]
          by_cases hin : m ∈ theirs.take k
          · rw [if_pos hin, if_pos (by simp [hin])]
          · rw [if_neg hin, if_neg (by simp [hin, hmt])]
        clear hd2
        repeat' ((conv => whnf); first | with_reducible refine Dec.t (show true = true from rfl) ?_ | with_reducible refine Dec.t (show false = false from rfl) ?_ | with_reducible refine Dec.f (show ¬ (true = false) by decide) ?_ | with_reducible refine Dec.f (show ¬ (false = true) by decide) ?_ | refine Dec.t (by omega) ?_ | refine Dec.f (by omega) ?_ | refine Dec.split (fun _ => ?_) (fun _ => ?_) | refine Wr.id (by omega) ?_ | refine Chk.mk (by first | omega | exact rfl | (simp only [List.length_map]; omega) | (simp [room]; done) | (simp [room]; omega) | (simp [dropL, room]; done) | (simp [dropL, room]; omega)) ?_ | refine Nam.mk (List.length_map _) ?_ | refine Prep.skip ?_ | refine Eith.l ?_ | refine chk_t (x := D.flat _) (by assumption) ?_ | refine br_mk (fun _ => ?_) (fun _ => ?_) | refine nthK_mk hx0 ?_ | refine nthK_mk hy0 ?_ | refine Nam.dec (eqKey m t) (fun h => absurd h hmt) (fun _ => ?_) | fail)
        all_goals first | (exfalso; omega) | skip
        all_goals (conv => whnf)
        all_goals first
          | exact ⟨⟨k + 1, v2, n2, d2⟩, Wm.end (by repeat (first | exact trivial | refine And.intro rfl ?_ | refine And.intro (congrArg (fun n => V.d (I n)) (wrap_nat _ (by omega))) ?_)) rfl rfl rfl, ⟨hlk, hd3, hn3⟩, by show theirs.length - (k + 1) < theirs.length - k; omega⟩
    · have : k = theirs.length := by omega
      subst this
      rw [List.take_length, ← hd1] at hd2
      repeat' ((conv => whnf); first | with_reducible refine Dec.t (show true = true from rfl) ?_ | with_reducible refine Dec.t (show false = false from rfl) ?_ | with_reducible refine Dec.f (show ¬ (true = false) by decide) ?_ | with_reducible refine Dec.f (show ¬ (false = true) by decide) ?_ | refine Dec.t (by omega) ?_ | refine Dec.f (by omega) ?_ | refine Dec.split (fun _ => ?_) (fun _ => ?_) | refine Wr.id (by omega) ?_ | refine Chk.mk (by first | omega | exact rfl | (simp only [List.length_map]; omega) | (simp [room]; done) | (simp [room]; omega) | (simp [dropL, room]; done) | (simp [dropL, room]; omega)) ?_ | refine Nam.mk (List.length_map _) ?_ | refine Prep.skip ?_ | refine Eith.l ?_ | refine chk_t (x := D.flat _) (by assumption) ?_ | refine br_mk (fun _ => ?_) (fun _ => ?_) | fail)
      all_goals first | (exfalso; omega) | skip
      all_goals (conv => whnf)
      all_goals first
        | exact ⟨⟨i + 1, v2, n2, d2⟩, Wm.end (by repeat (first | exact trivial | refine And.intro rfl ?_ | refine And.intro (congrArg (fun n => V.d (I n)) (wrap_nat _ (by omega))) ?_)) rfl rfl rfl, ⟨hlt, hd2, hn3⟩, by show mine.length - (i + 1) < mine.length - i; omega⟩
  · have : i = mine.length := by omega
    subst this
    rw [List.take_length] at hd
    subst hd
    repeat' ((conv => whnf); first | with_reducible refine Dec.t (show true = true from rfl) ?_ | with_reducible refine Dec.t (show false = false from rfl) ?_ | with_reducible refine Dec.f (show ¬ (true = false) by decide) ?_ | with_reducible refine Dec.f (show ¬ (false = true) by decide) ?_ | refine Dec.t (by omega) ?_ | refine Dec.f (by omega) ?_ | refine Dec.split (fun _ => ?_) (fun _ => ?_) | refine Wr.id (by omega) ?_ | refine Chk.mk (by first | omega | exact rfl | (simp only [List.length_map]; omega) | (simp [room]; done) | (simp [room]; omega) | (simp [dropL, room]; done) | (simp [dropL, room]; omega)) ?_ | refine Nam.mk (List.length_map _) ?_ | refine Prep.skip ?_ | refine Eith.l ?_ | refine chk_t (x := D.flat _) (by assumption) ?_ | refine br_mk (fun _ => ?_) (fun _ => ?_) | refine Nam.mk (whole hn2) ?_ | fail)
    all_goals first | (exfalso; omega) | skip
    all_goals (conv => whnf)
    all_goals first | exact DLe.refl _
end Go.PM

