/- The statements of branches: Dropped. -/
import Derived.Test.YtbgdpjhgdboigaaL54a
namespace Go.PM
open Go.Proofs
set_option maxRecDepth 10000
set_option maxHeartbeats 8000000

theorem close_shut (b : Brn) (no : Int) : ¬ openP (closeM b no) no := fun h => by
  obtain ⟨h1, h2, h3⟩ := h
  unfold closeM at h3
  simp only at h3
  by_cases hl : no.toNat < b.done.length
  · rw [List.getD_eq_getElem?_getD, List.getElem?_set_self hl] at h3; cases h3
  · rw [List.getD_eq_getElem?_getD, List.getElem?_eq_none (by rw [List.length_set]; omega)] at h3; cases h3
theorem close_facts {b : Brn} (hv : b.valid) (no other : Int) : factsM (closeM b no) other = factsM b other := by
  unfold factsM
  rw [if_pos hv, if_pos (close_valid hv no)]
  by_cases h : -1 ≤ other ∧ other < b.br.length
  · rw [if_pos h, if_pos (show -1 ≤ other ∧ other < (closeM b no).br.length from h), with_close hv.1 no other _ h.2]; rfl
  · rw [if_neg h, if_neg (show ¬ (-1 ≤ other ∧ other < (closeM b no).br.length) from h)]
theorem set_at {b : Brn} {p : Int} (h0 : 0 ≤ p) (hp : p < b.br.length) : b.br.set p.toNat (b.at p ++ []) = b.br := by
  rw [List.append_nil]
  have hl : p.toNat < b.br.length := by omega
  refine List.ext_getElem? fun i => ?_
  by_cases hi : p.toNat = i
  · subst hi
    rw [List.getElem?_set_self hl]
    unfold Brn.at
    rw [List.getD_eq_getElem?_getD, List.getElem?_eq_getElem hl]; rfl
  · rw [List.getElem?_set_ne hi]
/-- A branch without changes, when it is merged. -/
theorem merge_none {b : Brn} (hv : b.valid) {no : Int} (ho : openP b no) (hn : b.at no = []) : confM b no = [] ∧ (mergeR b no).2 = 0 ∧ mergeX b no = closeM b no := by
  have h1 := open_lt ho
  have he := hv.1.each no.toNat (by omega)
  have hpe : parM b no = b.par.getD no.toNat 0 := rfl
  rw [← hpe] at he
  have hr : mergeR b no = ((withM b (parM b no) (lenM b (parM b no))).1, 0) := by unfold mergeR; rw [hn, recM_nil]
  refine ⟨by unfold confM; rw [hn]; rfl, by rw [hr], ?_⟩
  unfold mergeX
  by_cases hp : parM b no < 0
  · rw [if_pos hp, hr, with_neg hp]
    unfold lenM
    rw [if_pos hp, List.take_length]; rfl
  · rw [if_neg hp, hn]
    have : (closeM b no).br.set (parM b no).toNat ((closeM b no).at (parM b no) ++ []) = b.br := set_at (b := closeM b no) (by omega) (by show parM b no < b.br.length; omega)
    unfold growM
    rw [this]; rfl
theorem law54_Dropped (b : Brn) (no other : Int) (c : Chg) (hT : b.typed) : CallP Try.prog 7 [.d b.d, .d (I no), .d (I other), .d c.d] (retD [.b true]) := by
  have hF := ref54_Few b hT.r
  refine exPure_sound (E := envOf Try.prog tt Try.f7.ntmps) (envOf_ok ttok mixed) Try.func7 (by rfl) rfl rfl (Nat.le_of_ble_eq_true rfl) ?_
  by_cases hf : fewP b
  · rw [decide_eq_true hf] at hF
    have hW := few_wide hT hf
    have ht := few_total hW hf
    have k1 := branches_Drop b no hW
    have sz := ref54_Same Brn.zero zero_wid
    have lez : VLes [.d Brn.zero.d, .d (.agg [.sl 0 true [], .sl 0 true [], .sl 0 true [], .sl 0 true [], .sl 0 true []])] [.d Brn.zero.d, .d Brn.zero.d] := ⟨VLe.refl _, VLe.d zeroBrn, rfl⟩
    have sz := CallP.le lez sz
    by_cases hv : b.valid
    · by_cases ho : openP b no
      · have hd : dropM b no = (closeM b no, 0) := by unfold dropM; rw [if_pos hv, if_pos ho]
        rw [hd] at k1
        have h1 := open_lt ho
        have hX : (closeM b no).wide := ⟨hW.b, hW.r⟩
        have hXv := close_valid hv no
        have hXo := close_shut b no
        have hXt : (closeM b no).total ≤ 54 := ht hv
        have n1 := branches_Facts b other hW
        have n2 := branches_Facts (closeM b no) other hX
        rw [close_facts hv] at n2
        have s1 := ref04_Same (factsM b other).1 (factsM b other).1 (by have := facts_len other (fun h => by have := ht h; omega : b.valid → b.total < 2 ^ 18); omega)
        rw [decide_eq_true rfl] at s1
        have c1 := branches_Change (closeM b no) no c hX (fun _ => by omega)
        rw [show changeM (closeM b no) no c = (Brn.zero, 1) by unfold changeM; rw [if_pos hXv, if_neg hXo]] at c1
        have c2 := branches_Merge (closeM b no) no hX (fun _ => by omega)
        rw [show mergeM (closeM b no) no = (Brn.zero, [], 1) by unfold mergeM; rw [if_pos hXv, if_neg (fun h => hXo h.1)]] at c2
        have c3 := branches_Drop (closeM b no) no hX
        rw [show dropM (closeM b no) no = (Brn.zero, 1) by unfold dropM; rw [if_pos hXv, if_neg hXo]] at c3
        have c4 := branches_Fork (closeM b no) no hX
        rw [show forkM (closeM b no) no = (Brn.zero, 0, 1) by unfold forkM; rw [if_pos hXv, if_neg (fun h => h.elim (fun h => by omega) hXo)]] at c4
        have hbg := at_get (b := b) (no := no) (by omega) h1.2
        by_cases hn : b.at no = []
        · obtain ⟨m1, m2, m3⟩ := merge_none hv ho hn
          have k2 := branches_Merge b no hW (fun h => by have := ht h; omega)
          rw [hn] at hbg
          by_cases hp : parM b no = -1 ∨ openP b (parM b no)
          · rw [show mergeM b no = (closeM b no, [], 0) by unfold mergeM; rw [if_pos hv, if_pos ⟨ho, hp⟩, if_pos m1, if_pos m2, m3]] at k2
            repeat' ((conv => whnf); first | refine Dec.t (of_decide_eq_true (Eq.refl true)) ?_ | refine Dec.f (of_decide_eq_false (Eq.refl false)) ?_ | with_reducible refine Dec.t (show true = true from rfl) ?_ | with_reducible refine Dec.t (show false = false from rfl) ?_ | with_reducible refine Dec.f (show ¬ (true = false) by decide) ?_ | with_reducible refine Dec.f (show ¬ (false = true) by decide) ?_ | refine Dec.t (by omega) ?_ | refine Dec.f (by omega) ?_ | refine Dec.split (fun _ => ?_) (fun _ => ?_) | refine Wr.id (by omega) ?_ | refine Chk.mk (by first | omega | exact rfl | (simp only [List.length_map]; omega) | (simp [room]; done) | (simp [room]; omega) | (simp [dropL, room]; done) | (simp [dropL, room]; omega)) ?_ | refine Nam.mk (List.length_map _) ?_ | refine Prep.skip ?_ | refine Eith.l ?_ | refine chk_t (x := D.flat _) (by assumption) ?_ | refine br_mk (fun _ => ?_) (fun _ => ?_) | refine ACall.of (law54_sane) ?_ | refine APCall.of (law54_sane) ?_ | refine ACall.of (hF) ?_ | refine APCall.of (hF) ?_ | refine ACall.of (k1) ?_ | refine APCall.of (k1) ?_ | refine ACall.of (n1) ?_ | refine APCall.of (n1) ?_ | refine ACall.of (n2) ?_ | refine APCall.of (n2) ?_ | refine ACall.of (s1) ?_ | refine APCall.of (s1) ?_ | refine ACall.of (c1) ?_ | refine APCall.of (c1) ?_ | refine ACall.of (c2) ?_ | refine APCall.of (c2) ?_ | refine ACall.of (c3) ?_ | refine APCall.of (c3) ?_ | refine ACall.of (c4) ?_ | refine APCall.of (c4) ?_ | refine nthK_mk hbg ?_ | refine ACall.of (k2) ?_ | refine APCall.of (k2) ?_ | fail)
            all_goals first | (exfalso; omega) | skip
            all_goals (conv => whnf)
            all_goals first | exact DLe.refl _
          · rw [show mergeM b no = (Brn.zero, [], 1) by unfold mergeM; rw [if_pos hv, if_neg (fun h => hp h.2)]] at k2
            repeat' ((conv => whnf); first | refine Dec.t (of_decide_eq_true (Eq.refl true)) ?_ | refine Dec.f (of_decide_eq_false (Eq.refl false)) ?_ | with_reducible refine Dec.t (show true = true from rfl) ?_ | with_reducible refine Dec.t (show false = false from rfl) ?_ | with_reducible refine Dec.f (show ¬ (true = false) by decide) ?_ | with_reducible refine Dec.f (show ¬ (false = true) by decide) ?_ | refine Dec.t (by omega) ?_ | refine Dec.f (by omega) ?_ | refine Dec.split (fun _ => ?_) (fun _ => ?_) | refine Wr.id (by omega) ?_ | refine Chk.mk (by first | omega | exact rfl | (simp only [List.length_map]; omega) | (simp [room]; done) | (simp [room]; omega) | (simp [dropL, room]; done) | (simp [dropL, room]; omega)) ?_ | refine Nam.mk (List.length_map _) ?_ | refine Prep.skip ?_ | refine Eith.l ?_ | refine chk_t (x := D.flat _) (by assumption) ?_ | refine br_mk (fun _ => ?_) (fun _ => ?_) | refine ACall.of (law54_sane) ?_ | refine APCall.of (law54_sane) ?_ | refine ACall.of (hF) ?_ | refine APCall.of (hF) ?_ | refine ACall.of (k1) ?_ | refine APCall.of (k1) ?_ | refine ACall.of (n1) ?_ | refine APCall.of (n1) ?_ | refine ACall.of (n2) ?_ | refine APCall.of (n2) ?_ | refine ACall.of (s1) ?_ | refine APCall.of (s1) ?_ | refine ACall.of (c1) ?_ | refine APCall.of (c1) ?_ | refine ACall.of (c2) ?_ | refine APCall.of (c2) ?_ | refine ACall.of (c3) ?_ | refine APCall.of (c3) ?_ | refine ACall.of (c4) ?_ | refine APCall.of (c4) ?_ | refine nthK_mk hbg ?_ | refine ACall.of (k2) ?_ | refine APCall.of (k2) ?_ | fail)
            all_goals first | (exfalso; omega) | skip
            all_goals (conv => whnf)
            all_goals first | exact DLe.refl _
        · have hpos : 0 < (b.at no).length := List.length_pos_iff.2 hn
          repeat' ((conv => whnf); first | refine Dec.t (of_decide_eq_true (Eq.refl true)) ?_ | refine Dec.f (of_decide_eq_false (Eq.refl false)) ?_ | with_reducible refine Dec.t (show true = true from rfl) ?_ | with_reducible refine Dec.t (show false = false from rfl) ?_ | with_reducible refine Dec.f (show ¬ (true = false) by decide) ?_ | with_reducible refine Dec.f (show ¬ (false = true) by decide) ?_ | refine Dec.t (by omega) ?_ | refine Dec.f (by omega) ?_ | refine Dec.split (fun _ => ?_) (fun _ => ?_) | refine Wr.id (by omega) ?_ | refine Chk.mk (by first | omega | exact rfl | (simp only [List.length_map]; omega) | (simp [room]; done) | (simp [room]; omega) | (simp [dropL, room]; done) | (simp [dropL, room]; omega)) ?_ | refine Nam.mk (List.length_map _) ?_ | refine Prep.skip ?_ | refine Eith.l ?_ | refine chk_t (x := D.flat _) (by assumption) ?_ | refine br_mk (fun _ => ?_) (fun _ => ?_) | refine ACall.of (law54_sane) ?_ | refine APCall.of (law54_sane) ?_ | refine ACall.of (hF) ?_ | refine APCall.of (hF) ?_ | refine ACall.of (k1) ?_ | refine APCall.of (k1) ?_ | refine ACall.of (n1) ?_ | refine APCall.of (n1) ?_ | refine ACall.of (n2) ?_ | refine APCall.of (n2) ?_ | refine ACall.of (s1) ?_ | refine APCall.of (s1) ?_ | refine ACall.of (c1) ?_ | refine APCall.of (c1) ?_ | refine ACall.of (c2) ?_ | refine APCall.of (c2) ?_ | refine ACall.of (c3) ?_ | refine APCall.of (c3) ?_ | refine ACall.of (c4) ?_ | refine APCall.of (c4) ?_ | refine nthK_mk hbg ?_ | fail)
          all_goals first | (exfalso; omega) | skip
          all_goals (conv => whnf)
          all_goals first | exact DLe.refl _
      · rw [show dropM b no = (Brn.zero, 1) by unfold dropM; rw [if_pos hv, if_neg ho]] at k1
        repeat' ((conv => whnf); first | refine Dec.t (of_decide_eq_true (Eq.refl true)) ?_ | refine Dec.f (of_decide_eq_false (Eq.refl false)) ?_ | with_reducible refine Dec.t (show true = true from rfl) ?_ | with_reducible refine Dec.t (show false = false from rfl) ?_ | with_reducible refine Dec.f (show ¬ (true = false) by decide) ?_ | with_reducible refine Dec.f (show ¬ (false = true) by decide) ?_ | refine Dec.t (by omega) ?_ | refine Dec.f (by omega) ?_ | refine Dec.split (fun _ => ?_) (fun _ => ?_) | refine Wr.id (by omega) ?_ | refine Chk.mk (by first | omega | exact rfl | (simp only [List.length_map]; omega) | (simp [room]; done) | (simp [room]; omega) | (simp [dropL, room]; done) | (simp [dropL, room]; omega)) ?_ | refine Nam.mk (List.length_map _) ?_ | refine Prep.skip ?_ | refine Eith.l ?_ | refine chk_t (x := D.flat _) (by assumption) ?_ | refine br_mk (fun _ => ?_) (fun _ => ?_) | refine ACall.of (law54_sane) ?_ | refine APCall.of (law54_sane) ?_ | refine ACall.of (hF) ?_ | refine APCall.of (hF) ?_ | refine ACall.of (k1) ?_ | refine APCall.of (k1) ?_ | refine ACall.of (sz) ?_ | refine APCall.of (sz) ?_ | fail)
        all_goals first | (exfalso; omega) | skip
        all_goals (conv => whnf)
        all_goals first | exact DLe.refl _
    · rw [show dropM b no = (Brn.zero, 540) by unfold dropM; rw [if_neg hv]] at k1
      repeat' ((conv => whnf); first | refine Dec.t (of_decide_eq_true (Eq.refl true)) ?_ | refine Dec.f (of_decide_eq_false (Eq.refl false)) ?_ | with_reducible refine Dec.t (show true = true from rfl) ?_ | with_reducible refine Dec.t (show false = false from rfl) ?_ | with_reducible refine Dec.f (show ¬ (true = false) by decide) ?_ | with_reducible refine Dec.f (show ¬ (false = true) by decide) ?_ | refine Dec.t (by omega) ?_ | refine Dec.f (by omega) ?_ | refine Dec.split (fun _ => ?_) (fun _ => ?_) | refine Wr.id (by omega) ?_ | refine Chk.mk (by first | omega | exact rfl | (simp only [List.length_map]; omega) | (simp [room]; done) | (simp [room]; omega) | (simp [dropL, room]; done) | (simp [dropL, room]; omega)) ?_ | refine Nam.mk (List.length_map _) ?_ | refine Prep.skip ?_ | refine Eith.l ?_ | refine chk_t (x := D.flat _) (by assumption) ?_ | refine br_mk (fun _ => ?_) (fun _ => ?_) | refine ACall.of (law54_sane) ?_ | refine APCall.of (law54_sane) ?_ | refine ACall.of (hF) ?_ | refine APCall.of (hF) ?_ | refine ACall.of (k1) ?_ | refine APCall.of (k1) ?_ | refine ACall.of (sz) ?_ | refine APCall.of (sz) ?_ | fail)
      all_goals first | (exfalso; omega) | skip
      all_goals (conv => whnf)
      all_goals first | exact DLe.refl _
  · rw [decide_eq_false hf] at hF
    repeat' ((conv => whnf); first | with_reducible refine Dec.t (show true = true from rfl) ?_ | with_reducible refine Dec.t (show false = false from rfl) ?_ | with_reducible refine Dec.f (show ¬ (true = false) by decide) ?_ | with_reducible refine Dec.f (show ¬ (false = true) by decide) ?_ | refine Dec.t (by omega) ?_ | refine Dec.f (by omega) ?_ | refine Dec.split (fun _ => ?_) (fun _ => ?_) | refine Wr.id (by omega) ?_ | refine Chk.mk (by first | omega | exact rfl | (simp only [List.length_map]; omega) | (simp [room]; done) | (simp [room]; omega) | (simp [dropL, room]; done) | (simp [dropL, room]; omega)) ?_ | refine Nam.mk (List.length_map _) ?_ | refine Prep.skip ?_ | refine Eith.l ?_ | refine chk_t (x := D.flat _) (by assumption) ?_ | refine br_mk (fun _ => ?_) (fun _ => ?_) | refine ACall.of (law54_sane) ?_ | refine APCall.of (law54_sane) ?_ | refine ACall.of (hF) ?_ | refine APCall.of (hF) ?_ | fail)
    all_goals first | (exfalso; omega) | skip
    all_goals (conv => whnf)
    all_goals first | exact DLe.refl _
end Go.PM

/- Branches, plain: what moves leave alone. -/
namespace Go.PM
open Go.Proofs
set_option maxRecDepth 10000
set_option maxHeartbeats 4000000

theorem with_same {b x : Brn} (hb : b.formed) (hx : x.formed) (hn : b.br.length ≤ x.br.length) (h0 : ∀ many, many ≤ b.base.length → x.base.take many = b.base.take many)
    (hp : ∀ i : Nat, i < b.br.length → x.par.getD i 0 = b.par.getD i 0 ∧ x.forks.getD i 0 = b.forks.getD i 0)
    (ha : ∀ (i : Int) (many : Nat), 0 ≤ i → i < b.br.length → many ≤ (b.at i).length → (x.at i).take many = (b.at i).take many) :
    ∀ (no : Int) (many : Nat), no < b.br.length → many ≤ lenM b no → withM x no many = withM b no many := by
  have key : ∀ (m : Nat) (no : Int) (many : Nat), (no + 1).toNat ≤ m → no < b.br.length → many ≤ lenM b no → withM x no many = withM b no many := by
    have neg : ∀ (no : Int) (many : Nat), no < 0 → many ≤ lenM b no → withM x no many = withM b no many := fun no many hno hk => by
      unfold lenM at hk
      rw [if_pos hno] at hk
      rw [with_neg hno, with_neg hno, h0 many hk]
    intro m
    induction m with
    | zero => intro no many hm _ hk; exact neg no many (by omega) hk
    | succ m ih =>
      intro no many hm hno hk
      by_cases hneg : no < 0
      · exact neg no many hneg hk
      · have he := hb.each no.toNat (by omega)
        obtain ⟨p1, p2⟩ := hp no.toNat (by omega)
        rw [with_pos hx hneg (by omega), with_pos hb hneg hno, p1, p2, ih _ _ (by omega) (by omega) (by omega)]
        unfold lenM at hk
        rw [if_neg hneg] at hk
        rw [ha no many (by omega) hno hk]
  exact fun no many => key _ no many (Nat.le_refl _)
/-- What a move leaves of a branch. -/
structure Keeps (b x : Brn) (no : Int) : Prop where
  valid : x.valid
  n : b.br.length ≤ x.br.length
  facts : withM x no (lenM x no) = withM b no (lenM b no)
  total : x.total ≤ 2 * b.total + 1
theorem keeps_refl {b : Brn} (hv : b.valid) (no : Int) : Keeps b b no := ⟨hv, Nat.le_refl _, rfl, by omega⟩
theorem close_keeps {b : Brn} (hv : b.valid) (k no : Int) (hn : no < b.br.length) : Keeps b (closeM b k) no :=
  ⟨close_valid hv k, Nat.le_refl _, by rw [with_close hv.1 k no _ hn]; rfl, by show b.total ≤ _; omega⟩
theorem grow_valid {b : Brn} (hv : b.valid) {k : Int} (cs : List Chg) (h0 : 0 ≤ k) (hk : k < b.br.length) (hr : (recM (withM b k (lenM b k)).1 cs).2 = 0) : (growM b k cs).valid := by
  refine ⟨grow_formed hv.1 cs h0 hk, hv.2.1, fun i hi => ?_⟩
  have hi : i < b.br.length := by simpa [growM] using hi
  by_cases hik : ((i : Nat) : Int) = k
  · rw [hik, grown_facts hv cs h0 hk]; exact hr
  · rw [grow_len b k i cs h0 hk, if_neg hik, with_grow hv.1 cs h0 hk i _ (by omega) (Nat.le_refl _)]
    exact hv.2.2 i hi
theorem grow_keeps {b : Brn} (hv : b.valid) {k no : Int} (cs : List Chg) (h0 : 0 ≤ k) (hk : k < b.br.length) (hr : (recM (withM b k (lenM b k)).1 cs).2 = 0) (hc : cs.length ≤ b.total + 1) (hn : no < b.br.length) (hne : no ≠ k) : Keeps b (growM b k cs) no :=
  ⟨grow_valid hv cs h0 hk hr, by simp [growM], by rw [grow_len b k no cs h0 hk, if_neg hne, with_grow hv.1 cs h0 hk no _ hn (Nat.le_refl _)], by rw [grow_total b cs h0 hk]; omega⟩
theorem getD_app {α : Type} {l r : List α} {i : Nat} {x : α} (h : i < l.length) : (l ++ r).getD i x = l.getD i x := by
  rw [List.getD_eq_getElem?_getD, List.getD_eq_getElem?_getD, List.getElem?_append_left h]
theorem fork_at {b : Brn} {p i : Int} (hi : i < b.br.length) (h0 : 0 ≤ i) : (forkX b p).at i = b.at i := getD_app (by omega)
theorem fork_len {b : Brn} {p i : Int} (hi : i < b.br.length) : lenM (forkX b p) i = lenM b i := by
  unfold lenM
  by_cases h : i < 0
  · rw [if_pos h, if_pos h]; rfl
  · rw [if_neg h, if_neg h, fork_at hi (by omega)]
theorem fork_formed {b : Brn} (hf : b.formed) {p : Int} (hp : -1 ≤ p ∧ p < b.br.length) (h64 : ¬ b.br.length = 64) : (forkX b p).formed := by
  have h1 := hf.n
  have h2 := hf.p
  have h3 := hf.f
  have h4 := hf.d
  have hl : (forkX b p).br.length = b.br.length + 1 := by simp [forkX]
  refine ⟨by omega, by simp [forkX, h2], by simp [forkX, h3], by simp [forkX, h4], fun i hi => ?_⟩
  rw [hl] at hi
  by_cases hlt : i < b.br.length
  · obtain ⟨e1, e2, e3, e4⟩ := hf.each i hlt
    have g1 : (forkX b p).par.getD i 0 = b.par.getD i 0 := getD_app (by omega)
    have g2 : (forkX b p).forks.getD i 0 = b.forks.getD i 0 := getD_app (by omega)
    rw [g1, g2, fork_len (by omega)]
    exact ⟨e1, e2, e3, e4⟩
  · have hie : i = b.br.length := by omega
    have g1 : (forkX b p).par.getD i 0 = p := by
      show (b.par ++ [p]).getD i 0 = p
      rw [List.getD_eq_getElem?_getD, List.getElem?_append_right (by omega), show i - b.par.length = 0 by omega]; rfl
    have g2 : (forkX b p).forks.getD i 0 = lenM b p := by
      show (b.forks ++ [(lenM b p : Int)]).getD i 0 = lenM b p
      rw [List.getD_eq_getElem?_getD, List.getElem?_append_right (by omega), show i - b.forks.length = 0 by omega]; rfl
    rw [g1, g2, fork_len hp.2]
    omega
theorem fork_keeps {b : Brn} (hv : b.valid) {p no : Int} (hp : -1 ≤ p ∧ p < b.br.length) (h64 : ¬ b.br.length = 64) (hn : no < b.br.length) : Keeps b (forkX b p) no := by
  have hf := hv.1
  have hx := fork_formed hf hp h64
  have hl : (forkX b p).br.length = b.br.length + 1 := by simp [forkX]
  have hs := with_same hf hx (by omega) (fun _ _ => rfl) (fun i hi => ⟨getD_app (by have := hf.p; omega), getD_app (by have := hf.f; omega)⟩) (fun i many h0 hi _ => by rw [fork_at hi h0])
  refine ⟨⟨hx, hv.2.1, fun i hi => ?_⟩, by omega, by rw [fork_len hn, hs no _ hn (Nat.le_refl _)], ?_⟩
  · rw [hl] at hi
    by_cases hlt : i < b.br.length
    · rw [fork_len (by omega), hs i _ (by omega) (Nat.le_refl _)]
      exact hv.2.2 i hlt
    · have hie : i = b.br.length := by omega
      have g1 : (forkX b p).par.getD i 0 = p := by
        show (b.par ++ [p]).getD i 0 = p
        rw [List.getD_eq_getElem?_getD, List.getElem?_append_right (by have := hf.p; omega), show i - b.par.length = 0 by have := hf.p; omega]; rfl
      have g2 : (forkX b p).forks.getD i 0 = lenM b p := by
        show (b.forks ++ [(lenM b p : Int)]).getD i 0 = lenM b p
        rw [List.getD_eq_getElem?_getD, List.getElem?_append_right (by have := hf.f; omega), show i - b.forks.length = 0 by have := hf.f; omega]; rfl
      have hat : (forkX b p).at (i : Nat) = [] := by
        show (b.br ++ [[]]).getD (((i : Nat) : Int).toNat) [] = []
        rw [Int.toNat_natCast, List.getD_eq_getElem?_getD, List.getElem?_append_right (by omega), show i - b.br.length = 0 by omega]; rfl
      rw [with_pos hx (by omega) (by omega), Int.toNat_natCast, g1, g2, Int.toNat_natCast, hs p _ hp.2 (Nat.le_refl _), hat, List.take_nil, recM_nil]
      have hpe : (withM b p (lenM b p)).2 = 0 := by
        by_cases h0 : p < 0
        · rw [with_neg h0]
        · have := hv.2.2 p.toNat (by omega)
          rwa [show ((p.toNat : Nat) : Int) = p by omega] at this
      rw [if_pos hpe]
  · show (forkX b p).base.length + ((forkX b p).br.map List.length).sum ≤ _
    simp only [forkX, List.map_append, List.sum_append, List.map_cons, List.map_nil, List.length_nil, List.sum_cons, List.sum_nil]
    unfold Brn.total
    omega
/-- A merge. -/
theorem merge_keeps {b : Brn} (hv : b.valid) {k no : Int} (hk : openP b k) (hr : (mergeR b k).2 = 0) (hn : no < b.br.length) (h0 : 0 ≤ no) (hne : no ≠ parM b k) : Keeps b (mergeX b k) no := by
  have hf := hv.1
  have h1 := open_lt hk
  have he := hf.each k.toNat (by omega)
  have hpe : parM b k = b.par.getD k.toNat 0 := rfl
  rw [← hpe] at he
  have hal := at_len b k
  unfold mergeX
  by_cases hp : parM b k < 0
  · rw [if_pos hp]
    have hmr : mergeR b k = recM b.base (b.at k) := by unfold mergeR; rw [with_neg hp]; unfold lenM; rw [if_pos hp, List.take_length]
    have hlen : (mergeR b k).1.length = b.base.length + (b.at k).length := by rw [hmr]; rw [hmr] at hr; exact rec_len hr
    have hpre : ∀ many, many ≤ b.base.length → (mergeR b k).1.take many = b.base.take many := fun many hm => by
      rw [hmr] at hr ⊢
      unfold recM at hr ⊢
      split at hr
      · rename_i hh
        rw [if_pos hh]
        exact List.take_append_of_le_length hm
      · cases hr
    have hx : (⟨(mergeR b k).1, b.br, b.par, b.forks, b.done.set k.toNat true⟩ : Brn).formed := by
      refine ⟨hf.n, hf.p, hf.f, by simp only [List.length_set]; exact hf.d, fun i hi => ?_⟩
      obtain ⟨e1, e2, e3, e4⟩ := hf.each i hi
      refine ⟨e1, e2, e3, ?_⟩
      unfold lenM at e4 ⊢
      simp only at e4 ⊢
      by_cases hpi : b.par.getD i 0 < 0
      · rw [if_pos hpi] at e4 ⊢; omega
      · rw [if_neg hpi] at e4 ⊢; exact e4
    have hs := with_same hf hx (Nat.le_refl _) hpre (fun _ _ => ⟨rfl, rfl⟩) (fun _ _ _ _ _ => rfl)
    have hlm : ∀ i : Int, 0 ≤ i → lenM (⟨(mergeR b k).1, b.br, b.par, b.forks, b.done.set k.toNat true⟩ : Brn) i = lenM b i := fun i hi => by
      unfold lenM; rw [if_neg (by omega), if_neg (by omega)]; rfl
    refine ⟨⟨hx, ?_, fun i hi => ?_⟩, Nat.le_refl _, by rw [hlm no h0, hs no _ hn (Nat.le_refl _)], ?_⟩
    · show checkM (mergeR b k).1 = 0
      rw [hmr] at hr ⊢
      exact recM_check hv.2.1 hr
    · rw [hlm i (by omega), hs i _ (by show (i : Int) < b.br.length; have : i < b.br.length := hi; omega) (Nat.le_refl _)]
      exact hv.2.2 i hi
    · show (mergeR b k).1.length + (b.br.map List.length).sum ≤ 2 * b.total + 1
      rw [hlen]
      unfold Brn.total at hal ⊢
      omega
  · rw [if_neg hp]
    have hcv := close_valid hv k
    have hr' : (recM (withM (closeM b k) (parM b k) (lenM (closeM b k) (parM b k))).1 (b.at k)).2 = 0 := by
      rw [with_close hf k _ _ (by omega)]; exact hr
    have := grow_keeps (b := closeM b k) hcv (k := parM b k) (no := no) (b.at k) (by omega) (by show parM b k < b.br.length; omega) hr' (by show (b.at k).length ≤ b.total + 1; omega) hn hne
    refine ⟨this.valid, this.n, this.facts.trans ?_, this.total⟩
    rw [with_close hf k no _ hn]; rfl
end Go.PM

/- Branches, plain: values that are alike. -/
namespace Go.PM
open Go.Proofs
set_option maxRecDepth 10000
set_option maxHeartbeats 4000000

theorem before_trans {a b c : Fact} (h1 : before a b) (h2 : before b c) : before a c := by unfold before at *; omega
theorem rising_pair : ∀ {l : List Fact}, rising l → l.Pairwise before
  | [], _ => .nil
  | [a], _ => by simp
  | a :: b :: r, h => by
    have ih := rising_pair (l := b :: r) h.2
    refine List.pairwise_cons.2 ⟨fun x hx => ?_, ih⟩
    cases hx with
    | head => exact h.1
    | tail _ hx => exact before_trans h.1 ((List.pairwise_cons.1 ih).1 x hx)
def hitK (k : Key) (day : Int) (f : Fact) : Bool := decide (f.key = k ∧ f.from_ ≤ day ∧ day < f.to_)
/-- In facts that are in order the last one counts. -/
theorem atF_last {l : List Fact} (hp : l.Pairwise before) (hk : ∀ f ∈ l, f.known ≤ 16777217) (k : Key) (day : Int) : atF l k day 16777217 = (l.filter (hitK k day)).getLast? := by
  have key : ∀ (n : Nat) (l : List Fact), l.length = n → l.Pairwise before → (∀ f ∈ l, f.known ≤ 16777217) → atF l k day 16777217 = (l.filter (hitK k day)).getLast? := by
    intro n
    induction n with
    | zero => intro l hl _ _; rw [List.eq_nil_of_length_eq_zero hl]; rfl
    | succ n ih =>
      intro l hl hp hk
      rcases List.eq_nil_or_concat l with rfl | ⟨r, f, rfl⟩
      · simp at hl
      · rw [List.concat_eq_append] at hl hp hk ⊢
        obtain ⟨p1, p2, p3⟩ := List.pairwise_append.1 hp
        have hr := ih r (by simpa using hl) p1 fun g hg => hk g (by simp [hg])
        rw [atF_snoc, hr, List.filter_append]
        by_cases hh : hitK k day f = true
        · rw [List.filter_cons_of_pos hh, List.filter_nil, List.getLast?_concat]
          have h1 := of_decide_eq_true hh
          refine if_pos ⟨h1.1, hk f (by simp), h1.2.1, h1.2.2, fun g hg => ?_⟩
          have hg' : g ∈ r := (List.mem_filter.1 (List.mem_of_getLast? hg)).1
          have hb := p3 g hg' f (by simp)
          rw [order_le]
          unfold before at hb ⊢; omega
        · rw [List.filter_cons_of_neg hh, List.filter_nil, List.append_nil]
          exact if_neg fun h => hh (decide_eq_true ⟨h.1, h.2.2.1, h.2.2.2.1⟩)
  exact key _ l rfl hp hk
/-- What the facts of a key say, in order. -/
def projK (l : List Fact) (k : Key) : List (Int × Int × Int) := (l.filter fun f => decide (f.key = k)).map fun f => (f.value, f.from_, f.to_)
def lastP (p : List (Int × Int × Int)) (day : Int) : Option Int := (p.filter fun x => decide (x.2.1 ≤ day ∧ day < x.2.2)).getLast?.bind fun x => if x.1 < 0 then none else some x.1
theorem atM_proj {l : List Fact} (h : checkM l = 0) (k : Key) (day : Int) : atM l k day 16777217 = lastP (projK l k) day := by
  obtain ⟨h1, h2⟩ := check_parts h
  unfold atM
  rw [atF_last (rising_pair h2) (fun f hf => by have := h1 f hf; unfold Fact.ok at this; omega)]
  unfold lastP projK
  rw [List.filter_map, List.filter_filter, List.getLast?_map]
  have he : l.filter (hitK k day) = l.filter fun a => decide (((fun x : Int × Int × Int => decide (x.2.1 ≤ day ∧ day < x.2.2)) ∘ fun f : Fact => (f.value, f.from_, f.to_)) a = true) && decide (a.key = k) := by
    refine List.filter_congr fun f _ => ?_
    unfold hitK
    rw [Bool.eq_iff_iff]
    simp only [decide_eq_true_eq, Bool.and_eq_true, Function.comp]
    exact ⟨fun h => ⟨h.2, h.1⟩, fun h => ⟨h.2, h.1⟩⟩
  rw [he]
  simp only [Bool.decide_eq_true]
  cases (l.filter fun a => ((fun x : Int × Int × Int => decide (x.2.1 ≤ day ∧ day < x.2.2)) ∘ fun f : Fact => (f.value, f.from_, f.to_)) a && decide (a.key = k)).getLast? with
  | none => rfl
  | some f => rfl
def ptsM (l : List Fact) (k : Key) : List Pt := pointsM l k 0 1024 16777217
theorem pts_proj {a b : List Fact} (ha : checkM a = 0) (hb : checkM b = 0) {k : Key} (h : projK a k = projK b k) : ptsM a k = ptsM b k := by
  unfold ptsM pointsM pointsF
  congr 1
  funext i
  rw [atM_proj ha, atM_proj hb, h]
theorem projK_app (a b : List Fact) (k : Key) : projK (a ++ b) k = projK a k ++ projK b k := by unfold projK; rw [List.filter_append, List.map_append]
theorem projK_nil {l : List Fact} {k : Key} (h : ∀ f ∈ l, f.key ≠ k) : projK l k = [] := by
  unfold projK
  rw [List.filter_eq_nil_iff.2 (fun f hf => by simpa using h f hf)]; rfl
theorem projK_one (c : Chg) (n : Int) (k : Key) : projK [c.fact n] k = if c.key = k then [(c.value, c.from_, c.to_)] else [] := by
  have hk : (c.fact n).key = c.key := rfl
  unfold projK
  by_cases h : c.key = k
  · rw [if_pos h, List.filter_cons_of_pos (p := fun f : Fact => decide (f.key = k)) (decide_eq_true (hk.trans h)), List.filter_nil]; rfl
  · rw [if_neg h, List.filter_cons_of_neg (p := fun f : Fact => decide (f.key = k)) (fun h2 => h (hk ▸ of_decide_eq_true h2)), List.filter_nil]; rfl
theorem projK_stamp (k : Key) : ∀ (cs : List Chg) (n m : Int), projK (stamp n cs) k = projK (stamp m cs) k
  | [], _, _ => rfl
  | c :: cs, n, m => by
    have ih := projK_stamp k cs (n + 1) (m + 1)
    rw [stamp, stamp, show c.fact n :: stamp (n + 1) cs = [c.fact n] ++ stamp (n + 1) cs from rfl, show c.fact m :: stamp (m + 1) cs = [c.fact m] ++ stamp (m + 1) cs from rfl, projK_app, projK_app, ih, projK_one, projK_one]
theorem stamp_key : ∀ {cs : List Chg} {n : Int} {f : Fact}, f ∈ stamp n cs → ∃ c ∈ cs, c.key = f.key
  | c :: cs, n, f, h => by
    cases h with
    | head => exact ⟨c, .head _, rfl⟩
    | tail _ h =>
      obtain ⟨c', h1, h2⟩ := stamp_key h
      exact ⟨c', .tail _ h1, h2⟩
theorem recM_app_stamp {l : List Fact} {cs : List Chg} (h : (recM l cs).2 = 0) : (recM l cs).1 = l ++ stamp (nextKn l) cs := by
  unfold recM at h ⊢
  split at h
  · rename_i hh; rw [if_pos hh]
  · cases h
/-- The parent's facts, in two parts: those that a branch began with, and what is new. -/
theorem parent_parts {b : Brn} (hv : b.valid) {no : Int} (h0 : 0 ≤ no) (hn : no < b.br.length) : ∃ F R, (withM b (parM b no) (lenM b (parM b no))) = (F ++ R, 0) ∧ withM b no (lenM b no) = (F ++ stamp (nextKn F) (b.at no), 0) ∧ ∀ f ∈ R, f.key ∈ freshK b no := by
  have hf := hv.1
  have he := hf.each no.toNat (by omega)
  have hpe : parM b no = b.par.getD no.toNat 0 := rfl
  rw [← hpe] at he
  have hw := hv.2.2 no.toNat (by omega)
  have hnn : ((no.toNat : Nat) : Int) = no := by omega
  rw [hnn] at hw
  have hlm : lenM b no = (b.at no).length := by unfold lenM; rw [if_neg (by omega)]
  have hun := with_pos hf (by omega : ¬ no < 0) hn (lenM b no)
  rw [hlm, List.take_length, ← hpe] at hun
  rw [hlm] at hw ⊢
  rw [hun] at hw ⊢
  by_cases h2 : (withM b (parM b no) (b.forks.getD no.toNat 0).toNat).2 = 0
  · rw [if_pos h2] at hw ⊢
    have hO : recM (withM b (parM b no) (b.forks.getD no.toNat 0).toNat).1 (b.at no) = ((withM b (parM b no) (b.forks.getD no.toNat 0).toNat).1 ++ stamp (nextKn (withM b (parM b no) (b.forks.getD no.toNat 0).toNat).1) (b.at no), 0) := Prod.ext (recM_app_stamp hw) hw
    by_cases hp : parM b no < 0
    · refine ⟨_, b.base.drop (b.forks.getD no.toNat 0).toNat, ?_, hO, fun f hm => ?_⟩
      · rw [with_neg hp, with_neg hp]
        unfold lenM
        rw [if_pos hp, List.take_length, List.take_append_drop]
      · unfold freshK
        rw [← hpe, if_pos hp]
        exact List.mem_map.2 ⟨f, hm, rfl⟩
    · have hpw := hv.2.2 (parM b no).toNat (by omega)
      rw [show (((parM b no).toNat : Nat) : Int) = parM b no by omega] at hpw
      have hpl : parM b no < b.br.length := by omega
      have hlp : lenM b (parM b no) = (b.at (parM b no)).length := by unfold lenM; rw [if_neg hp]
      have hP := with_pos hf hp hpl (lenM b (parM b no))
      have hQ := with_pos hf hp hpl (b.forks.getD no.toNat 0).toNat
      rw [hlp, List.take_length] at hP
      rw [hlp] at hpw ⊢
      generalize withM b (b.par.getD (parM b no).toNat 0) (b.forks.getD (parM b no).toNat 0).toNat = G at hP hQ
      by_cases hG : G.2 = 0
      · rw [if_pos hG] at hP hQ
        rw [hP] at hpw ⊢
        rw [hQ] at hO h2 ⊢
        have hsplit : recM G.1 (b.at (parM b no)) = recM (recM G.1 ((b.at (parM b no)).take (b.forks.getD no.toNat 0).toNat)).1 ((b.at (parM b no)).drop (b.forks.getD no.toNat 0).toNat) := by
          conv => lhs; rw [← List.take_append_drop (b.forks.getD no.toNat 0).toNat (b.at (parM b no)), recM_app, if_pos h2]
        rw [hsplit] at hpw ⊢
        refine ⟨_, _, Prod.ext (recM_app_stamp hpw) hpw, hO, fun f hm => ?_⟩
        obtain ⟨c, hc, he2⟩ := stamp_key hm
        unfold freshK
        rw [← hpe, if_neg hp]
        exact List.mem_map.2 ⟨c, hc, he2⟩
      · rw [if_neg hG] at hP
        rw [hP] at hpw
        exact absurd hpw hG
  · rw [if_neg h2] at hw
    exact absurd hw h2
theorem mergeM_ok {b : Brn} {no : Int} (h : (mergeM b no).2.2 = 0) : b.valid ∧ (openP b no ∧ (parM b no = -1 ∨ openP b (parM b no))) ∧ confM b no = [] ∧ (mergeR b no).2 = 0 := by
  unfold mergeM at h
  by_cases hv : b.valid
  · rw [if_pos hv] at h
    by_cases ho : openP b no ∧ (parM b no = -1 ∨ openP b (parM b no))
    · rw [if_pos ho] at h
      by_cases hc : confM b no = []
      · rw [if_pos hc] at h
        by_cases hr : (mergeR b no).2 = 0
        · exact ⟨hv, ho, hc, hr⟩
        · rw [if_neg hr] at h; exact absurd h hr
      · rw [if_neg hc] at h; cases h
    · rw [if_neg ho] at h; cases h
  · rw [if_neg hv] at h; cases h
theorem mergeM_is {b : Brn} {no : Int} (h : b.valid ∧ (openP b no ∧ (parM b no = -1 ∨ openP b (parM b no))) ∧ confM b no = [] ∧ (mergeR b no).2 = 0) : mergeM b no = (mergeX b no, [], 0) := by
  obtain ⟨hv, ho, hc, hr⟩ := h
  unfold mergeM
  rw [if_pos hv, if_pos ho, if_pos hc, if_pos hr]
/-- What a merge leaves. -/
structure Mgd (b : Brn) (no : Int) : Prop where
  valid : (mergeX b no).valid
  n : (mergeX b no).br.length = b.br.length
  par : (mergeX b no).par = b.par
  forks : (mergeX b no).forks = b.forks
  done : (mergeX b no).done = b.done.set no.toNat true
  facts : withM (mergeX b no) (parM b no) (lenM (mergeX b no) (parM b no)) = mergeR b no
  total : (mergeX b no).total ≤ 2 * b.total + 1
theorem merge_after {b : Brn} {no : Int} (h : (mergeM b no).2.2 = 0) : Mgd b no := by
  obtain ⟨hv, ho, hc, hr⟩ := mergeM_ok h
  have hl := open_lt ho.1
  have hf := hv.1
  have he := hf.each no.toNat (by omega)
  have hpe : parM b no = b.par.getD no.toNat 0 := rfl
  rw [← hpe] at he
  have hk := merge_keeps hv ho.1 hr (no := no) hl.2 hl.1 (by omega)
  refine ⟨hk.valid, ?_, ?_, ?_, ?_, ?_, hk.total⟩
  · unfold mergeX; split
    · rfl
    · simp [growM, closeM]
  · unfold mergeX; split <;> rfl
  · unfold mergeX; split <;> rfl
  · unfold mergeX; split <;> rfl
  · by_cases hp : parM b no < 0
    · have hx : mergeX b no = ⟨(mergeR b no).1, b.br, b.par, b.forks, b.done.set no.toNat true⟩ := by unfold mergeX; rw [if_pos hp]
      rw [hx, with_neg hp]
      unfold lenM
      rw [if_pos hp, List.take_length]
      exact Prod.ext rfl hr.symm
    · have hx : mergeX b no = growM (closeM b no) (parM b no) (b.at no) := by unfold mergeX; rw [if_neg hp]
      rw [hx, grown_facts (close_valid hv no) (b.at no) (by omega) (by show parM b no < b.br.length; omega), with_close hf no _ _ (by omega)]
      rfl
theorem conf_nil {b : Brn} {no : Int} (h : confM b no = []) {k : Key} (hk : k ∈ (b.at no).map Chg.key) : k ∉ freshK b no := fun hf => by
  obtain ⟨c, hc, rfl⟩ := List.mem_map.1 hk
  have h1 : c.key ∈ keysR ((b.at no).map fun c => c.fact 0) := ((keysR_spec _).2 _).2 ⟨c.fact 0, List.mem_map.2 ⟨c, hc, rfl⟩, rfl⟩
  have h2 : c.key ∈ confM b no := List.mem_filter.2 ⟨h1, decide_eq_true hf⟩
  rw [h] at h2
  cases h2
theorem conf_mem {b : Brn} {no : Int} {k : Key} (h : k ∈ confM b no) : k ∈ (b.at no).map Chg.key ∧ k ∈ freshK b no := by
  obtain ⟨h1, h2⟩ := List.mem_filter.1 h
  obtain ⟨f, hf, rfl⟩ := ((keysR_spec _).2 _).1 h1
  obtain ⟨c, hc, rfl⟩ := List.mem_map.1 hf
  exact ⟨List.mem_map.2 ⟨c, hc, rfl⟩, of_decide_eq_true h2⟩
theorem stamp_nokey {cs : List Chg} {k : Key} (h : k ∉ cs.map Chg.key) (n : Int) : projK (stamp n cs) k = [] := projK_nil fun f hf he => by
  obtain ⟨c, h1, h2⟩ := stamp_key hf
  exact h (List.mem_map.2 ⟨c, h1, h2.trans he⟩)
theorem wide_ofT {x : Brn} (h : x.total < 2 ^ 20) : x.wide := by
  refine ⟨by have := base_le x; omega, fun l hl => ?_⟩
  obtain ⟨i, hi⟩ := List.mem_iff_getElem?.1 hl
  have := at_len x (i : Nat)
  have he : x.at (i : Nat) = l := by unfold Brn.at; rw [Int.toNat_natCast, List.getD_eq_getElem?_getD, hi]; rfl
  rw [he] at this
  omega
theorem factsM_after {b : Brn} {no : Int} (h : (mergeM b no).2.2 = 0) : factsM (mergeX b no) (parM b no) = ((mergeR b no).1, 0) := by
  obtain ⟨hv, ho, hc, hr⟩ := mergeM_ok h
  have hA := merge_after h
  have hl := open_lt ho.1
  have he := hv.1.each no.toNat (by omega)
  have hpe : parM b no = b.par.getD no.toNat 0 := rfl
  rw [← hpe] at he
  unfold factsM
  rw [if_pos hA.valid, if_pos ⟨by omega, by rw [hA.n]; omega⟩, hA.facts]
  exact Prod.ext rfl hr
/-- What a merge changes, key by key. -/
theorem merged_alike {b : Brn} {no : Int} (h : (mergeM b no).2.2 = 0) (k : Key) :
    (k ∈ (b.at no).map Chg.key → ptsM (mergeR b no).1 k = ptsM (withM b no (lenM b no)).1 k) ∧ (k ∉ (b.at no).map Chg.key → ptsM (mergeR b no).1 k = ptsM (withM b (parM b no) (lenM b (parM b no))).1 k) := by
  obtain ⟨hv, ho, hc, hr⟩ := mergeM_ok h
  have hl := open_lt ho.1
  obtain ⟨F, R, e1, e2, e3⟩ := parent_parts hv hl.1 hl.2
  have he := hv.1.each no.toNat (by omega)
  have hpe : parM b no = b.par.getD no.toNat 0 := rfl
  rw [← hpe] at he
  have c1 := with_check hv.1 hv.2.1 (parM b no) (lenM b (parM b no)) (by omega) (by rw [e1])
  have c2 := with_check hv.1 hv.2.1 no (lenM b no) hl.2 (by rw [e2])
  have c3 : checkM (mergeR b no).1 = 0 := recM_check c1 hr
  have hm : (mergeR b no).1 = F ++ R ++ stamp (nextKn (F ++ R)) (b.at no) := by
    unfold mergeR at hr ⊢
    rw [e1] at hr ⊢
    exact recM_app_stamp hr
  rw [e1] at c1 ⊢
  rw [e2] at c2 ⊢
  refine ⟨fun hk => pts_proj c3 c2 ?_, fun hk => pts_proj c3 c1 ?_⟩
  · rw [hm, projK_app, projK_app, projK_app, projK_nil (l := R) (fun f hf he => conf_nil hc hk (by have := e3 f hf; rwa [he] at this)), List.append_nil]
    congr 1
    exact projK_stamp k _ _ _
  · rw [hm, projK_app, stamp_nokey hk, List.append_nil]
theorem merged_all {b : Brn} {no : Int} (h : (mergeM b no).2.2 = 0) : ∃ P O N, factsM b (parM b no) = (P, 0) ∧ factsM b no = (O, 0) ∧ factsM (mergeX b no) (parM b no) = (N, 0) ∧ checkM N = 0 ∧ N.length = P.length + (b.at no).length ∧ P.length ≤ b.total ∧ O.length ≤ b.total ∧
    ∀ k, (k ∈ (b.at no).map Chg.key → ptsM N k = ptsM O k) ∧ (k ∉ (b.at no).map Chg.key → ptsM N k = ptsM P k) := by
  have hal := merged_alike h
  obtain ⟨hv, ho, hc, hr⟩ := mergeM_ok h
  have hl := open_lt ho.1
  have hf := hv.1
  have he := hf.each no.toNat (by omega)
  have hpe : parM b no = b.par.getD no.toNat 0 := rfl
  rw [← hpe] at he
  obtain ⟨F, R, e1, e2, e3⟩ := parent_parts hv hl.1 hl.2
  have l1 := with_len hf (parM b no) (lenM b (parM b no)) (by omega)
  have l2 := with_len hf no (lenM b no) hl.2
  have c1 := with_check hf hv.2.1 (parM b no) (lenM b (parM b no)) (by omega) (by rw [e1])
  have hrl := rec_len (l := (withM b (parM b no) (lenM b (parM b no))).1) (cs := b.at no) hr
  refine ⟨F ++ R, F ++ stamp (nextKn F) (b.at no), (mergeR b no).1, ?_, ?_, factsM_after h, recM_check c1 hr, ?_, ?_, ?_, fun k => ?_⟩
  · unfold factsM; rw [if_pos hv, if_pos ⟨by omega, by omega⟩, e1]
  · unfold factsM; rw [if_pos hv, if_pos ⟨by omega, hl.2⟩, e2]
  · show (recM (withM b (parM b no) (lenM b (parM b no))).1 (b.at no)).1.length = (F ++ R).length + (b.at no).length
    rw [e1] at hrl ⊢; exact hrl
  · rw [e1] at l1; exact l1
  · rw [e2] at l2; exact l2
  · have := hal k; rw [e1, e2] at this; exact this
end Go.PM

/- The statements of branches: Merged. -/
namespace Go.PM
open Go.Proofs
set_option maxRecDepth 10000
set_option maxHeartbeats 8000000

theorem law54_alike (a b : List Fact) (k : Key) (ha : a.length < 2 ^ 40) (hb : b.length < 2 ^ 40) : CallP Try.prog 31 [.d (SL 8 (a.map Fact.d)), .d (SL 8 (b.map Fact.d)), .d k.d] (retD [.b (decide (ptsM a k = ptsM b k))]) := by
  have p1 := facts_Points a k 0 1024 16777217 ha
  have p2 := facts_Points b k 0 1024 16777217 hb
  have s1 := ref04_SamePoints (ptsM a k) (ptsM b k) (by
    have := points_len a k (lo0 0) 16777217 (daysN 0 1024)
    have h2 : daysN 0 1024 = 1024 := by decide
    unfold ptsM pointsM
    omega)
  refine exPure_sound (E := envOf Try.prog tt Try.f31.ntmps) (envOf_ok ttok mixed) Try.func31 (by rfl) rfl rfl (Nat.le_of_ble_eq_true rfl) ?_
  repeat' ((conv => whnf); first | with_reducible refine Dec.t (show true = true from rfl) ?_ | with_reducible refine Dec.t (show false = false from rfl) ?_ | with_reducible refine Dec.f (show ¬ (true = false) by decide) ?_ | with_reducible refine Dec.f (show ¬ (false = true) by decide) ?_ | refine Dec.t (by omega) ?_ | refine Dec.f (by omega) ?_ | refine Dec.split (fun _ => ?_) (fun _ => ?_) | refine Wr.id (by omega) ?_ | refine Chk.mk (by first | omega | exact rfl | (simp only [List.length_map]; omega) | (simp [room]; done) | (simp [room]; omega) | (simp [dropL, room]; done) | (simp [dropL, room]; omega)) ?_ | refine Nam.mk (List.length_map _) ?_ | refine Prep.skip ?_ | refine Eith.l ?_ | refine chk_t (x := D.flat _) (by assumption) ?_ | refine br_mk (fun _ => ?_) (fun _ => ?_) | refine ACall.of (p1) ?_ | refine APCall.of (p1) ?_ | refine ACall.of (p2) ?_ | refine APCall.of (p2) ?_ | refine ACall.of (s1) ?_ | refine APCall.of (s1) ?_ | fail)
  all_goals first | (exfalso; omega) | skip
  all_goals (conv => whnf)
  all_goals first | exact DLe.refl _
theorem mergeM_cases (b : Brn) (no : Int) : (mergeM b no).2.2 = 0 ∨ (mergeM b no = (Brn.zero, confM b no, 541) ∧ confM b no ≠ [] ∧ b.valid ∧ openP b no) ∨ ∃ e, mergeM b no = (Brn.zero, [], e) ∧ e ≠ 0 ∧ e ≠ 541 := by
  unfold mergeM
  by_cases hv : b.valid
  · rw [if_pos hv]
    by_cases ho : openP b no ∧ (parM b no = -1 ∨ openP b (parM b no))
    · rw [if_pos ho]
      by_cases hc : confM b no = []
      · rw [if_pos hc]
        by_cases hr : (mergeR b no).2 = 0
        · rw [if_pos hr]; exact .inl rfl
        · rw [if_neg hr]
          refine .inr (.inr ⟨_, rfl, hr, ?_⟩)
          unfold mergeR recM at hr ⊢
          split
          · exact (show (0 : Int) ≠ 541 by decide)
          · exact (show (40 : Int) ≠ 541 by decide)
      · rw [if_neg hc]; exact .inr (.inl ⟨rfl, hc, hv, ho.1⟩)
    · rw [if_neg ho]; exact .inr (.inr ⟨_, rfl, by decide, by decide⟩)
  · rw [if_neg hv]; exact .inr (.inr ⟨_, rfl, by decide, by decide⟩)
theorem conf_rising {b : Brn} {no : Int} {i : Nat} {x y : Key} (hx : (confM b no)[i]? = some x) (hy : (confM b no)[i + 1]? = some y) : lessK x y := by
  have h : (confM b no).Pairwise lessK := by unfold confM; exact (keysR_spec _).1.filter _
  obtain ⟨h1, e1⟩ := List.getElem?_eq_some_iff.1 hx
  obtain ⟨h2, e2⟩ := List.getElem?_eq_some_iff.1 hy
  have := List.pairwise_iff_getElem.1 h i (i + 1) h1 h2 (by omega)
  rwa [e1, e2] at this
/-- One round is walked, and leads into the state of a loop. -/
theorem ALoop.peelAt {P : Program} {E : Env} (hE : E.Ok P) {c : Code} {ts : Tm} {h : Hp} {k : Ex → Tm → Hp → Prop} {X : Type} (tv : X → Tm) (hv : X → List (Nat × Blk)) (Inv : X → Prop) (μ : X → Nat) (tsB : Tm) (hB : Hp)
    (first : exCode E c ts h fun e ts1 h1 => match e with
      | .normal => ∃ x0, Inv x0 ∧ Wm E.N h.length ts1 h1 (over (tv x0) tsB) (hset hB (hv x0))
      | e => k e ts1 h1)
    (round : ∀ x, Inv x → exCode E c (over (tv x) tsB) (hset hB (hv x)) fun e ts' h' => match e with
      | .normal => ∃ y, Wm E.N hB.length ts' h' (over (tv y) tsB) (hset hB (hv y)) ∧ Inv y ∧ μ y < μ x
      | e => k e ts' h') : ALoop P E.N c ts h k := by
  have hlen : ∀ (l : List (Nat × Blk)) (h : Hp), (hset h l).length = h.length := by
    intro l
    induction l with
    | nil => intro h; rfl
    | cons p l ih => intro h; rw [hset, ih]; simp
  refine ⟨LP.peel (AWP.post (AWP.mono (fun e ts1 h1 hk => ?_) (exCode_sound hE c _ _ _ first)) fun e ts' h' hk => hk)⟩
  cases e with
  | normal =>
    obtain ⟨x0, i0, hw⟩ := hk
    refine ⟨_, _, hw, ?_⟩
    refine LP.loop (X := X) (fun x => over (tv x) tsB) (fun x => hset hB (hv x)) Inv μ x0 i0 fun x hi => ?_
    rw [hlen]
    exact AWP.mono (fun e ts h hk => by cases e <;> exact hk) (exCode_sound hE c _ _ _ (round x hi))
  | exit id => exact ⟨_, _, Wk.refl.wm, hk⟩
  | ret => exact ⟨_, _, Wk.refl.wm, hk⟩
structure XZ where
  i : Nat
  vr : Nat
  ks : List Key
theorem law54_Merged (b : Brn) (no : Int) (o : Key) (hT : b.typed) : CallP Try.prog 8 [.d b.d, .d (I no), .d o.d] (retD [.b true]) := by
  have hF := ref54_Few b hT.r
  refine exPure_sound (E := envOf Try.prog tt Try.f8.ntmps) (envOf_ok ttok mixed) Try.func8 (by rfl) rfl rfl (Nat.le_of_ble_eq_true rfl) ?_
  by_cases hf : fewP b
  · rw [decide_eq_true hf] at hF
    have hW := few_wide hT hf
    have ht := few_total hW hf
    by_cases hn : 0 ≤ no ∧ no < b.br.length
    · obtain ⟨h0, hn⟩ := hn
      have k1 := branches_Merge b no hW (fun h => by have := ht h; omega)
      obtain ⟨X, K, e, hM⟩ : ∃ X K e, mergeM b no = (X, K, e) := ⟨_, _, _, rfl⟩
      have hcs := mergeM_cases b no
      rw [hM] at k1 hcs
      have hbg := at_get (b := b) (no := no) (by omega) hn
      have haw := at_wide hW no
      repeat' ((conv => whnf); first | with_reducible refine Dec.t (show true = true from rfl) ?_ | with_reducible refine Dec.t (show false = false from rfl) ?_ | with_reducible refine Dec.f (show ¬ (true = false) by decide) ?_ | with_reducible refine Dec.f (show ¬ (false = true) by decide) ?_ | refine Dec.t (by omega) ?_ | refine Dec.f (by omega) ?_ | refine Dec.split (fun _ => ?_) (fun _ => ?_) | refine Wr.id (by omega) ?_ | refine Chk.mk (by first | omega | exact rfl | (simp only [List.length_map]; omega) | (simp [room]; done) | (simp [room]; omega) | (simp [dropL, room]; done) | (simp [dropL, room]; omega)) ?_ | refine Nam.mk (List.length_map _) ?_ | refine Prep.skip ?_ | refine Eith.l ?_ | refine chk_t (x := D.flat _) (by assumption) ?_ | refine br_mk (fun _ => ?_) (fun _ => ?_) | refine ACall.of (law54_sane) ?_ | refine APCall.of (law54_sane) ?_ | refine ACall.of (hF) ?_ | refine APCall.of (hF) ?_ | refine ACall.of (k1) ?_ | refine APCall.of (k1) ?_ | refine nthK_mk hbg ?_ | fail)
      all_goals first | (exfalso; omega) | skip
      all_goals (conv => whnf)
      obtain ⟨cs, hce⟩ : ∃ cs, cs = b.at no := ⟨_, rfl⟩
      rw [← hce]
      rw [← hce] at haw
      refine ALoop.at (E := envOf Try.prog tt Try.f8.ntmps) (envOf_ok ttok mixed) (X := Nat) (fun i => [(60, .d (I i))]) (fun i => [(3, .map tt 38 (setE (accK ((cs.take i).map Chg.key))))]) (fun i => i ≤ cs.length) (fun i => cs.length - i) 0 (by repeat (first | exact trivial | refine And.intro rfl ?_ | refine And.intro (congrArg (fun n => V.d (I n)) (wrap_nat _ (by omega))) ?_)) rfl (Nat.zero_le _) ?_
      rintro i hi
      dsimp only
      by_cases hlt : i < cs.length
      · obtain ⟨c, hx, _⟩ := drop_get hlt
        have hx0 : (cs.map Chg.d)[((i : Nat) : Int).toNat]? = some c.d := map_get hx
        have hput := put_step Chg.key hx
        repeat' ((conv => whnf); first | with_reducible refine Dec.t (show true = true from rfl) ?_ | with_reducible refine Dec.t (show false = false from rfl) ?_ | with_reducible refine Dec.f (show ¬ (true = false) by decide) ?_ | with_reducible refine Dec.f (show ¬ (false = true) by decide) ?_ | refine Dec.t (by omega) ?_ | refine Dec.f (by omega) ?_ | refine Dec.split (fun _ => ?_) (fun _ => ?_) | refine Wr.id (by omega) ?_ | refine Chk.mk (by first | omega | exact rfl | (simp only [List.length_map]; omega) | (simp [room]; done) | (simp [room]; omega) | (simp [dropL, room]; done) | (simp [dropL, room]; omega)) ?_ | refine Nam.mk (List.length_map _) ?_ | refine Prep.skip ?_ | refine Eith.l ?_ | refine chk_t (x := D.flat _) (by assumption) ?_ | refine br_mk (fun _ => ?_) (fun _ => ?_) | refine nthK_mk hx0 ?_ | fail)
        all_goals first | (exfalso; omega) | skip
        all_goals (conv => whnf)
        all_goals first
          | exact ⟨i + 1, Wm.end (by repeat (first | exact trivial | refine And.intro rfl ?_ | refine And.intro (congrArg (fun n => V.d (I n)) (wrap_nat _ (by omega))) ?_)) (congrArg (fun es => [Blk.vard b.d.cells, Blk.vard o.d.cells, Blk.vard X.d.cells, Blk.map tt 38 es]) hput) rfl rfl, hlt, by show cs.length - (i + 1) < cs.length - i; omega⟩
      · have : i = cs.length := by omega
        subst this
        rw [List.take_length]
        obtain ⟨M, hMe⟩ : ∃ M, M = accK (cs.map Chg.key) := ⟨_, rfl⟩
        have hMm : ∀ x, x ∈ M ↔ x ∈ cs.map Chg.key := by rw [hMe]; exact (accK_spec _).2
        rw [← hMe]
        rcases hcs with he | ⟨he, hne, hv, ho⟩ | ⟨e', he, hn0, hn1⟩
        · have hmg : (mergeM b no).2.2 = 0 := by rw [hM]; exact he
          have hpk := mergeM_ok hmg
          have his := mergeM_is hpk
          rw [hM] at his
          simp only [Prod.mk.injEq] at his
          obtain ⟨rfl, rfl, rfl⟩ := his
          obtain ⟨hv, ho, hc, hr⟩ := hpk
          have hA := merge_after hmg
          have hl := open_lt ho.1
          have hf := hv.1
          have hel := hf.each no.toNat (by omega)
          have hpe : parM b no = b.par.getD no.toNat 0 := rfl
          rw [← hpe] at hel
          have hbt := ht hv
          have hXW : (mergeX b no).wide := wide_ofT (by have := hA.total; omega)
          have hpg : (b.par.map I)[no.toNat]? = some (I (parM b no)) := par_get hf (by omega) hn
          have hdl := hf.d
          have hpl := hf.p
          have hdg : ((mergeX b no).done.map B)[no.toNat]? = some (B true) := by rw [hA.done, List.getElem?_map, List.getElem?_set_self (by omega)]; rfl
          have hdl2 : (mergeX b no).done.length = b.br.length := by rw [hA.done, List.length_set]; exact hdl
          have f1 := branches_Facts b (parM b no) hW
          have f2 := branches_Facts b no hW
          have f3 := branches_Facts (mergeX b no) (parM b no) hXW
          obtain ⟨P, O, N, e1, e2, e3, e4, e5, e6, e7, hal⟩ := merged_all hmg
          rw [e1] at f1
          rw [e2] at f2
          rw [e3] at f3
          rw [← hce] at e5 hal
          have hcl : cs.length ≤ b.total := by rw [hce]; exact at_len b no
          have hck := facts_Check N (by omega)
          rw [e4] at hck
          dsimp only at f1 f2 f3 k1
          have hbg2 : (b.br.map brD)[no.toNat]? = some (brD cs) := by rw [hce]; exact hbg
          have hnil : ([] : List D) = [] := rfl
          have hlP : (P.map Fact.d).length = P.length := List.length_map _
          have hlO : (O.map Fact.d).length = O.length := List.length_map _
          have hln : ([] : List D).length = 0 := rfl
          repeat' ((conv => whnf); first | refine Eith.r (Chk.mk (by assumption) ?_) | with_reducible refine Dec.t (show true = true from rfl) ?_ | with_reducible refine Dec.t (show false = false from rfl) ?_ | with_reducible refine Dec.f (show ¬ (true = false) by decide) ?_ | with_reducible refine Dec.f (show ¬ (false = true) by decide) ?_ | refine Dec.t (by omega) ?_ | refine Dec.f (by omega) ?_ | refine Dec.split (fun _ => ?_) (fun _ => ?_) | refine Wr.id (by omega) ?_ | refine Chk.mk (by first | omega | exact rfl | (simp only [List.length_map]; omega) | (simp [room]; done) | (simp [room]; omega) | (simp [dropL, room]; done) | (simp [dropL, room]; omega)) ?_ | refine Nam.mk (List.length_map _) ?_ | refine Prep.skip ?_ | refine Eith.l ?_ | refine chk_t (x := D.flat _) (by assumption) ?_ | refine br_mk (fun _ => ?_) (fun _ => ?_) | refine ACall.of (f1) ?_ | refine APCall.of (f1) ?_ | refine ACall.of (f2) ?_ | refine APCall.of (f2) ?_ | refine ACall.of (f3) ?_ | refine APCall.of (f3) ?_ | refine ACall.of (hck) ?_ | refine APCall.of (hck) ?_ | refine nthK_mk hpg ?_ | refine nthK_mk hdg ?_ | refine nthK_mk hbg2 ?_ | fail)
          all_goals first | (exfalso; omega) | skip
          all_goals (conv => whnf)
          have hget : ∀ i : Nat, i < P.length + O.length → ∃ f : Fact, (dropL ([] ++ P.map Fact.d) 0 ++ O.map Fact.d)[0 + ((i : Nat) : Int).toNat]? = some f.d := fun i hi => by
            show ∃ f : Fact, (([] ++ P.map Fact.d) ++ O.map Fact.d)[0 + ((i : Nat) : Int).toNat]? = some f.d
            rw [Nat.zero_add, Int.toNat_natCast, List.nil_append, ← List.map_append, List.getElem?_map, List.getElem?_eq_getElem (by simpa using hi)]
            exact ⟨_, rfl⟩
          by_cases hpos : 0 < P.length + O.length
          · obtain ⟨f, hf⟩ := hget 0 hpos
            refine ALoop.peelAt (E := (envOf Try.prog tt Try.f8.ntmps)) (envOf_ok ttok mixed) (X := XZ) (fun x => [(214, .d (I x.i)), (25, .sref 8 x.vr 0 (x.i + 1) false)]) (fun x => [(8, .row x.vr 3 false (x.ks.map Key.d))]) (fun x => x.i ≤ P.length + O.length ∧ x.ks.length = x.i + 1) (fun x => P.length + O.length - x.i)
              [(213, .d (I ((([] : List D).length + (P.map Fact.d).length + (O.map Fact.d).length : Nat) : Int))), (212, .sref 5 1 0 (([] : List D).length + (P.map Fact.d).length + (O.map Fact.d).length) false), (23, .d (SL 8 (N.map Fact.d))), (21, .d (SL 8 (O.map Fact.d))), (19, .d (SL 8 (P.map Fact.d))), (10, .map 3)]
              [.vard b.d.cells, .vard o.d.cells, .vard (mergeX b no).d.cells, .map tt 38 (setE M), .res, .row 1 8 false (dropL ([] ++ P.map Fact.d) 0 ++ O.map Fact.d), .res, .vard f.d.cells, .row 0 3 false []] ?_ ?_
            · repeat' ((conv => whnf); first | with_reducible refine Dec.t (show true = true from rfl) ?_ | with_reducible refine Dec.t (show false = false from rfl) ?_ | with_reducible refine Dec.f (show ¬ (true = false) by decide) ?_ | with_reducible refine Dec.f (show ¬ (false = true) by decide) ?_ | refine Dec.t (by omega) ?_ | refine Dec.f (by omega) ?_ | refine Dec.split (fun _ => ?_) (fun _ => ?_) | refine Wr.id (by omega) ?_ | refine Chk.mk (by first | omega | exact rfl | (simp only [List.length_map]; omega) | (simp [room]; done) | (simp [room]; omega) | (simp [dropL, room]; done) | (simp [dropL, room]; omega)) ?_ | refine Nam.mk (List.length_map _) ?_ | refine Prep.skip ?_ | refine Eith.l ?_ | refine chk_t (x := D.flat _) (by assumption) ?_ | refine br_mk (fun _ => ?_) (fun _ => ?_) | refine Nam.mk (List.length_map _) ?_ | refine nthK_mk hf ?_ | fail)
              all_goals (conv => whnf)
              exact ⟨⟨1, 0, [o, f.key]⟩, ⟨by simp only; omega, rfl⟩, Wm.fin 9 (Nat.le_of_ble_eq_true rfl) (by repeat (first | exact trivial | refine And.intro rfl ?_ | refine And.intro (congrArg (fun n => V.d (I n)) (wrap_nat _ (by omega))) ?_)) rfl rfl rfl⟩
            · rintro ⟨i, vr, ks⟩ ⟨hi, hks⟩
              simp only at hi hks
              dsimp only
              have hkl : (ks.map Key.d).length = i + 1 := by rw [List.length_map, hks]
              by_cases hlt : i < P.length + O.length
              · obtain ⟨g, hg⟩ := hget i hlt
                repeat' ((conv => whnf); first | with_reducible refine Dec.t (show true = true from rfl) ?_ | with_reducible refine Dec.t (show false = false from rfl) ?_ | with_reducible refine Dec.f (show ¬ (true = false) by decide) ?_ | with_reducible refine Dec.f (show ¬ (false = true) by decide) ?_ | refine Dec.t (by omega) ?_ | refine Dec.f (by omega) ?_ | refine Dec.split (fun _ => ?_) (fun _ => ?_) | refine Wr.id (by omega) ?_ | refine Chk.mk (by first | omega | exact rfl | (simp only [List.length_map]; omega) | (simp [room]; done) | (simp [room]; omega) | (simp [dropL, room]; done) | (simp [dropL, room]; omega)) ?_ | refine Nam.mk (List.length_map _) ?_ | refine Prep.skip ?_ | refine Eith.l ?_ | refine chk_t (x := D.flat _) (by assumption) ?_ | refine br_mk (fun _ => ?_) (fun _ => ?_) | refine Nam.mk (List.length_map _) ?_ | refine nthK_mk hg ?_ | fail)
                all_goals (conv => whnf)
                exact ⟨⟨i + 1, vr + 1, ks ++ [g.key]⟩, Wm.end (by repeat (first | exact trivial | refine And.intro rfl ?_ | refine And.intro (congrArg (fun n => V.d (I n)) (wrap_nat _ (by omega))) ?_)) (by show [_, _, _, _, _, _, _, _, Blk.row (vr + 1) 3 false (ks.map Key.d ++ [g.key.d])] = [_, _, _, _, _, _, _, _, Blk.row (vr + 1) 3 false ((ks ++ [g.key]).map Key.d)]; rw [List.map_append]; rfl) rfl rfl, ⟨by simp only; omega, by simp [hks]⟩, by simp only; omega⟩
              · have : i = P.length + O.length := by omega
                subst this
                repeat' ((conv => whnf); first | with_reducible refine Dec.t (show true = true from rfl) ?_ | with_reducible refine Dec.t (show false = false from rfl) ?_ | with_reducible refine Dec.f (show ¬ (true = false) by decide) ?_ | with_reducible refine Dec.f (show ¬ (false = true) by decide) ?_ | refine Dec.t (by omega) ?_ | refine Dec.f (by omega) ?_ | refine Dec.split (fun _ => ?_) (fun _ => ?_) | refine Wr.id (by omega) ?_ | refine Chk.mk (by first | omega | exact rfl | (simp only [List.length_map]; omega) | (simp [room]; done) | (simp [room]; omega) | (simp [dropL, room]; done) | (simp [dropL, room]; omega)) ?_ | refine Nam.mk (List.length_map _) ?_ | refine Prep.skip ?_ | refine Eith.l ?_ | refine chk_t (x := D.flat _) (by assumption) ?_ | refine br_mk (fun _ => ?_) (fun _ => ?_) | refine Nam.mk (List.length_map _) ?_ | fail)
                all_goals (conv => whnf)
                refine ALoop.weak (liftT_to (t := 224) (m := 8) (ks.map Key.d) rfl rfl (by simp [hks]) (by simp; exact List.take_of_length_le (by simp [hks]))) ?_
                refine ALoop.at (E := envOf Try.prog tt Try.f8.ntmps) (envOf_ok ttok mixed) (X := Nat) (fun i => [(226, .d (I i)), (224, .d (.sl 3 false (ks.map Key.d)))]) (fun _ => []) (fun i => i ≤ ks.length) (fun i => ks.length - i) 0 (by repeat (first | exact trivial | refine And.intro rfl ?_ | refine And.intro (congrArg (fun n => V.d (I n)) (wrap_nat _ (by omega))) ?_)) rfl (Nat.zero_le _) ?_
                intro i hi
                by_cases hlt : i < ks.length
                · obtain ⟨q, hq, _⟩ := drop_get (l := ks) (i := i) hlt
                  have hqd : (ks.map Key.d)[((i : Nat) : Int).toNat]? = some q.d := by rw [Int.toNat_natCast]; exact map_get hq
                  clear hget hf
                  by_cases hqM : q ∈ M
                  · have g1 : (mapFind tt 38 q.d (setE M)).getD (.b false) = .b true := by rw [find_key, if_pos hqM]; rfl
                    have c1 := law54_alike N O q (by omega) (by omega)
                    rw [decide_eq_true ((hal q).1 ((hMm q).1 hqM))] at c1
                    repeat' ((conv => whnf); first | with_reducible refine Dec.t (show true = true from rfl) ?_ | with_reducible refine Dec.t (show false = false from rfl) ?_ | with_reducible refine Dec.f (show ¬ (true = false) by decide) ?_ | with_reducible refine Dec.f (show ¬ (false = true) by decide) ?_ | refine Dec.t (by omega) ?_ | refine Dec.f (by omega) ?_ | refine Dec.split (fun _ => ?_) (fun _ => ?_) | refine Wr.id (by omega) ?_ | refine Chk.mk (by first | omega | exact rfl | (simp only [List.length_map]; omega) | (simp [room]; done) | (simp [room]; omega) | (simp [dropL, room]; done) | (simp [dropL, room]; omega)) ?_ | refine Nam.mk (List.length_map _) ?_ | refine Prep.skip ?_ | refine Eith.l ?_ | refine chk_t (x := D.flat _) (by assumption) ?_ | refine br_mk (fun _ => ?_) (fun _ => ?_) | refine nthK_mk hqd ?_ | refine Nam.mk g1 ?_ | refine ACall.of (c1) ?_ | refine APCall.of (c1) ?_ | refine APCall.of c1 ?_ | fail)
                    all_goals first | (exfalso; omega) | skip
                    all_goals (conv => whnf)
                    all_goals first | exact ⟨i + 1, Wm.end (by repeat (first | exact trivial | refine And.intro rfl ?_ | refine And.intro (congrArg (fun n => V.d (I n)) (wrap_nat _ (by omega))) ?_)) rfl rfl rfl, hlt, by show ks.length - (i + 1) < ks.length - i; omega⟩
                  · have g1 : (mapFind tt 38 q.d (setE M)).getD (.b false) = .b false := by rw [find_key, if_neg hqM]; rfl
                    have c1 := law54_alike N P q (by omega) (by omega)
                    rw [decide_eq_true ((hal q).2 (fun h => hqM ((hMm q).2 h)))] at c1
                    repeat' ((conv => whnf); first | with_reducible refine Dec.t (show true = true from rfl) ?_ | with_reducible refine Dec.t (show false = false from rfl) ?_ | with_reducible refine Dec.f (show ¬ (true = false) by decide) ?_ | with_reducible refine Dec.f (show ¬ (false = true) by decide) ?_ | refine Dec.t (by omega) ?_ | refine Dec.f (by omega) ?_ | refine Dec.split (fun _ => ?_) (fun _ => ?_) | refine Wr.id (by omega) ?_ | refine Chk.mk (by first | omega | exact rfl | (simp only [List.length_map]; omega) | (simp [room]; done) | (simp [room]; omega) | (simp [dropL, room]; done) | (simp [dropL, room]; omega)) ?_ | refine Nam.mk (List.length_map _) ?_ | refine Prep.skip ?_ | refine Eith.l ?_ | refine chk_t (x := D.flat _) (by assumption) ?_ | refine br_mk (fun _ => ?_) (fun _ => ?_) | refine nthK_mk hqd ?_ | refine Nam.mk g1 ?_ | refine ACall.of (c1) ?_ | refine APCall.of (c1) ?_ | refine APCall.of c1 ?_ | fail)
                    all_goals first | (exfalso; omega) | skip
                    all_goals (conv => whnf)
                    all_goals first | exact ⟨i + 1, Wm.end (by repeat (first | exact trivial | refine And.intro rfl ?_ | refine And.intro (congrArg (fun n => V.d (I n)) (wrap_nat _ (by omega))) ?_)) rfl rfl rfl, hlt, by show ks.length - (i + 1) < ks.length - i; omega⟩
                · have : i = ks.length := by omega
                  subst this
                  repeat' ((conv => whnf); first | with_reducible refine Dec.t (show true = true from rfl) ?_ | with_reducible refine Dec.t (show false = false from rfl) ?_ | with_reducible refine Dec.f (show ¬ (true = false) by decide) ?_ | with_reducible refine Dec.f (show ¬ (false = true) by decide) ?_ | refine Dec.t (by omega) ?_ | refine Dec.f (by omega) ?_ | refine Dec.split (fun _ => ?_) (fun _ => ?_) | refine Wr.id (by omega) ?_ | refine Chk.mk (by first | omega | exact rfl | (simp only [List.length_map]; omega) | (simp [room]; done) | (simp [room]; omega) | (simp [dropL, room]; done) | (simp [dropL, room]; omega)) ?_ | refine Nam.mk (List.length_map _) ?_ | refine Prep.skip ?_ | refine Eith.l ?_ | refine chk_t (x := D.flat _) (by assumption) ?_ | refine br_mk (fun _ => ?_) (fun _ => ?_) | fail)
                  all_goals first | (exfalso; omega) | skip
                  all_goals (conv => whnf)
                  all_goals first | exact DLe.refl _
          · have hl0 : P = [] := List.length_eq_zero_iff.1 (by omega)
            have hm0 : O = [] := List.length_eq_zero_iff.1 (by omega)
            subst hl0; subst hm0
            clear hget
            by_cases hqM : o ∈ M
            · have g1 : (mapFind tt 38 o.d (setE M)).getD (.b false) = .b true := by rw [find_key, if_pos hqM]; rfl
              have c1 := law54_alike N [] o (by omega) (by decide)
              rw [decide_eq_true ((hal o).1 ((hMm o).1 hqM))] at c1
              repeat' ((conv => whnf); first | refine Dec.t (of_decide_eq_true (Eq.refl true)) ?_ | refine Dec.f (of_decide_eq_false (Eq.refl false)) ?_ | with_reducible refine Dec.t (show true = true from rfl) ?_ | with_reducible refine Dec.t (show false = false from rfl) ?_ | with_reducible refine Dec.f (show ¬ (true = false) by decide) ?_ | with_reducible refine Dec.f (show ¬ (false = true) by decide) ?_ | refine Dec.t (by omega) ?_ | refine Dec.f (by omega) ?_ | refine Dec.split (fun _ => ?_) (fun _ => ?_) | refine Wr.id (by omega) ?_ | refine Chk.mk (by first | omega | exact rfl | (simp only [List.length_map]; omega) | (simp [room]; done) | (simp [room]; omega) | (simp [dropL, room]; done) | (simp [dropL, room]; omega)) ?_ | refine Nam.mk (List.length_map _) ?_ | refine Prep.skip ?_ | refine Eith.l ?_ | refine chk_t (x := D.flat _) (by assumption) ?_ | refine br_mk (fun _ => ?_) (fun _ => ?_) | refine Nam.mk g1 ?_ | refine ACall.of (c1) ?_ | refine APCall.of (c1) ?_ | refine APCall.of c1 ?_ | refine Nam.mk (y := 0) rfl ?_ | refine Nam.mk (y := 1) rfl ?_ | refine ALoop.rounds 2 ?_ | refine ALoopN.step (E := (envOf Try.prog tt Try.f8.ntmps)) (envOf_ok ttok mixed) ?_ | fail)
              all_goals first | (exfalso; omega) | skip
              all_goals (conv => whnf)
              all_goals first | exact DLe.refl _
            · have g1 : (mapFind tt 38 o.d (setE M)).getD (.b false) = .b false := by rw [find_key, if_neg hqM]; rfl
              have c1 := law54_alike N [] o (by omega) (by decide)
              rw [decide_eq_true ((hal o).2 (fun h => hqM ((hMm o).2 h)))] at c1
              repeat' ((conv => whnf); first | refine Dec.t (of_decide_eq_true (Eq.refl true)) ?_ | refine Dec.f (of_decide_eq_false (Eq.refl false)) ?_ | with_reducible refine Dec.t (show true = true from rfl) ?_ | with_reducible refine Dec.t (show false = false from rfl) ?_ | with_reducible refine Dec.f (show ¬ (true = false) by decide) ?_ | with_reducible refine Dec.f (show ¬ (false = true) by decide) ?_ | refine Dec.t (by omega) ?_ | refine Dec.f (by omega) ?_ | refine Dec.split (fun _ => ?_) (fun _ => ?_) | refine Wr.id (by omega) ?_ | refine Chk.mk (by first | omega | exact rfl | (simp only [List.length_map]; omega) | (simp [room]; done) | (simp [room]; omega) | (simp [dropL, room]; done) | (simp [dropL, room]; omega)) ?_ | refine Nam.mk (List.length_map _) ?_ | refine Prep.skip ?_ | refine Eith.l ?_ | refine chk_t (x := D.flat _) (by assumption) ?_ | refine br_mk (fun _ => ?_) (fun _ => ?_) | refine Nam.mk g1 ?_ | refine ACall.of (c1) ?_ | refine APCall.of (c1) ?_ | refine APCall.of c1 ?_ | refine Nam.mk (y := 0) rfl ?_ | refine Nam.mk (y := 1) rfl ?_ | refine ALoop.rounds 2 ?_ | refine ALoopN.step (E := (envOf Try.prog tt Try.f8.ntmps)) (envOf_ok ttok mixed) ?_ | fail)
              all_goals first | (exfalso; omega) | skip
              all_goals (conv => whnf)
              all_goals first | exact DLe.refl _
        · simp only [Prod.mk.injEq] at he
          obtain ⟨rfl, rfl, rfl⟩ := he
          have r1 := ref54_Fresh b hv.1 (by have := ht hv; omega) no h0 hn
          repeat' ((conv => whnf); first | with_reducible refine Dec.t (show true = true from rfl) ?_ | with_reducible refine Dec.t (show false = false from rfl) ?_ | with_reducible refine Dec.f (show ¬ (true = false) by decide) ?_ | with_reducible refine Dec.f (show ¬ (false = true) by decide) ?_ | refine Dec.t (by omega) ?_ | refine Dec.f (by omega) ?_ | refine Dec.split (fun _ => ?_) (fun _ => ?_) | refine Wr.id (by omega) ?_ | refine Chk.mk (by first | omega | exact rfl | (simp only [List.length_map]; omega) | (simp [room]; done) | (simp [room]; omega) | (simp [dropL, room]; done) | (simp [dropL, room]; omega)) ?_ | refine Nam.mk (List.length_map _) ?_ | refine Prep.skip ?_ | refine Eith.l ?_ | refine chk_t (x := D.flat _) (by assumption) ?_ | refine br_mk (fun _ => ?_) (fun _ => ?_) | refine ACall.of (r1) ?_ | refine APCall.of (r1) ?_ | fail)
          all_goals first | (exfalso; omega) | skip
          all_goals (conv => whnf)
          obtain ⟨fs, hfe⟩ : ∃ fs, fs = freshF b no := ⟨_, rfl⟩
          have hfl : fs.length ≤ b.total := by rw [hfe]; exact freshF_len b no
          have hbt := ht hv
          rw [← hfe]
          refine ALoop.at (E := envOf Try.prog tt Try.f8.ntmps) (envOf_ok ttok mixed) (X := Nat) (fun i => [(75, .d (I i))]) (fun i => [(4, .map tt 38 (setE (accK ((fs.take i).map Fact.key))))]) (fun i => i ≤ fs.length) (fun i => fs.length - i) 0 (by repeat (first | exact trivial | refine And.intro rfl ?_ | refine And.intro (congrArg (fun n => V.d (I n)) (wrap_nat _ (by omega))) ?_)) rfl (Nat.zero_le _) ?_
          rintro i hi
          dsimp only
          by_cases hlt : i < fs.length
          · obtain ⟨f, hx, _⟩ := drop_get hlt
            have hx0 : (fs.map Fact.d)[((i : Nat) : Int).toNat]? = some f.d := map_get hx
            have hput := put_step Fact.key hx
            repeat' ((conv => whnf); first | with_reducible refine Dec.t (show true = true from rfl) ?_ | with_reducible refine Dec.t (show false = false from rfl) ?_ | with_reducible refine Dec.f (show ¬ (true = false) by decide) ?_ | with_reducible refine Dec.f (show ¬ (false = true) by decide) ?_ | refine Dec.t (by omega) ?_ | refine Dec.f (by omega) ?_ | refine Dec.split (fun _ => ?_) (fun _ => ?_) | refine Wr.id (by omega) ?_ | refine Chk.mk (by first | omega | exact rfl | (simp only [List.length_map]; omega) | (simp [room]; done) | (simp [room]; omega) | (simp [dropL, room]; done) | (simp [dropL, room]; omega)) ?_ | refine Nam.mk (List.length_map _) ?_ | refine Prep.skip ?_ | refine Eith.l ?_ | refine chk_t (x := D.flat _) (by assumption) ?_ | refine br_mk (fun _ => ?_) (fun _ => ?_) | refine nthK_mk hx0 ?_ | fail)
            all_goals first | (exfalso; omega) | skip
            all_goals (conv => whnf)
            all_goals first
              | exact ⟨i + 1, Wm.end (by repeat (first | exact trivial | refine And.intro rfl ?_ | refine And.intro (congrArg (fun n => V.d (I n)) (wrap_nat _ (by omega))) ?_)) (congrArg (fun es => [Blk.vard b.d.cells, Blk.vard o.d.cells, Blk.vard Brn.zero.d.cells, Blk.map tt 38 (setE M), Blk.map tt 38 es]) hput) rfl rfl, hlt, by show fs.length - (i + 1) < fs.length - i; omega⟩
          · have : i = fs.length := by omega
            subst this
            rw [List.take_length]
            obtain ⟨W, hWe⟩ : ∃ W, W = accK (fs.map Fact.key) := ⟨_, rfl⟩
            have hWm : ∀ x, x ∈ W ↔ x ∈ freshK b no := by
              rw [hWe, ← freshF_key, ← hfe]; exact (accK_spec _).2
            rw [← hWe]
            obtain ⟨L, hL⟩ : ∃ L, L = confM b no := ⟨_, rfl⟩
            have hLl : L.length ≤ b.total := by rw [hL]; exact conf_len b no
            have hLm : ∀ k ∈ L, k ∈ M ∧ k ∈ W := fun k hk => by
              rw [hL] at hk
              obtain ⟨c1, c2⟩ := conf_mem hk
              exact ⟨(hMm k).2 (by rw [hce]; exact c1), (hWm k).2 c2⟩
            have hLr : ∀ {i : Nat} {x y : Key}, L[i]? = some x → L[i + 1]? = some y → lessK x y := fun {i x y} h1 h2 => by
              rw [hL] at h1 h2
              exact conf_rising h1 h2
            have hLn : 0 < L.length := by rw [hL]; exact List.length_pos_iff.2 hne
            rw [← hL]
            repeat' ((conv => whnf); first | with_reducible refine Dec.t (show true = true from rfl) ?_ | with_reducible refine Dec.t (show false = false from rfl) ?_ | with_reducible refine Dec.f (show ¬ (true = false) by decide) ?_ | with_reducible refine Dec.f (show ¬ (false = true) by decide) ?_ | refine Dec.t (by omega) ?_ | refine Dec.f (by omega) ?_ | refine Dec.split (fun _ => ?_) (fun _ => ?_) | refine Wr.id (by omega) ?_ | refine Chk.mk (by first | omega | exact rfl | (simp only [List.length_map]; omega) | (simp [room]; done) | (simp [room]; omega) | (simp [dropL, room]; done) | (simp [dropL, room]; omega)) ?_ | refine Nam.mk (List.length_map _) ?_ | refine Prep.skip ?_ | refine Eith.l ?_ | refine chk_t (x := D.flat _) (by assumption) ?_ | refine br_mk (fun _ => ?_) (fun _ => ?_) | fail)
            all_goals first | (exfalso; omega) | skip
            all_goals (conv => whnf)
            refine ALoop.at (E := envOf Try.prog tt Try.f8.ntmps) (envOf_ok ttok mixed) (X := Nat) (fun i => [(85, .d (I i))]) (fun i => []) (fun i => i ≤ L.length) (fun i => L.length - i) 0 (by repeat (first | exact trivial | refine And.intro rfl ?_ | refine And.intro (congrArg (fun n => V.d (I n)) (wrap_nat _ (by omega))) ?_)) rfl (Nat.zero_le _) ?_
            rintro i hi
            by_cases hlt : i < L.length
            · obtain ⟨q, hx, _⟩ := drop_get hlt
              have hx0 : (L.map Key.d)[((i : Nat) : Int).toNat]? = some q.d := map_get hx
              obtain ⟨q1, q2⟩ := hLm q (List.mem_of_getElem? hx)
              have g1 : (mapFind tt 38 q.d (setE M)).getD (.b false) = .b true := by rw [find_key, if_pos q1]; rfl
              have g2 : (mapFind tt 38 q.d (setE W)).getD (.b false) = .b true := by rw [find_key, if_pos q2]; rfl
              by_cases hi0 : i = 0
              · subst hi0
                repeat' ((conv => whnf); first | with_reducible refine Dec.t (show true = true from rfl) ?_ | with_reducible refine Dec.t (show false = false from rfl) ?_ | with_reducible refine Dec.f (show ¬ (true = false) by decide) ?_ | with_reducible refine Dec.f (show ¬ (false = true) by decide) ?_ | refine Dec.t (by omega) ?_ | refine Dec.f (by omega) ?_ | refine Dec.split (fun _ => ?_) (fun _ => ?_) | refine Wr.id (by omega) ?_ | refine Chk.mk (by first | omega | exact rfl | (simp only [List.length_map]; omega) | (simp [room]; done) | (simp [room]; omega) | (simp [dropL, room]; done) | (simp [dropL, room]; omega)) ?_ | refine Nam.mk (List.length_map _) ?_ | refine Prep.skip ?_ | refine Eith.l ?_ | refine chk_t (x := D.flat _) (by assumption) ?_ | refine br_mk (fun _ => ?_) (fun _ => ?_) | refine nthK_mk hx0 ?_ | refine Nam.mk g1 ?_ | refine Nam.mk g2 ?_ | fail)
                all_goals first | (exfalso; omega) | skip
                all_goals (conv => whnf)
                all_goals first
                  | exact ⟨0 + 1, Wm.end (by repeat (first | exact trivial | refine And.intro rfl ?_ | refine And.intro (congrArg (fun n => V.d (I n)) (wrap_nat _ (by omega))) ?_)) rfl rfl rfl, hlt, by show L.length - (0 + 1) < L.length - 0; omega⟩
              · obtain ⟨p, hp, _⟩ := drop_get (l := L) (i := i - 1) (by omega)
                have hp0 : (L.map Key.d)[((i : Nat) - 1 : Int).toNat]? = some p.d := by rw [show ((i : Nat) - 1 : Int).toNat = i - 1 by omega, List.getElem?_map, hp]; rfl
                have l1 := ref04_LessKey p q
                rw [decide_eq_true (hLr hp (by rw [show i - 1 + 1 = i by omega]; exact hx))] at l1
                repeat' ((conv => whnf); first | with_reducible refine Dec.t (show true = true from rfl) ?_ | with_reducible refine Dec.t (show false = false from rfl) ?_ | with_reducible refine Dec.f (show ¬ (true = false) by decide) ?_ | with_reducible refine Dec.f (show ¬ (false = true) by decide) ?_ | refine Dec.t (by omega) ?_ | refine Dec.f (by omega) ?_ | refine Dec.split (fun _ => ?_) (fun _ => ?_) | refine Wr.id (by omega) ?_ | refine Chk.mk (by first | omega | exact rfl | (simp only [List.length_map]; omega) | (simp [room]; done) | (simp [room]; omega) | (simp [dropL, room]; done) | (simp [dropL, room]; omega)) ?_ | refine Nam.mk (List.length_map _) ?_ | refine Prep.skip ?_ | refine Eith.l ?_ | refine chk_t (x := D.flat _) (by assumption) ?_ | refine br_mk (fun _ => ?_) (fun _ => ?_) | refine nthK_mk hx0 ?_ | refine nthK_mk hp0 ?_ | refine Nam.mk g1 ?_ | refine Nam.mk g2 ?_ | refine ACall.of (l1) ?_ | refine APCall.of (l1) ?_ | fail)
                all_goals first | (exfalso; omega) | skip
                all_goals (conv => whnf)
                all_goals first
                  | exact ⟨i + 1, Wm.end (by repeat (first | exact trivial | refine And.intro rfl ?_ | refine And.intro (congrArg (fun n => V.d (I n)) (wrap_nat _ (by omega))) ?_)) rfl rfl rfl, hlt, by show L.length - (i + 1) < L.length - i; omega⟩
            · have sz := ref54_Same Brn.zero zero_wid
              have lez : VLes [.d Brn.zero.d, .d (.agg [.sl 0 true [], .sl 0 true [], .sl 0 true [], .sl 0 true [], .sl 0 true []])] [.d Brn.zero.d, .d Brn.zero.d] := ⟨VLe.refl _, VLe.d zeroBrn, rfl⟩
              have sz := CallP.le lez sz
              repeat' ((conv => whnf); first | with_reducible refine Dec.t (show true = true from rfl) ?_ | with_reducible refine Dec.t (show false = false from rfl) ?_ | with_reducible refine Dec.f (show ¬ (true = false) by decide) ?_ | with_reducible refine Dec.f (show ¬ (false = true) by decide) ?_ | refine Dec.t (by omega) ?_ | refine Dec.f (by omega) ?_ | refine Dec.split (fun _ => ?_) (fun _ => ?_) | refine Wr.id (by omega) ?_ | refine Chk.mk (by first | omega | exact rfl | (simp only [List.length_map]; omega) | (simp [room]; done) | (simp [room]; omega) | (simp [dropL, room]; done) | (simp [dropL, room]; omega)) ?_ | refine Nam.mk (List.length_map _) ?_ | refine Prep.skip ?_ | refine Eith.l ?_ | refine chk_t (x := D.flat _) (by assumption) ?_ | refine br_mk (fun _ => ?_) (fun _ => ?_) | refine ACall.of (sz) ?_ | refine APCall.of (sz) ?_ | fail)
              all_goals first | (exfalso; omega) | skip
              all_goals (conv => whnf)
              all_goals first | exact DLe.refl _
        · simp only [Prod.mk.injEq] at he
          obtain ⟨rfl, rfl, rfl⟩ := he
          have sz := ref54_Same Brn.zero zero_wid
          have lez : VLes [.d Brn.zero.d, .d (.agg [.sl 0 true [], .sl 0 true [], .sl 0 true [], .sl 0 true [], .sl 0 true []])] [.d Brn.zero.d, .d Brn.zero.d] := ⟨VLe.refl _, VLe.d zeroBrn, rfl⟩
          have sz := CallP.le lez sz
          repeat' ((conv => whnf); first | with_reducible refine Dec.t (show true = true from rfl) ?_ | with_reducible refine Dec.t (show false = false from rfl) ?_ | with_reducible refine Dec.f (show ¬ (true = false) by decide) ?_ | with_reducible refine Dec.f (show ¬ (false = true) by decide) ?_ | refine Dec.t (by omega) ?_ | refine Dec.f (by omega) ?_ | refine Dec.split (fun _ => ?_) (fun _ => ?_) | refine Wr.id (by omega) ?_ | refine Chk.mk (by first | omega | exact rfl | (simp only [List.length_map]; omega) | (simp [room]; done) | (simp [room]; omega) | (simp [dropL, room]; done) | (simp [dropL, room]; omega)) ?_ | refine Nam.mk (List.length_map _) ?_ | refine Prep.skip ?_ | refine Eith.l ?_ | refine chk_t (x := D.flat _) (by assumption) ?_ | refine br_mk (fun _ => ?_) (fun _ => ?_) | refine ACall.of (sz) ?_ | refine APCall.of (sz) ?_ | fail)
          all_goals first | (exfalso; omega) | skip
          all_goals (conv => whnf)
          all_goals first | exact DLe.refl _ | (rename_i hh; exact absurd rfl hh)
    · repeat' ((conv => whnf); first | with_reducible refine Dec.t (show true = true from rfl) ?_ | with_reducible refine Dec.t (show false = false from rfl) ?_ | with_reducible refine Dec.f (show ¬ (true = false) by decide) ?_ | with_reducible refine Dec.f (show ¬ (false = true) by decide) ?_ | refine Dec.t (by omega) ?_ | refine Dec.f (by omega) ?_ | refine Dec.split (fun _ => ?_) (fun _ => ?_) | refine Wr.id (by omega) ?_ | refine Chk.mk (by first | omega | exact rfl | (simp only [List.length_map]; omega) | (simp [room]; done) | (simp [room]; omega) | (simp [dropL, room]; done) | (simp [dropL, room]; omega)) ?_ | refine Nam.mk (List.length_map _) ?_ | refine Prep.skip ?_ | refine Eith.l ?_ | refine chk_t (x := D.flat _) (by assumption) ?_ | refine br_mk (fun _ => ?_) (fun _ => ?_) | refine ACall.of (law54_sane) ?_ | refine APCall.of (law54_sane) ?_ | refine ACall.of (hF) ?_ | refine APCall.of (hF) ?_ | fail)
      all_goals first | (exfalso; omega) | skip
      all_goals (conv => whnf)
      all_goals first | exact DLe.refl _
  · rw [decide_eq_false hf] at hF
    repeat' ((conv => whnf); first | with_reducible refine Dec.t (show true = true from rfl) ?_ | with_reducible refine Dec.t (show false = false from rfl) ?_ | with_reducible refine Dec.f (show ¬ (true = false) by decide) ?_ | with_reducible refine Dec.f (show ¬ (false = true) by decide) ?_ | refine Dec.t (by omega) ?_ | refine Dec.f (by omega) ?_ | refine Dec.split (fun _ => ?_) (fun _ => ?_) | refine Wr.id (by omega) ?_ | refine Chk.mk (by first | omega | exact rfl | (simp only [List.length_map]; omega) | (simp [room]; done) | (simp [room]; omega) | (simp [dropL, room]; done) | (simp [dropL, room]; omega)) ?_ | refine Nam.mk (List.length_map _) ?_ | refine Prep.skip ?_ | refine Eith.l ?_ | refine chk_t (x := D.flat _) (by assumption) ?_ | refine br_mk (fun _ => ?_) (fun _ => ?_) | refine ACall.of (law54_sane) ?_ | refine APCall.of (law54_sane) ?_ | refine ACall.of (hF) ?_ | refine APCall.of (hF) ?_ | fail)
    all_goals first | (exfalso; omega) | skip
    all_goals (conv => whnf)
    all_goals first | exact DLe.refl _
end Go.PM

/- Branches, plain: two merges in either order. -/
namespace Go.PM
open Go.Proofs
set_option maxRecDepth 10000
set_option maxHeartbeats 4000000

theorem fact_ok (c : Chg) (n m : Int) (h : (c.fact n).ok) (hm : 1 ≤ m ∧ m ≤ 16777216) : (c.fact m).ok := by
  unfold Fact.ok Chg.fact at *
  simp only at h ⊢
  omega
/-- All stamped facts are sound. -/
theorem stamp_ok : ∀ (cs : List Chg) (n : Int), (∀ f ∈ stamp n cs, f.ok) ↔ (∀ c ∈ cs, (c.fact 1).ok) ∧ (cs = [] ∨ 1 ≤ n ∧ n + cs.length ≤ 16777217)
  | [], n => by simp [stamp]
  | c :: cs, n => by
    rw [stamp]
    have ih := stamp_ok cs (n + 1)
    constructor
    · intro h
      have h1 := h _ (.head _)
      have hn : 1 ≤ n ∧ n ≤ 16777216 := h1.2.2.2.2.2.2.2.1
      obtain ⟨i1, i2⟩ := ih.1 fun f hf => h f (.tail _ hf)
      refine ⟨fun x hx => ?_, .inr ⟨hn.1, ?_⟩⟩
      · cases hx with
        | head => exact fact_ok c n 1 h1 (by omega)
        | tail _ hx => exact i1 x hx
      · rcases i2 with rfl | i2
        · simp only [List.length_cons, List.length_nil]; omega
        · simp only [List.length_cons]; omega
    · rintro ⟨h1, h2⟩ f hf
      have h2 := h2.resolve_left (by simp)
      simp only [List.length_cons] at h2
      cases hf with
      | head => exact fact_ok c 1 n (h1 c (.head _)) (by omega)
      | tail _ hf => exact ih.2 ⟨fun x hx => h1 x (.tail _ hx), .inr (by omega)⟩ f hf
theorem recM_iff (l : List Fact) (cs : List Chg) : (recM l cs).2 = 0 ↔ ∀ f ∈ stamp (nextKn l) cs, f.ok := by
  unfold recM
  split
  · rename_i h; exact ⟨fun _ => h, fun _ => rfl⟩
  · rename_i h; exact ⟨fun h2 => (by cases h2), fun h2 => absurd h2 h⟩
theorem next_stamp (l : List Fact) (cs : List Chg) : nextKn (l ++ stamp (nextKn l) cs) = nextKn l + cs.length := by
  have key : ∀ (cs : List Chg) (l : List Fact), nextKn (l ++ stamp (nextKn l) cs) = nextKn l + cs.length := by
    intro cs
    induction cs with
    | nil => intro l; simp [stamp]
    | cons c cs ih =>
      intro l
      rw [stamp]
      have h1 := ih (l ++ [c.fact (nextKn l)])
      rw [nextKn_snoc] at h1
      rw [show (c.fact (nextKn l)).known = nextKn l from rfl] at h1
      rw [List.append_assoc, List.singleton_append] at h1
      rw [h1]
      simp only [List.length_cons]; omega
  exact key cs l
/-- Two lists of changes, recorded in either order. -/
theorem recM_swap {P : List Fact} (hP : checkM P = 0) {a c : List Chg} (h1 : (recM P a).2 = 0) (h2 : (recM (recM P a).1 c).2 = 0) : (recM P c).2 = 0 ∧ (recM (recM P c).1 a).2 = 0 := by
  have hb := next_bound hP
  have e1 := recM_app_stamp h1
  rw [e1] at h2
  rw [recM_iff, stamp_ok] at h1 h2
  rw [next_stamp] at h2
  have h3 : (recM P c).2 = 0 := by
    rw [recM_iff, stamp_ok]
    exact ⟨h2.1, h2.2.imp id fun h => by omega⟩
  refine ⟨h3, ?_⟩
  rw [recM_app_stamp h3, recM_iff, stamp_ok, next_stamp]
  refine ⟨h1.1, h1.2.imp id fun h => ?_⟩
  rcases h2.2 with rfl | h'
  · simp only [List.length_nil]; omega
  · omega
theorem recM_two {P : List Fact} {a c : List Chg} (h1 : (recM P a).2 = 0) (h2 : (recM (recM P a).1 c).2 = 0) : (recM (recM P a).1 c).1 = P ++ stamp (nextKn P) a ++ stamp (nextKn (P ++ stamp (nextKn P) a)) c := by
  rw [recM_app_stamp h1] at h2 ⊢
  exact recM_app_stamp h2
theorem swap_pts {P : List Fact} (hP : checkM P = 0) {a c : List Chg} (h1 : (recM P a).2 = 0) (h2 : (recM (recM P a).1 c).2 = 0) (hd : ∀ k, k ∈ a.map Chg.key → k ∉ c.map Chg.key) (k : Key) :
    ptsM (recM (recM P a).1 c).1 k = ptsM (recM (recM P c).1 a).1 k := by
  obtain ⟨h3, h4⟩ := recM_swap hP h1 h2
  refine pts_proj (recM_check (recM_check hP h1) h2) (recM_check (recM_check hP h3) h4) ?_
  rw [recM_two h1 h2, recM_two h3 h4, projK_app, projK_app, projK_app, projK_app]
  by_cases hk : k ∈ a.map Chg.key
  · rw [stamp_nokey (hd k hk), stamp_nokey (hd k hk), List.append_nil, List.append_nil]
    congr 1
    exact projK_stamp k _ _ _
  · rw [stamp_nokey hk, stamp_nokey hk, List.append_nil, List.append_nil]
    congr 1
    exact projK_stamp k _ _ _
/-- A merge leaves the other branches, and adds to the parent. -/
theorem merged_at {b : Brn} {i k : Int} (h : (mergeM b i).2.2 = 0) (h0 : 0 ≤ k) (hk : k ≠ parM b i) : (mergeX b i).at k = b.at k := by
  obtain ⟨hv, ho, hc, hr⟩ := mergeM_ok h
  have hl := open_lt ho.1
  have he := hv.1.each i.toNat (by omega)
  have hpe : parM b i = b.par.getD i.toNat 0 := rfl
  rw [← hpe] at he
  unfold mergeX
  split
  · rfl
  · rename_i hp
    rw [grow_at (closeM b i) (parM b i) k (b.at i) (by omega) (by show parM b i < b.br.length; omega) h0, if_neg hk]; rfl
theorem merged_fresh {b : Brn} {i k : Int} (h : (mergeM b i).2.2 = 0) (h0 : 0 ≤ k) (hk : k < b.br.length) (hp : parM b k = parM b i) : freshK (mergeX b i) k = freshK b k ++ (b.at i).map Chg.key := by
  obtain ⟨hv, ho, hc, hr⟩ := mergeM_ok h
  have hl := open_lt ho.1
  have he := hv.1.each k.toNat (by omega)
  have hpe : parM b k = b.par.getD k.toNat 0 := rfl
  have hA := merge_after h
  rw [← hpe] at he
  unfold freshK
  rw [hA.par, hA.forks, ← hpe]
  by_cases hn : parM b k < 0
  · rw [if_pos hn, if_pos hn]
    have hx : (mergeX b i).base = b.base ++ stamp (nextKn b.base) (b.at i) := by
      have hmr : mergeR b i = recM b.base (b.at i) := by unfold mergeR; rw [with_neg (by omega)]; unfold lenM; rw [if_pos (by omega), List.take_length]
      unfold mergeX
      rw [if_pos (by omega), ← recM_app_stamp (by rw [← hmr]; exact hr), hmr]
    unfold lenM at he
    rw [if_pos hn] at he
    rw [hx, List.drop_append_of_le_length (by omega), List.map_append]
    congr 1
    have : ∀ (cs : List Chg) (n : Int), (stamp n cs).map Fact.key = cs.map Chg.key := by
      intro cs
      induction cs with
      | nil => intro n; rfl
      | cons c cs ih => intro n; rw [stamp, List.map_cons, List.map_cons, ih]; rfl
    exact this _ _
  · rw [if_neg hn, if_neg hn]
    unfold lenM at he
    rw [if_neg hn] at he
    have hx : (mergeX b i).at (parM b k) = b.at (parM b k) ++ b.at i := by
      unfold mergeX
      rw [if_neg (by omega), ← hp, grow_at (closeM b i) (parM b k) (parM b k) (b.at i) (by omega) (by show parM b k < b.br.length; omega) (by omega), if_pos rfl]; rfl
    rw [hx, List.drop_append_of_le_length (by omega), List.map_append]
theorem merged_open {b : Brn} {i k : Int} (h : (mergeM b i).2.2 = 0) : openP (mergeX b i) k ↔ openP b k ∧ k ≠ i := by
  obtain ⟨hv, ho, hc, hr⟩ := mergeM_ok h
  have hl := open_lt ho.1
  have hA := merge_after h
  have hd := hv.1.d
  unfold openP
  rw [hA.n, hA.done]
  constructor
  · rintro ⟨h1, h2, h3⟩
    have hne : k ≠ i := fun he => by
      subst he
      rw [List.getD_eq_getElem?_getD, List.getElem?_set_self (by omega)] at h3; cases h3
    rw [List.getD_eq_getElem?_getD, List.getElem?_set_ne (by omega), ← List.getD_eq_getElem?_getD] at h3
    exact ⟨⟨h1, h2, h3⟩, hne⟩
  · rintro ⟨⟨h1, h2, h3⟩, hne⟩
    refine ⟨h1, h2, ?_⟩
    rw [List.getD_eq_getElem?_getD, List.getElem?_set_ne (by omega), ← List.getD_eq_getElem?_getD]
    exact h3
theorem parM_same {b : Brn} {i : Int} (h : (mergeM b i).2.2 = 0) (k : Int) : parM (mergeX b i) k = parM b k := by unfold parM; rw [(merge_after h).par]
theorem mergeR_after {b : Brn} {i k : Int} (h : (mergeM b i).2.2 = 0) (h0 : 0 ≤ k) (hk : k < b.br.length) (hp : parM b k = parM b i) : mergeR (mergeX b i) k = recM (mergeR b i).1 (b.at k) := by
  obtain ⟨hv, ho, hc, hr⟩ := mergeM_ok h
  have he := hv.1.each k.toNat (by omega)
  have hpe : parM b k = b.par.getD k.toNat 0 := rfl
  rw [← hpe] at he
  have hA := merge_after h
  show recM (withM (mergeX b i) (parM (mergeX b i) k) (lenM (mergeX b i) (parM (mergeX b i) k))).1 ((mergeX b i).at k) = _
  rw [parM_same h k, hp, hA.facts, merged_at h h0 (by omega)]
/-- Two branches of one parent that can be merged one after the other can be merged in the other order, too. -/
theorem any_order {b : Brn} {i k : Int} (hp : parM b i = parM b k) (h1 : (mergeM b i).2.2 = 0) (h2 : (mergeM (mergeX b i) k).2.2 = 0) :
    (mergeM b k).2.2 = 0 ∧ (mergeM (mergeX b k) i).2.2 = 0 ∧ ∀ q, ptsM (mergeR (mergeX b i) k).1 q = ptsM (mergeR (mergeX b k) i).1 q := by
  obtain ⟨hv, ho, hc, hr⟩ := mergeM_ok h1
  obtain ⟨hv2, ho2, hc2, hr2⟩ := mergeM_ok h2
  have li := open_lt ho.1
  have ok := (merged_open h1).1 ho2.1
  have lk := open_lt ok.1
  have hpe : parM b k = b.par.getD k.toNat 0 := rfl
  have hpe2 : parM b i = b.par.getD i.toNat 0 := rfl
  have hei := hv.1.each i.toNat (by omega)
  rw [← hpe2] at hei
  have hek := hv.1.each k.toNat (by omega)
  rw [← hpe] at hek
  have hfr := merged_fresh h1 lk.1 lk.2 hp.symm
  have hat : (mergeX b i).at k = b.at k := merged_at h1 lk.1 (by omega)
  have hd : ∀ q, q ∈ (b.at i).map Chg.key → q ∉ (b.at k).map Chg.key := fun q h3 h4 => by
    rw [← hat] at h4
    refine conf_nil hc2 h4 ?_
    rw [hfr]
    exact List.mem_append.2 (.inr h3)
  have hnil : ∀ {x : Brn} {n : Int}, (∀ q, q ∈ (x.at n).map Chg.key → q ∉ freshK x n) → confM x n = [] := fun {x n} h => by
    rw [List.eq_nil_iff_forall_not_mem]
    intro q hq
    obtain ⟨m1, m2⟩ := conf_mem hq
    exact h q m1 m2
  have c1 : confM b k = [] := hnil fun q h3 h4 => by
    rw [← hat] at h3
    refine conf_nil hc2 h3 ?_
    rw [hfr]
    exact List.mem_append.2 (.inl h4)
  have hP := with_check hv.1 hv.2.1 (parM b i) (lenM b (parM b i)) (by omega) (by
    by_cases h0 : parM b i < 0
    · rw [with_neg h0]
    · have := hv.2.2 (parM b i).toNat (by omega)
      rwa [show (((parM b i).toNat : Nat) : Int) = parM b i by omega] at this)
  have e1 : mergeR b i = recM (withM b (parM b i) (lenM b (parM b i))).1 (b.at i) := rfl
  have e2 : mergeR b k = recM (withM b (parM b i) (lenM b (parM b i))).1 (b.at k) := by rw [hp]; rfl
  have e3 := mergeR_after h1 lk.1 lk.2 hp.symm
  rw [e1] at hr e3
  rw [e3] at hr2
  obtain ⟨s1, s2⟩ := recM_swap hP hr hr2
  have m1 : (mergeM b k).2.2 = 0 := by
    rw [mergeM_is ⟨hv, ⟨ok.1, by rw [← hp]; exact ho.2⟩, c1, by rw [e2]; exact s1⟩]
  have e4 := mergeR_after m1 li.1 li.2 hp
  rw [e2] at e4
  have hfr2 := merged_fresh m1 li.1 li.2 hp
  have hat2 : (mergeX b k).at i = b.at i := merged_at m1 li.1 (by omega)
  have c2 : confM (mergeX b k) i = [] := hnil fun q h3 h4 => by
    rw [hat2] at h3
    rw [hfr2] at h4
    rcases List.mem_append.1 h4 with h4 | h4
    · exact conf_nil hc h3 h4
    · exact hd q h3 h4
  refine ⟨m1, ?_, fun q => ?_⟩
  · rw [mergeM_is ⟨(merge_after m1).valid, ⟨(merged_open m1).2 ⟨ho.1, fun h => ok.2 h.symm⟩, ?_⟩, c2, by rw [e4]; exact s2⟩]
    rw [parM_same m1]
    refine ho.2.imp id fun h => (merged_open m1).2 ⟨h, by omega⟩
  · rw [e3, e4]
    exact swap_pts hP hr hr2 hd q
theorem any_len {b : Brn} {i k : Int} (hp : parM b i = parM b k) (h1 : (mergeM b i).2.2 = 0) (h2 : (mergeM (mergeX b i) k).2.2 = 0) : (mergeR (mergeX b i) k).1.length = (mergeR (mergeX b k) i).1.length := by
  obtain ⟨m3, m4, _⟩ := any_order hp h1 h2
  have li := open_lt (mergeM_ok h1).2.1.1
  have lk := open_lt (mergeM_ok m3).2.1.1
  have r1 := (mergeM_ok h1).2.2.2
  have r2 := (mergeM_ok h2).2.2.2
  have r3 := (mergeM_ok m3).2.2.2
  have r4 := (mergeM_ok m4).2.2.2
  have e3 := mergeR_after h1 lk.1 lk.2 hp.symm
  have e4 := mergeR_after m3 li.1 li.2 hp
  rw [e3] at r2 ⊢
  rw [e4] at r4 ⊢
  rw [rec_len r2, rec_len r4]
  have e1 : mergeR b i = recM (withM b (parM b i) (lenM b (parM b i))).1 (b.at i) := rfl
  have e2 : mergeR b k = recM (withM b (parM b i) (lenM b (parM b i))).1 (b.at k) := by rw [hp]; rfl
  rw [e1] at r1 ⊢
  rw [e2] at r3 ⊢
  rw [rec_len r1, rec_len r3]
  omega
end Go.PM

/- The statements of branches: Any. -/
namespace Go.PM
open Go.Proofs
set_option maxRecDepth 10000
set_option maxHeartbeats 8000000

theorem law54_Any (b : Brn) (i k : Int) (o : Key) (hT : b.typed) : CallP Try.prog 9 [.d b.d, .d (I i), .d (I k), .d o.d] (retD [.b true]) := by
  have hF := ref54_Few b hT.r
  refine exPure_sound (E := envOf Try.prog tt Try.f9.ntmps) (envOf_ok ttok mixed) Try.func9 (by rfl) rfl rfl (Nat.le_of_ble_eq_true rfl) ?_
  by_cases hf : fewP b
  · rw [decide_eq_true hf] at hF
    have hW := few_wide hT hf
    have ht := few_total hW hf
    by_cases hr : (0 ≤ i ∧ i < b.par.length) ∧ 0 ≤ k ∧ k < b.par.length
    · obtain ⟨⟨i0, i1⟩, k0, k1⟩ := hr
      have gi : (b.par.map I)[i.toNat]? = some (I (parM b i)) := by
        have hl : i.toNat < b.par.length := by omega
        unfold parM; rw [List.getElem?_map, List.getElem?_eq_getElem hl]; simp [hl]
      have gk : (b.par.map I)[k.toNat]? = some (I (parM b k)) := by
        have hl : k.toNat < b.par.length := by omega
        unfold parM; rw [List.getElem?_map, List.getElem?_eq_getElem hl]; simp [hl]
      have c1 := branches_Merge b i hW (fun h => by have := ht h; omega)
      by_cases hp : parM b i = parM b k
      · by_cases m1 : (mergeM b i).2.2 = 0
        · have A1 := merge_after m1
          have hv := (mergeM_ok m1).1
          have hbt := ht hv
          have t1 := A1.total
          have W1 : (mergeX b i).wide := wide_ofT (by omega)
          have c2 := branches_Merge (mergeX b i) k W1 (fun _ => by omega)
          rw [mergeM_is (mergeM_ok m1)] at c1
          by_cases m2 : (mergeM (mergeX b i) k).2.2 = 0
          · have A2 := merge_after m2
            obtain ⟨m3, m4, hq⟩ := any_order hp m1 m2
            have A3 := merge_after m3
            have A4 := merge_after m4
            have t2 := A2.total
            have t3 := A3.total
            have t4 := A4.total
            have W3 : (mergeX b k).wide := wide_ofT (by omega)
            have W2 : (mergeX (mergeX b i) k).wide := wide_ofT (by omega)
            have W4 : (mergeX (mergeX b k) i).wide := wide_ofT (by omega)
            have c3 := branches_Merge b k hW (fun h => by have := ht h; omega)
            have c4 := branches_Merge (mergeX b k) i W3 (fun _ => by omega)
            rw [mergeM_is (mergeM_ok m2)] at c2
            rw [mergeM_is (mergeM_ok m3)] at c3
            rw [mergeM_is (mergeM_ok m4)] at c4
            have f1 := branches_Facts (mergeX (mergeX b i) k) (parM b i) W2
            have f2 := branches_Facts (mergeX (mergeX b k) i) (parM b i) W4
            rw [show parM b i = parM (mergeX b i) k by rw [parM_same m1, hp], factsM_after m2, parM_same m1, ← hp] at f1
            rw [show parM b i = parM (mergeX b k) i by rw [parM_same m3], factsM_after m4, parM_same m3] at f2
            have hlen : (mergeR (mergeX b i) k).1.length = (mergeR (mergeX b k) i).1.length := any_len hp m1 m2
            have hl1 : (mergeR (mergeX b i) k).1.length < 1000 := by
              have := merge_len A1.valid.1 k (by have := open_lt (mergeM_ok m2).2.1.1; omega) k0
              omega
            generalize (mergeR (mergeX b i) k).1 = U at *
            generalize (mergeR (mergeX b k) i).1 = Z at *
            have a1 := law54_alike U Z o (by omega) (by omega)
            rw [decide_eq_true (hq o)] at a1
            dsimp only at c1 c2 c3 c4 f1 f2
            repeat' ((conv => whnf); first | with_reducible refine Dec.t (show true = true from rfl) ?_ | with_reducible refine Dec.t (show false = false from rfl) ?_ | with_reducible refine Dec.f (show ¬ (true = false) by decide) ?_ | with_reducible refine Dec.f (show ¬ (false = true) by decide) ?_ | refine Dec.t (by omega) ?_ | refine Dec.f (by omega) ?_ | refine Dec.split (fun _ => ?_) (fun _ => ?_) | refine Wr.id (by omega) ?_ | refine Chk.mk (by first | omega | exact rfl | (simp only [List.length_map]; omega) | (simp [room]; done) | (simp [room]; omega) | (simp [dropL, room]; done) | (simp [dropL, room]; omega)) ?_ | refine Nam.mk (List.length_map _) ?_ | refine Prep.skip ?_ | refine Eith.l ?_ | refine chk_t (x := D.flat _) (by assumption) ?_ | refine br_mk (fun _ => ?_) (fun _ => ?_) | refine ACall.of (law54_sane) ?_ | refine APCall.of (law54_sane) ?_ | refine ACall.of (hF) ?_ | refine APCall.of (hF) ?_ | refine ACall.of (c1) ?_ | refine APCall.of (c1) ?_ | refine ACall.of (c2) ?_ | refine APCall.of (c2) ?_ | refine ACall.of (c3) ?_ | refine APCall.of (c3) ?_ | refine ACall.of (c4) ?_ | refine APCall.of (c4) ?_ | refine ACall.of (f1) ?_ | refine APCall.of (f1) ?_ | refine ACall.of (f2) ?_ | refine APCall.of (f2) ?_ | refine ACall.of (a1) ?_ | refine APCall.of (a1) ?_ | refine nthK_mk gi ?_ | refine nthK_mk gk ?_ | fail)
            all_goals first | (exfalso; omega) | skip
            all_goals (conv => whnf)
            refine ALoop.at (E := envOf Try.prog tt Try.f9.ntmps) (envOf_ok ttok mixed) (X := Nat) (fun i => [(139, .d (I i))]) (fun _ => []) (fun i => i ≤ U.length) (fun i => U.length - i) 0 (by repeat (first | exact trivial | refine And.intro rfl ?_ | refine And.intro (congrArg (fun n => V.d (I n)) (wrap_nat _ (by omega))) ?_)) rfl (Nat.zero_le _) ?_
            intro j hj
            by_cases hlt : j < U.length
            · obtain ⟨f, hx, _⟩ := drop_get hlt
              have hx0 : (U.map Fact.d)[((j : Nat) : Int).toNat]? = some f.d := map_get hx
              have a2 := law54_alike U Z f.key (by omega) (by omega)
              rw [decide_eq_true (hq f.key)] at a2
              repeat' ((conv => whnf); first | with_reducible refine Dec.t (show true = true from rfl) ?_ | with_reducible refine Dec.t (show false = false from rfl) ?_ | with_reducible refine Dec.f (show ¬ (true = false) by decide) ?_ | with_reducible refine Dec.f (show ¬ (false = true) by decide) ?_ | refine Dec.t (by omega) ?_ | refine Dec.f (by omega) ?_ | refine Dec.split (fun _ => ?_) (fun _ => ?_) | refine Wr.id (by omega) ?_ | refine Chk.mk (by first | omega | exact rfl | (simp only [List.length_map]; omega) | (simp [room]; done) | (simp [room]; omega) | (simp [dropL, room]; done) | (simp [dropL, room]; omega)) ?_ | refine Nam.mk (List.length_map _) ?_ | refine Prep.skip ?_ | refine Eith.l ?_ | refine chk_t (x := D.flat _) (by assumption) ?_ | refine br_mk (fun _ => ?_) (fun _ => ?_) | refine nthK_mk hx0 ?_ | refine ACall.of (a2) ?_ | refine APCall.of (a2) ?_ | refine APCall.of a2 ?_ | fail)
              all_goals first | (exfalso; omega) | skip
              all_goals (conv => whnf)
              all_goals first | exact ⟨j + 1, Wm.end (by repeat (first | exact trivial | refine And.intro rfl ?_ | refine And.intro (congrArg (fun n => V.d (I n)) (wrap_nat _ (by omega))) ?_)) rfl rfl rfl, hlt, by show U.length - (j + 1) < U.length - j; omega⟩
            · have : j = U.length := by omega
              subst this
              repeat' ((conv => whnf); first | with_reducible refine Dec.t (show true = true from rfl) ?_ | with_reducible refine Dec.t (show false = false from rfl) ?_ | with_reducible refine Dec.f (show ¬ (true = false) by decide) ?_ | with_reducible refine Dec.f (show ¬ (false = true) by decide) ?_ | refine Dec.t (by omega) ?_ | refine Dec.f (by omega) ?_ | refine Dec.split (fun _ => ?_) (fun _ => ?_) | refine Wr.id (by omega) ?_ | refine Chk.mk (by first | omega | exact rfl | (simp only [List.length_map]; omega) | (simp [room]; done) | (simp [room]; omega) | (simp [dropL, room]; done) | (simp [dropL, room]; omega)) ?_ | refine Nam.mk (List.length_map _) ?_ | refine Prep.skip ?_ | refine Eith.l ?_ | refine chk_t (x := D.flat _) (by assumption) ?_ | refine br_mk (fun _ => ?_) (fun _ => ?_) | fail)
              all_goals first | (exfalso; omega) | skip
              all_goals (conv => whnf)
              all_goals first | exact DLe.refl _
          · repeat' ((conv => whnf); first | with_reducible refine Dec.t (show true = true from rfl) ?_ | with_reducible refine Dec.t (show false = false from rfl) ?_ | with_reducible refine Dec.f (show ¬ (true = false) by decide) ?_ | with_reducible refine Dec.f (show ¬ (false = true) by decide) ?_ | refine Dec.t (by omega) ?_ | refine Dec.f (by omega) ?_ | refine Dec.split (fun _ => ?_) (fun _ => ?_) | refine Wr.id (by omega) ?_ | refine Chk.mk (by first | omega | exact rfl | (simp only [List.length_map]; omega) | (simp [room]; done) | (simp [room]; omega) | (simp [dropL, room]; done) | (simp [dropL, room]; omega)) ?_ | refine Nam.mk (List.length_map _) ?_ | refine Prep.skip ?_ | refine Eith.l ?_ | refine chk_t (x := D.flat _) (by assumption) ?_ | refine br_mk (fun _ => ?_) (fun _ => ?_) | refine ACall.of (law54_sane) ?_ | refine APCall.of (law54_sane) ?_ | refine ACall.of (hF) ?_ | refine APCall.of (hF) ?_ | refine ACall.of (c1) ?_ | refine APCall.of (c1) ?_ | refine ACall.of (c2) ?_ | refine APCall.of (c2) ?_ | refine nthK_mk gi ?_ | refine nthK_mk gk ?_ | fail)
            all_goals first | (exfalso; omega) | skip
            all_goals (conv => whnf)
            all_goals first | exact DLe.refl _
        · repeat' ((conv => whnf); first | with_reducible refine Dec.t (show true = true from rfl) ?_ | with_reducible refine Dec.t (show false = false from rfl) ?_ | with_reducible refine Dec.f (show ¬ (true = false) by decide) ?_ | with_reducible refine Dec.f (show ¬ (false = true) by decide) ?_ | refine Dec.t (by omega) ?_ | refine Dec.f (by omega) ?_ | refine Dec.split (fun _ => ?_) (fun _ => ?_) | refine Wr.id (by omega) ?_ | refine Chk.mk (by first | omega | exact rfl | (simp only [List.length_map]; omega) | (simp [room]; done) | (simp [room]; omega) | (simp [dropL, room]; done) | (simp [dropL, room]; omega)) ?_ | refine Nam.mk (List.length_map _) ?_ | refine Prep.skip ?_ | refine Eith.l ?_ | refine chk_t (x := D.flat _) (by assumption) ?_ | refine br_mk (fun _ => ?_) (fun _ => ?_) | refine ACall.of (law54_sane) ?_ | refine APCall.of (law54_sane) ?_ | refine ACall.of (hF) ?_ | refine APCall.of (hF) ?_ | refine ACall.of (c1) ?_ | refine APCall.of (c1) ?_ | refine nthK_mk gi ?_ | refine nthK_mk gk ?_ | fail)
          all_goals first | (exfalso; omega) | skip
          all_goals (conv => whnf)
          all_goals first | exact DLe.refl _
      · repeat' ((conv => whnf); first | with_reducible refine Dec.t (show true = true from rfl) ?_ | with_reducible refine Dec.t (show false = false from rfl) ?_ | with_reducible refine Dec.f (show ¬ (true = false) by decide) ?_ | with_reducible refine Dec.f (show ¬ (false = true) by decide) ?_ | refine Dec.t (by omega) ?_ | refine Dec.f (by omega) ?_ | refine Dec.split (fun _ => ?_) (fun _ => ?_) | refine Wr.id (by omega) ?_ | refine Chk.mk (by first | omega | exact rfl | (simp only [List.length_map]; omega) | (simp [room]; done) | (simp [room]; omega) | (simp [dropL, room]; done) | (simp [dropL, room]; omega)) ?_ | refine Nam.mk (List.length_map _) ?_ | refine Prep.skip ?_ | refine Eith.l ?_ | refine chk_t (x := D.flat _) (by assumption) ?_ | refine br_mk (fun _ => ?_) (fun _ => ?_) | refine ACall.of (law54_sane) ?_ | refine APCall.of (law54_sane) ?_ | refine ACall.of (hF) ?_ | refine APCall.of (hF) ?_ | refine nthK_mk gi ?_ | refine nthK_mk gk ?_ | fail)
        all_goals first | (exfalso; omega) | skip
        all_goals (conv => whnf)
        all_goals first | exact DLe.refl _
    · repeat' ((conv => whnf); first | with_reducible refine Dec.t (show true = true from rfl) ?_ | with_reducible refine Dec.t (show false = false from rfl) ?_ | with_reducible refine Dec.f (show ¬ (true = false) by decide) ?_ | with_reducible refine Dec.f (show ¬ (false = true) by decide) ?_ | refine Dec.t (by omega) ?_ | refine Dec.f (by omega) ?_ | refine Dec.split (fun _ => ?_) (fun _ => ?_) | refine Wr.id (by omega) ?_ | refine Chk.mk (by first | omega | exact rfl | (simp only [List.length_map]; omega) | (simp [room]; done) | (simp [room]; omega) | (simp [dropL, room]; done) | (simp [dropL, room]; omega)) ?_ | refine Nam.mk (List.length_map _) ?_ | refine Prep.skip ?_ | refine Eith.l ?_ | refine chk_t (x := D.flat _) (by assumption) ?_ | refine br_mk (fun _ => ?_) (fun _ => ?_) | refine ACall.of (law54_sane) ?_ | refine APCall.of (law54_sane) ?_ | refine ACall.of (hF) ?_ | refine APCall.of (hF) ?_ | fail)
      all_goals first | (exfalso; omega) | skip
      all_goals (conv => whnf)
      all_goals first | exact DLe.refl _
  · rw [decide_eq_false hf] at hF
    repeat' ((conv => whnf); first | with_reducible refine Dec.t (show true = true from rfl) ?_ | with_reducible refine Dec.t (show false = false from rfl) ?_ | with_reducible refine Dec.f (show ¬ (true = false) by decide) ?_ | with_reducible refine Dec.f (show ¬ (false = true) by decide) ?_ | refine Dec.t (by omega) ?_ | refine Dec.f (by omega) ?_ | refine Dec.split (fun _ => ?_) (fun _ => ?_) | refine Wr.id (by omega) ?_ | refine Chk.mk (by first | omega | exact rfl | (simp only [List.length_map]; omega) | (simp [room]; done) | (simp [room]; omega) | (simp [dropL, room]; done) | (simp [dropL, room]; omega)) ?_ | refine Nam.mk (List.length_map _) ?_ | refine Prep.skip ?_ | refine Eith.l ?_ | refine chk_t (x := D.flat _) (by assumption) ?_ | refine br_mk (fun _ => ?_) (fun _ => ?_) | refine ACall.of (law54_sane) ?_ | refine APCall.of (law54_sane) ?_ | refine ACall.of (hF) ?_ | refine APCall.of (hF) ?_ | fail)
    all_goals first | (exfalso; omega) | skip
    all_goals (conv => whnf)
    all_goals first | exact DLe.refl _
end Go.PM

