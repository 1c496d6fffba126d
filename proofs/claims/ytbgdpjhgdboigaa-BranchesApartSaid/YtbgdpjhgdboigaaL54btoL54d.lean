/- The statements of branches: Dropped. -/
import Derived.Test.YtbgdpjhgdboigaaL54a
namespace Go.PM
open Go.Proofs
set_option maxRecDepth 10000
set_option maxHeartbeats 8000000

theorem close_shut (b : Brn) (no : Int) : ¬ openP (closeM b no) no := fun h => by
  obtain ⟨h1, h2, h3⟩ := h
  unfold closeM at h3
  simp only at h3
  by_cases hl : no.toNat < b.done.length
  · rw [List.getD_eq_getElem?_getD, List.getElem?_set_self hl] at h3; cases h3
  · rw [List.getD_eq_getElem?_getD, List.getElem?_eq_none (by rw [List.length_set]; omega)] at h3; cases h3
theorem close_facts {b : Brn} (hv : b.valid) (no other : Int) : factsM (closeM b no) other = factsM b other := by
  unfold factsM
  rw [if_pos hv, if_pos (close_valid hv no)]
  by_cases h : -1 ≤ other ∧ other < b.br.length
  · rw [if_pos h, if_pos (show -1 ≤ other ∧ other < (closeM b no).br.length from h), with_close hv.1 no other _ h.2]; rfl
  · rw [if_neg h, if_neg (show ¬ (-1 ≤ other ∧ other < (closeM b no).br.length) from h)]
theorem set_at {b : Brn} {p : Int} (h0 : 0 ≤ p) (hp : p < b.br.length) : b.br.set p.toNat (b.at p ++ []) = b.br := by
  rw [List.append_nil]
  have hl : p.toNat < b.br.length := by omega
  refine List.ext_getElem? fun i => ?_
  by_cases hi : p.toNat = i
  · subst hi
    rw [List.getElem?_set_self hl]
    unfold Brn.at
    rw [List.getD_eq_getElem?_getD, List.getElem?_eq_getElem hl]; rfl
  · rw [List.getElem?_set_ne hi]
/-- A branch without changes, when it is merged. -/
theorem merge_none {b : Brn} (hv : b.valid) {no : Int} (ho : openP b no) (hn : b.at no = []) : confM b no = [] ∧ (mergeR b no).2 = 0 ∧ mergeX b no = closeM b no := by
  have h1 := open_lt ho
  have he := hv.1.each no.toNat (by omega)
  have hpe : parM b no = b.par.getD no.toNat 0 := rfl
  rw [← hpe] at he
  have hr : mergeR b no = ((withM b (parM b no) (lenM b (parM b no))).1, 0) := by unfold mergeR; rw [hn, recM_nil]
  refine ⟨by unfold confM; rw [hn]; rfl, by rw [hr], ?_⟩
  unfold mergeX
  by_cases hp : parM b no < 0
  · rw [if_pos hp, hr, with_neg hp]
    unfold lenM
    rw [if_pos hp, List.take_length]; rfl
  · rw [if_neg hp, hn]
    have : (closeM b no).br.set (parM b no).toNat ((closeM b no).at (parM b no) ++ []) = b.br := set_at (b := closeM b no) (by omega) (by show parM b no < b.br.length; omega)
    unfold growM
    rw [this]; rfl
theorem law54_Dropped (b : Brn) (no other : Int) (c : Chg) (hT : b.typed) : CallP Try.prog 7 [.d b.d, .d (I no), .d (I other), .d c.d] (retD [.b true]) := by
  have hF := ref54_Few b hT.r
  refine exPure_sound (E := envOf Try.prog tt Try.f7.ntmps) (envOf_ok ttok mixed) Try.func7 (by rfl) rfl rfl (Nat.le_of_ble_eq_true rfl) ?_
  by_cases hf : fewP b
  · rw [decide_eq_true hf] at hF
    have hW := few_wide hT hf
    have ht := few_total hW hf
    have k1 := branches_Drop b no hW
    have sz := ref54_Same Brn.zero zero_wid
    have lez : VLes [.d Brn.zero.d, .d (.agg [.sl 0 true [], .sl 0 true [], .sl 0 true [], .sl 0 true [], .sl 0 true []])] [.d Brn.zero.d, .d Brn.zero.d] := ⟨VLe.refl _, VLe.d zeroBrn, rfl⟩
    have sz := CallP.le lez sz
    by_cases hv : b.valid
    · by_cases ho : openP b no
      · have hd : dropM b no = (closeM b no, 0) := by unfold dropM; rw [if_pos hv, if_pos ho]
        rw [hd] at k1
        have h1 := open_lt ho
        have hX : (closeM b no).wide := ⟨hW.b, hW.r⟩
        have hXv := close_valid hv no
        have hXo := close_shut b no
        have hXt : (closeM b no).total ≤ 54 := ht hv
        have n1 := branches_Facts b other hW
        have n2 := branches_Facts (closeM b no) other hX
        rw [close_facts hv] at n2
        have s1 := ref04_Same (factsM b other).1 (factsM b other).1 (by have := facts_len other (fun h => by have := ht h; omega : b.valid → b.total < 2 ^ 18); omega)
        rw [decide_eq_true rfl] at s1
        have c1 := branches_Change (closeM b no) no c hX (fun _ => by omega)
        rw [show changeM (closeM b no) no c = (Brn.zero, 1) by unfold changeM; rw [if_pos hXv, if_neg hXo]] at c1
        have c2 := branches_Merge (closeM b no) no hX (fun _ => by omega)
        rw [show mergeM (closeM b no) no = (Brn.zero, [], 1) by unfold mergeM; rw [if_pos hXv, if_neg (fun h => hXo h.1)]] at c2
        have c3 := branches_Drop (closeM b no) no hX
        rw [show dropM (closeM b no) no = (Brn.zero, 1) by unfold dropM; rw [if_pos hXv, if_neg hXo]] at c3
        have c4 := branches_Fork (closeM b no) no hX
        rw [show forkM (closeM b no) no = (Brn.zero, 0, 1) by unfold forkM; rw [if_pos hXv, if_neg (fun h => h.elim (fun h => by omega) hXo)]] at c4
        have hbg := at_get (b := b) (no := no) (by omega) h1.2
        by_cases hn : b.at no = []
        · obtain ⟨m1, m2, m3⟩ := merge_none hv ho hn
          have k2 := branches_Merge b no hW (fun h => by have := ht h; omega)
          rw [hn] at hbg
          by_cases hp : parM b no = -1 ∨ openP b (parM b no)
          · rw [show mergeM b no = (closeM b no, [], 0) by unfold mergeM; rw [if_pos hv, if_pos ⟨ho, hp⟩, if_pos m1, if_pos m2, m3]] at k2
            repeat' ((conv => whnf); first | refine Dec.t (of_decide_eq_true (Eq.refl true)) ?_ | refine Dec.f (of_decide_eq_false (Eq.refl false)) ?_ | with_reducible refine Dec.t (show true = true from rfl) ?_ | with_reducible refine Dec.t (show false = false from rfl) ?_ | with_reducible refine Dec.f (show ¬ (true = false) by decide) ?_ | with_reducible refine Dec.f (show ¬ (false = true) by decide) ?_ | refine Dec.t (by omega) ?_ | refine Dec.f (by omega) ?_ | refine Dec.split (fun _ => ?_) (fun _ => ?_) | refine Wr.id (by omega) ?_ | refine Chk.mk (by first | omega | exact rfl | (simp only [List.length_map]; omega) | (simp [room]; done) | (simp [room]; omega) | (simp [dropL, room]; done) | (simp [dropL, room]; omega)) ?_ | refine Nam.mk (List.length_map _) ?_ | refine Prep.skip ?_ | refine Eith.l ?_ | refine chk_t (x := D.flat _) (by assumption) ?_ | refine br_mk (fun _ => ?_) (fun _ => ?_) | refine ACall.of (law54_sane) ?_ | refine APCall.of (law54_sane) ?_ | refine ACall.of (hF) ?_ | refine APCall.of (hF) ?_ | refine ACall.of (k1) ?_ | refine APCall.of (k1) ?_ | refine ACall.of (n1) ?_ | refine APCall.of (n1) ?_ | refine ACall.of (n2) ?_ | refine APCall.of (n2) ?_ | refine ACall.of (s1) ?_ | refine APCall.of (s1) ?_ | refine ACall.of (c1) ?_ | refine APCall.of (c1) ?_ | refine ACall.of (c2) ?_ | refine APCall.of (c2) ?_ | refine ACall.of (c3) ?_ | refine APCall.of (c3) ?_ | refine ACall.of (c4) ?_ | refine APCall.of (c4) ?_ | refine nthK_mk hbg ?_ | refine ACall.of (k2) ?_ | refine APCall.of (k2) ?_ | fail)
            all_goals first | (exfalso; omega) | skip
            all_goals (conv => whnf)
            all_goals first | exact DLe.refl _
          · rw [show mergeM b no = (Brn.zero, [], 1) by unfold mergeM; rw [if_pos hv, if_neg (fun h => hp h.2)]] at k2
            repeat' ((conv => whnf); first | refine Dec.t (of_decide_eq_true (Eq.refl true)) ?_ | refine Dec.f (of_decide_eq_false (Eq.refl false)) ?_ | with_reducible refine Dec.t (show true = true from rfl) ?_ | with_reducible refine Dec.t (show false = false from rfl) ?_ | with_reducible refine Dec.f (show ¬ (true = false) by decide) ?_ | with_reducible refine Dec.f (show ¬ (false = true) by decide) ?_ | refine Dec.t (by omega) ?_ | refine Dec.f (by omega) ?_ | refine Dec.split (fun _ => ?_) (fun _ => ?_) | refine Wr.id (by omega) ?_ | refine Chk.mk (by first | omega | exact rfl | (simp only [List.length_map]; omega) | (simp [room]; done) | (simp [room]; omega) | (simp [dropL, room]; done) | (simp [dropL, room]; omega)) ?_ | refine Nam.mk (List.length_map _) ?_ | refine Prep.skip ?_ | refine Eith.l ?_ | refine chk_t (x := D.flat _) (by assumption) ?_ | refine br_mk (fun _ => ?_) (fun _ => ?_) | refine ACall.of (law54_sane) ?_ | refine APCall.of (law54_sane) ?_ | refine ACall.of (hF) ?_ | refine APCall.of (hF) ?_ | refine ACall.of (k1) ?_ | refine APCall.of (k1) ?_ | refine ACall.of (n1) ?_ | refine APCall.of (n1) ?_ | refine ACall.of (n2) ?_ | refine APCall.of (n2) ?_ | refine ACall.of (s1) ?_ | refine APCall.of (s1) ?_ | refine ACall.of (c1) ?_ | refine APCall.of (c1) ?_ | refine ACall.of (c2) ?_ | refine APCall.of (c2) ?_ | refine ACall.of (c3) ?_ | refine APCall.of (c3) ?_ | refine ACall.of (c4) ?_ | refine APCall.of (c4) ?_ | refine nthK_mk hbg ?_ | refine ACall.of (k2) ?_ | refine APCall.of (k2) ?_ | fail)
            all_goals first | (exfalso; omega) | skip
            all_goals (conv => whnf)
            all_goals first | exact DLe.refl _
        · have hpos : 0 < (b.at no).length := List.length_pos_iff.2 hn
          repeat' ((conv => whnf); first | refine Dec.t (of_decide_eq_true (Eq.refl true)) ?_ | refine Dec.f (of_decide_eq_false (Eq.refl false)) ?_ | with_reducible refine Dec.t (show true = true from rfl) ?_ | with_reducible refine Dec.t (show false = false from rfl) ?_ | with_reducible refine Dec.f (show ¬ (true = false) by decide) ?_ | with_reducible refine Dec.f (show ¬ (false = true) by decide) ?_ | refine Dec.t (by omega) ?_ | refine Dec.f (by omega) ?_ | refine Dec.split (fun _ => ?_) (fun _ => ?_) | refine Wr.id (by omega) ?_ | refine Chk.mk (by first | omega | exact rfl | (simp only [List.length_map]; omega) | (simp [room]; done) | (simp [room]; omega) | (simp [dropL, room]; done) | (simp [dropL, room]; omega)) ?_ | refine Nam.mk (List.length_map _) ?_ | refine Prep.skip ?_ | refine Eith.l ?_ | refine chk_t (x := D.flat _) (by assumption) ?_ | refine br_mk (fun _ => ?_) (fun _ => ?_) | refine ACall.of (law54_sane) ?_ | refine APCall.of (law54_sane) ?_ | refine ACall.of (hF) ?_ | refine APCall.of (hF) ?_ | refine ACall.of (k1) ?_ | refine APCall.of (k1) ?_ | refine ACall.of (n1) ?_ | refine APCall.of (n1) ?_ | refine ACall.of (n2) ?_ | refine APCall.of (n2) ?_ | refine ACall.of (s1) ?_ | refine APCall.of (s1) ?_ | refine ACall.of (c1) ?_ | refine APCall.of (c1) ?_ | refine ACall.of (c2) ?_ | refine APCall.of (c2) ?_ | refine ACall.of (c3) ?_ | refine APCall.of (c3) ?_ | refine ACall.of (c4) ?_ | refine APCall.of (c4) ?_ | refine nthK_mk hbg ?_ | fail)
          all_goals first | (exfalso; omega) | skip
          all_goals (conv => whnf)
          all_goals first | exact DLe.refl _
      · rw [show dropM b no = (Brn.zero, 1) by unfold dropM; rw [if_pos hv, if_neg ho]] at k1
        repeat' ((conv => whnf); first | refine Dec.t (of_decide_eq_true (Eq.refl true)) ?_ | refine Dec.f (of_decide_eq_false (Eq.refl false)) ?_ | with_reducible refine Dec.t (show true = true from rfl) ?_ | with_reducible refine Dec.t (show false = false from rfl) ?_ | with_reducible refine Dec.f (show ¬ (true = false) by decide) ?_ | with_reducible refine Dec.f (show ¬ (false = true) by decide) ?_ | refine Dec.t (by omega) ?_ | refine Dec.f (by omega) ?_ | refine Dec.split (fun _ => ?_) (fun _ => ?_) | refine Wr.id (by omega) ?_ | refine Chk.mk (by first | omega | exact rfl | (simp only [List.length_map]; omega) | (simp [room]; done) | (simp [room]; omega) | (simp [dropL, room]; done) | (simp [dropL, room]; omega)) ?_ | refine Nam.mk (List.length_map _) ?_ | refine Prep.skip ?_ | refine Eith.l ?_ | refine chk_t (x := D.flat _) (by assumption) ?_ | refine br_mk (fun _ => ?_) (fun _ => ?_) | refine ACall.of (law54_sane) ?_ | refine APCall.of (law54_sane) ?_ | refine ACall.of (hF) ?_ | refine APCall.of (hF) ?_ | refine ACall.of (k1) ?_ | refine APCall.of (k1) ?_ | refine ACall.of (sz) ?_ | refine APCall.of (sz) ?_ | fail)
        all_goals first | (exfalso; omega) | skip
        all_goals (conv => whnf)
        all_goals first | exact DLe.refl _
    · rw [show dropM b no = (Brn.zero, 540) by unfold dropM; rw [if_neg hv]] at k1
      repeat' ((conv => whnf); first | refine Dec.t (of_decide_eq_true (Eq.refl true)) ?_ | refine Dec.f (of_decide_eq_false (Eq.refl false)) ?_ | with_reducible refine Dec.t (show true = true from rfl) ?_ | with_reducible refine Dec.t (show false = false from rfl) ?_ | with_reducible refine Dec.f (show ¬ (true = false) by decide) ?_ | with_reducible refine Dec.f (show ¬ (false = true) by decide) ?_ | refine Dec.t (by omega) ?_ | refine Dec.f (by omega) ?_ | refine Dec.split (fun _ => ?_) (fun _ => ?_) | refine Wr.id (by omega) ?_ | refine Chk.mk (by first | omega | exact rfl | (simp only [List.length_map]; omega) | (simp [room]; done) | (simp [room]; omega) | (simp [dropL, room]; done) | (simp [dropL, room]; omega)) ?_ | refine Nam.mk (List.length_map _) ?_ | refine Prep.skip ?_ | refine Eith.l ?_ | refine chk_t (x := D.flat _) (by assumption) ?_ | refine br_mk (fun _ => ?_) (fun _ => ?_) | refine ACall.of (law54_sane) ?_ | refine APCall.of (law54_sane) ?_ | refine ACall.of (hF) ?_ | refine APCall.of (hF) ?_ | refine ACall.of (k1) ?_ | refine APCall.of (k1) ?_ | refine ACall.of (sz) ?_ | refine APCall.of (sz) ?_ | fail)
      all_goals first | (exfalso; omega) | skip
      all_goals (conv => whnf)
      all_goals first | exact DLe.refl _
  · rw [decide_eq_false hf] at hF
    repeat' ((conv => whnf); first | with_reducible refine Dec.t (show true = true from rfl) ?_ | with_reducible refine Dec.t (show false = false from rfl) ?_ | with_reducible refine Dec.f (show ¬ (true = false) by decide) ?_ | with_reducible refine Dec.f (show ¬ (false = true) by decide) ?_ | refine Dec.t (by omega) ?_ | refine Dec.f (by omega) ?_ | refine Dec.split (fun _ => ?_) (fun _ => ?_) | refine Wr.id (by omega) ?_ | refine Chk.mk (by first | omega | exact rfl | (simp only [List.length_map]; omega) | (simp [room]; done) | (simp [room]; omega) | (simp [dropL, room]; done) | (simp [dropL, room]; omega)) ?_ | refine Nam.mk (List.length_map _) ?_ | refine Prep.skip ?_ | refine Eith.l ?_ | refine chk_t (x := D.flat _) (by assumption) ?_ | refine br_mk (fun _ => ?_) (fun _ => ?_) | refine ACall.of (law54_sane) ?_ | refine APCall.of (law54_sane) ?_ | refine ACall.of (hF) ?_ | refine APCall.of (hF) ?_ | fail)
    all_goals first | (exfalso; omega) | skip
    all_goals (conv => whnf)
    all_goals first | exact DLe.refl _
end Go.PM

/- Branches, plain: what moves leave alone. -/
namespace Go.PM
open Go.Proofs
set_option maxRecDepth 10000
set_option maxHeartbeats 4000000

theorem with_same {b x : Brn} (hb : b.formed) (hx : x.formed) (hn : b.br.length ≤ x.br.length) (h0 : ∀ many, many ≤ b.base.length → x.base.take many = b.base.take many)
    (hp : ∀ i : Nat, i < b.br.length → x.par.getD i 0 = b.par.getD i 0 ∧ x.forks.getD i 0 = b.forks.getD i 0)
    (ha : ∀ (i : Int) (many : Nat), 0 ≤ i → i < b.br.length → many ≤ (b.at i).length → (x.at i).take many = (b.at i).take many) :
    ∀ (no : Int) (many : Nat), no < b.br.length → many ≤ lenM b no → withM x no many = withM b no many := by
  have key : ∀ (m : Nat) (no : Int) (many : Nat), (no + 1).toNat ≤ m → no < b.br.length → many ≤ lenM b no → withM x no many = withM b no many := by
    have neg : ∀ (no : Int) (many : Nat), no < 0 → many ≤ lenM b no → withM x no many = withM b no many := fun no many hno hk => by
      unfold lenM at hk
      rw [if_pos hno] at hk
      rw [with_neg hno, with_neg hno, h0 many hk]
    intro m
    induction m with
    | zero => intro no many hm _ hk; exact neg no many (by omega) hk
    | succ m ih =>
      intro no many hm hno hk
      by_cases hneg : no < 0
      · exact neg no many hneg hk
      · have he := hb.each no.toNat (by omega)
        obtain ⟨p1, p2⟩ := hp no.toNat (by omega)
        rw [with_pos hx hneg (by omega), with_pos hb hneg hno, p1, p2, ih _ _ (by omega) (by omega) (by omega)]
        unfold lenM at hk
        rw [if_neg hneg] at hk
        rw [ha no many (by omega) hno hk]
  exact fun no many => key _ no many (Nat.le_refl _)
/-- What a move leaves of a branch. -/
structure Keeps (b x : Brn) (no : Int) : Prop where
  valid : x.valid
  n : b.br.length ≤ x.br.length
  facts : withM x no (lenM x no) = withM b no (lenM b no)
  total : x.total ≤ 2 * b.total + 1
theorem keeps_refl {b : Brn} (hv : b.valid) (no : Int) : Keeps b b no := ⟨hv, Nat.le_refl _, rfl, by omega⟩
theorem close_keeps {b : Brn} (hv : b.valid) (k no : Int) (hn : no < b.br.length) : Keeps b (closeM b k) no :=
  ⟨close_valid hv k, Nat.le_refl _, by rw [with_close hv.1 k no _ hn]; rfl, by show b.total ≤ _; omega⟩
theorem grow_valid {b : Brn} (hv : b.valid) {k : Int} (cs : List Chg) (h0 : 0 ≤ k) (hk : k < b.br.length) (hr : (recM (withM b k (lenM b k)).1 cs).2 = 0) : (growM b k cs).valid := by
  refine ⟨grow_formed hv.1 cs h0 hk, hv.2.1, fun i hi => ?_⟩
  have hi : i < b.br.length := by simpa [growM] using hi
  by_cases hik : ((i : Nat) : Int) = k
  · rw [hik, grown_facts hv cs h0 hk]; exact hr
  · rw [grow_len b k i cs h0 hk, if_neg hik, with_grow hv.1 cs h0 hk i _ (by omega) (Nat.le_refl _)]
    exact hv.2.2 i hi
theorem grow_keeps {b : Brn} (hv : b.valid) {k no : Int} (cs : List Chg) (h0 : 0 ≤ k) (hk : k < b.br.length) (hr : (recM (withM b k (lenM b k)).1 cs).2 = 0) (hc : cs.length ≤ b.total + 1) (hn : no < b.br.length) (hne : no ≠ k) : Keeps b (growM b k cs) no :=
  ⟨grow_valid hv cs h0 hk hr, by simp [growM], by rw [grow_len b k no cs h0 hk, if_neg hne, with_grow hv.1 cs h0 hk no _ hn (Nat.le_refl _)], by rw [grow_total b cs h0 hk]; omega⟩
theorem getD_app {α : Type} {l r : List α} {i : Nat} {x : α} (h : i < l.length) : (l ++ r).getD i x = l.getD i x := by
  rw [List.getD_eq_getElem?_getD, List.getD_eq_getElem?_getD, List.getElem?_append_left h]
theorem fork_at {b : Brn} {p i : Int} (hi : i < b.br.length) (h0 : 0 ≤ i) : (forkX b p).at i = b.at i := getD_app (by omega)
theorem fork_len {b : Brn} {p i : Int} (hi : i < b.br.length) : lenM (forkX b p) i = lenM b i := by
  unfold lenM
  by_cases h : i < 0
  · rw [if_pos h, if_pos h]; rfl
  · rw [if_neg h, if_neg h, fork_at hi (by omega)]
theorem fork_formed {b : Brn} (hf : b.formed) {p : Int} (hp : -1 ≤ p ∧ p < b.br.length) (h64 : ¬ b.br.length = 64) : (forkX b p).formed := by
  have h1 := hf.n
  have h2 := hf.p
  have h3 := hf.f
  have h4 := hf.d
  have hl : (forkX b p).br.length = b.br.length + 1 := by simp [forkX]
  refine ⟨by omega, by simp [forkX, h2], by simp [forkX, h3], by simp [forkX, h4], fun i hi => ?_⟩
  rw [hl] at hi
  by_cases hlt : i < b.br.length
  · obtain ⟨e1, e2, e3, e4⟩ := hf.each i hlt
    have g1 : (forkX b p).par.getD i 0 = b.par.getD i 0 := getD_app (by omega)
    have g2 : (forkX b p).forks.getD i 0 = b.forks.getD i 0 := getD_app (by omega)
    rw [g1, g2, fork_len (by omega)]
    exact ⟨e1, e2, e3, e4⟩
  · have hie : i = b.br.length := by omega
    have g1 : (forkX b p).par.getD i 0 = p := by
      show (b.par ++ [p]).getD i 0 = p
      rw [List.getD_eq_getElem?_getD, List.getElem?_append_right (by omega), show i - b.par.length = 0 by omega]; rfl
    have g2 : (forkX b p).forks.getD i 0 = lenM b p := by
      show (b.forks ++ [(lenM b p : Int)]).getD i 0 = lenM b p
      rw [List.getD_eq_getElem?_getD, List.getElem?_append_right (by omega), show i - b.forks.length = 0 by omega]; rfl
    rw [g1, g2, fork_len hp.2]
    omega
theorem fork_keeps {b : Brn} (hv : b.valid) {p no : Int} (hp : -1 ≤ p ∧ p < b.br.length) (h64 : ¬ b.br.length = 64) (hn : no < b.br.length) : Keeps b (forkX b p) no := by
  have hf := hv.1
  have hx := fork_formed hf hp h64
  have hl : (forkX b p).br.length = b.br.length + 1 := by simp [forkX]
  have hs := with_same hf hx (by omega) (fun _ _ => rfl) (fun i hi => ⟨getD_app (by have := hf.p; omega), getD_app (by have := hf.f; omega)⟩) (fun i many h0 hi _ => by rw [fork_at hi h0])
  refine ⟨⟨hx, hv.2.1, fun i hi => ?_⟩, by omega, by rw [fork_len hn, hs no _ hn (Nat.le_refl _)], ?_⟩
  · rw [hl] at hi
    by_cases hlt : i < b.br.length
    · rw [fork_len (by omega), hs i _ (by omega) (Nat.le_refl _)]
      exact hv.2.2 i hlt
    · have hie : i = b.br.length := by omega
      have g1 : (forkX b p).par.getD i 0 = p := by
        show (b.par ++ [p]).getD i 0 = p
        rw [List.getD_eq_getElem?_getD, List.getElem?_append_right (by have := hf.p; omega), show i - b.par.length = 0 by have := hf.p; omega]; rfl
      have g2 : (forkX b p).forks.getD i 0 = lenM b p := by
        show (b.forks ++ [(lenM b p : Int)]).getD i 0 = lenM b p
        rw [List.getD_eq_getElem?_getD, List.getElem?_append_right (by have := hf.f; omega), show i - b.forks.length = 0 by have := hf.f; omega]; rfl
      have hat : (forkX b p).at (i : Nat) = [] := by
        show (b.br ++ [[]]).getD (((i : Nat) : Int).toNat) [] = []
        rw [Int.toNat_natCast, List.getD_eq_getElem?_getD, List.getElem?_append_right (by omega), show i - b.br.length = 0 by omega]; rfl
      rw [with_pos hx (by omega) (by omega), Int.toNat_natCast, g1, g2, Int.toNat_natCast, hs p _ hp.2 (Nat.le_refl _), hat, List.take_nil, recM_nil]
      have hpe : (withM b p (lenM b p)).2 = 0 := by
        by_cases h0 : p < 0
        · rw [with_neg h0]
        · have := hv.2.2 p.toNat (by omega)
          rwa [show ((p.toNat : Nat) : Int) = p by omega] at this
      rw [if_pos hpe]
  · show (forkX b p).base.length + ((forkX b p).br.map List.length).sum ≤ _
    simp only [forkX, List.map_append, List.sum_append, List.map_cons, List.map_nil, List.length_nil, List.sum_cons, List.sum_nil]
    unfold Brn.total
    omega
/-- A merge. -/
theorem merge_keeps {b : Brn} (hv : b.valid) {k no : Int} (hk : openP b k) (hr : (mergeR b k).2 = 0) (hn : no < b.br.length) (h0 : 0 ≤ no) (hne : no ≠ parM b k) : Keeps b (mergeX b k) no := by
  have hf := hv.1
  have h1 := open_lt hk
  have he := hf.each k.toNat (by omega)
  have hpe : parM b k = b.par.getD k.toNat 0 := rfl
  rw [← hpe] at he
  have hal := at_len b k
  unfold mergeX
  by_cases hp : parM b k < 0
  · rw [if_pos hp]
    have hmr : mergeR b k = recM b.base (b.at k) := by unfold mergeR; rw [with_neg hp]; unfold lenM; rw [if_pos hp, List.take_length]
    have hlen : (mergeR b k).1.length = b.base.length + (b.at k).length := by rw [hmr]; rw [hmr] at hr; exact rec_len hr
    have hpre : ∀ many, many ≤ b.base.length → (mergeR b k).1.take many = b.base.take many := fun many hm => by
      rw [hmr] at hr ⊢
      unfold recM at hr ⊢
      split at hr
      · rename_i hh
        rw [if_pos hh]
        exact List.take_append_of_le_length hm
      · cases hr
    have hx : (⟨(mergeR b k).1, b.br, b.par, b.forks, b.done.set k.toNat true⟩ : Brn).formed := by
      refine ⟨hf.n, hf.p, hf.f, by simp only [List.length_set]; exact hf.d, fun i hi => ?_⟩
      obtain ⟨e1, e2, e3, e4⟩ := hf.each i hi
      refine ⟨e1, e2, e3, ?_⟩
      unfold lenM at e4 ⊢
      simp only at e4 ⊢
      by_cases hpi : b.par.getD i 0 < 0
      · rw [if_pos hpi] at e4 ⊢; omega
      · rw [if_neg hpi] at e4 ⊢; exact e4
    have hs := with_same hf hx (Nat.le_refl _) hpre (fun _ _ => ⟨rfl, rfl⟩) (fun _ _ _ _ _ => rfl)
    have hlm : ∀ i : Int, 0 ≤ i → lenM (⟨(mergeR b k).1, b.br, b.par, b.forks, b.done.set k.toNat true⟩ : Brn) i = lenM b i := fun i hi => by
      unfold lenM; rw [if_neg (by omega), if_neg (by omega)]; rfl
    refine ⟨⟨hx, ?_, fun i hi => ?_⟩, Nat.le_refl _, by rw [hlm no h0, hs no _ hn (Nat.le_refl _)], ?_⟩
    · show checkM (mergeR b k).1 = 0
      rw [hmr] at hr ⊢
      exact recM_check hv.2.1 hr
    · rw [hlm i (by omega), hs i _ (by show (i : Int) < b.br.length; have : i < b.br.length := hi; omega) (Nat.le_refl _)]
      exact hv.2.2 i hi
    · show (mergeR b k).1.length + (b.br.map List.length).sum ≤ 2 * b.total + 1
      rw [hlen]
      unfold Brn.total at hal ⊢
      omega
  · rw [if_neg hp]
    have hcv := close_valid hv k
    have hr' : (recM (withM (closeM b k) (parM b k) (lenM (closeM b k) (parM b k))).1 (b.at k)).2 = 0 := by
      rw [with_close hf k _ _ (by omega)]; exact hr
    have := grow_keeps (b := closeM b k) hcv (k := parM b k) (no := no) (b.at k) (by omega) (by show parM b k < b.br.length; omega) hr' (by show (b.at k).length ≤ b.total + 1; omega) hn hne
    refine ⟨this.valid, this.n, this.facts.trans ?_, this.total⟩
    rw [with_close hf k no _ hn]; rfl
end Go.PM

/- The statements of branches: Apart. -/
namespace Go.PM
open Go.Proofs
set_option maxRecDepth 10000
set_option maxHeartbeats 8000000

structure Mv where
  kind : Int
  no : Int
  c : Chg
def Mv.d (m : Mv) : D := .agg [.i .u8 m.kind, I m.no, I m.c.kind, I m.c.subj, I m.c.obj, I m.c.value, I m.c.from_, I m.c.to_]
/-- A move, if it can be done. -/
def doM (b : Brn) (m : Mv) : Brn :=
  if m.kind = 0 then (if (forkM b m.no).2.2 = 0 then (forkM b m.no).1 else b)
  else if m.kind = 1 then (if (changeM b m.no m.c).2 = 0 then (changeM b m.no m.c).1 else b)
  else if m.kind = 2 then (if (mergeM b m.no).2.2 = 0 then (mergeM b m.no).1 else b)
  else if m.kind = 3 then (if (dropM b m.no).2 = 0 then (dropM b m.no).1 else b) else b
theorem law54_do (b : Brn) (m : Mv) (hW : b.wide) (ht : b.valid → b.total < 2 ^ 17) : CallP Try.prog 27 [.d b.d, .d m.d] (retD [(doM b m).d]) := by
  have k1 := branches_Fork b m.no hW
  have k2 := branches_Change b m.no m.c hW (fun h => by have := ht h; omega)
  have k3 := branches_Merge b m.no hW ht
  have k4 := branches_Drop b m.no hW
  unfold doM
  refine exPure_sound (E := envOf Try.prog tt Try.f27.ntmps) (envOf_ok ttok mixed) Try.func27 (by rfl) rfl rfl (Nat.le_of_ble_eq_true rfl) ?_
  repeat' ((conv => whnf); first | with_reducible refine Dec.t (show true = true from rfl) ?_ | with_reducible refine Dec.t (show false = false from rfl) ?_ | with_reducible refine Dec.f (show ¬ (true = false) by decide) ?_ | with_reducible refine Dec.f (show ¬ (false = true) by decide) ?_ | refine Dec.t (by omega) ?_ | refine Dec.f (by omega) ?_ | refine Dec.split (fun _ => ?_) (fun _ => ?_) | refine Wr.id (by omega) ?_ | refine Chk.mk (by first | omega | exact rfl | (simp only [List.length_map]; omega) | (simp [room]; done) | (simp [room]; omega) | (simp [dropL, room]; done) | (simp [dropL, room]; omega)) ?_ | refine Nam.mk (List.length_map _) ?_ | refine Prep.skip ?_ | refine Eith.l ?_ | refine chk_t (x := D.flat _) (by assumption) ?_ | refine br_mk (fun _ => ?_) (fun _ => ?_) | refine ACall.of (k1) ?_ | refine APCall.of (k1) ?_ | refine ACall.of (k2) ?_ | refine APCall.of (k2) ?_ | refine ACall.of (k3) ?_ | refine APCall.of (k3) ?_ | refine ACall.of (k4) ?_ | refine APCall.of (k4) ?_ | fail)
  all_goals first | (exfalso; omega) | skip
  all_goals (conv => whnf)
  all_goals (simp only [*, if_true, if_false]; first | exact DLe.refl _)
theorem wide_of {x : Brn} (h : x.total < 2 ^ 20) : x.wide := by
  refine ⟨by have := base_le x; omega, fun l hl => ?_⟩
  obtain ⟨i, hi⟩ := List.mem_iff_getElem?.1 hl
  have := at_len x (i : Nat)
  have he : x.at (i : Nat) = l := by unfold Brn.at; rw [Int.toNat_natCast, List.getD_eq_getElem?_getD, hi]; rfl
  rw [he] at this
  omega
theorem do_keeps {b : Brn} (hv : b.valid) (m : Mv) {no : Int} (h0 : 0 ≤ no) (hn : no < b.br.length) (h1 : ¬ (m.kind = 1 ∧ m.no = no)) (h2 : ¬ (m.kind = 2 ∧ 0 ≤ m.no ∧ m.no < b.par.length ∧ b.par.getD m.no.toNat 0 = no)) : Keeps b (doM b m) no := by
  have hf := hv.1
  unfold doM
  by_cases k0 : m.kind = 0
  · rw [if_pos k0]
    by_cases he : (forkM b m.no).2.2 = 0
    · rw [if_pos he]
      unfold forkM at he ⊢
      rw [if_pos hv] at he ⊢
      by_cases hp : m.no = -1 ∨ openP b m.no
      · rw [if_pos hp] at he ⊢
        by_cases h64 : b.br.length = 64
        · rw [if_pos h64] at he; cases he
        · rw [if_neg h64]
          exact fork_keeps hv (hp.elim (fun h => by omega) fun h => by have := open_lt h; omega) h64 hn
      · rw [if_neg hp] at he; cases he
    · rw [if_neg he]; exact keeps_refl hv no
  · rw [if_neg k0]
    by_cases k1 : m.kind = 1
    · rw [if_pos k1]
      by_cases he : (changeM b m.no m.c).2 = 0
      · rw [if_pos he]
        unfold changeM at he ⊢
        rw [if_pos hv] at he ⊢
        by_cases ho : openP b m.no
        · rw [if_pos ho] at he ⊢
          have hl := open_lt ho
          by_cases hr : (recM (withM b m.no (lenM b m.no)).1 [m.c]).2 = 0
          · rw [if_pos hr]
            exact grow_keeps hv [m.c] hl.1 hl.2 hr (by simp) hn (fun h => h1 ⟨k1, h.symm⟩)
          · rw [if_neg hr] at he; exact absurd he hr
        · rw [if_neg ho] at he; cases he
      · rw [if_neg he]; exact keeps_refl hv no
    · rw [if_neg k1]
      by_cases k2 : m.kind = 2
      · rw [if_pos k2]
        by_cases he : (mergeM b m.no).2.2 = 0
        · rw [if_pos he]
          unfold mergeM at he ⊢
          rw [if_pos hv] at he ⊢
          by_cases ho : openP b m.no ∧ (parM b m.no = -1 ∨ openP b (parM b m.no))
          · rw [if_pos ho] at he ⊢
            by_cases hc : confM b m.no = []
            · rw [if_pos hc] at he ⊢
              by_cases hr : (mergeR b m.no).2 = 0
              · rw [if_pos hr]
                have hl := open_lt ho.1
                have hp := hf.p
                exact merge_keeps hv ho.1 hr hn h0 (fun h => h2 ⟨k2, hl.1, by omega, h.symm⟩)
              · rw [if_neg hr] at he; exact absurd he hr
            · rw [if_neg hc] at he; cases he
          · rw [if_neg ho] at he; cases he
        · rw [if_neg he]; exact keeps_refl hv no
      · rw [if_neg k2]
        by_cases k3 : m.kind = 3
        · rw [if_pos k3]
          by_cases he : (dropM b m.no).2 = 0
          · rw [if_pos he]
            unfold dropM at he ⊢
            rw [if_pos hv] at he ⊢
            by_cases ho : openP b m.no
            · rw [if_pos ho]; exact close_keeps hv m.no no hn
            · rw [if_neg ho] at he; cases he
          · rw [if_neg he]; exact keeps_refl hv no
        · rw [if_neg k3]; exact keeps_refl hv no
structure XA where
  i : Nat
  x : Brn
theorem law54_Apart (b : Brn) (no : Int) (l : List Mv) (hT : b.typed) (hl : l.length < 2 ^ 63) : CallP Try.prog 6 [.d b.d, .d (I no), .d (SL 8 (l.map Mv.d))] (retD [.b true]) := by
  have hF := ref54_Few b hT.r
  refine exPure_sound (E := envOf Try.prog tt Try.f6.ntmps) (envOf_ok ttok mixed) Try.func6 (by rfl) rfl rfl (Nat.le_of_ble_eq_true rfl) ?_
  by_cases hf : fewP b ∧ l.length ≤ 12
  · obtain ⟨hf, h12⟩ := hf
    rw [decide_eq_true hf] at hF
    have hW := few_wide hT hf
    have ht := few_total hW hf
    have n1 := branches_Facts b no hW
    by_cases he : b.valid ∧ 0 ≤ no ∧ no < b.br.length
    · obtain ⟨hv, h0, hn⟩ := he
      have hfm : factsM b no = withM b no (lenM b no) := by unfold factsM; rw [if_pos hv, if_pos ⟨by omega, hn⟩]
      have hwe : (withM b no (lenM b no)).2 = 0 := by have := hv.2.2 no.toNat (by omega); rwa [show ((no.toNat : Nat) : Int) = no by omega] at this
      rw [hfm, hwe] at n1
      have s1 := ref04_Same (withM b no (lenM b no)).1 (withM b no (lenM b no)).1 (by have := with_len hv.1 no (lenM b no) hn; have := ht hv; omega)
      rw [decide_eq_true rfl] at s1
      repeat' ((conv => whnf); first | with_reducible refine Dec.t (show true = true from rfl) ?_ | with_reducible refine Dec.t (show false = false from rfl) ?_ | with_reducible refine Dec.f (show ¬ (true = false) by decide) ?_ | with_reducible refine Dec.f (show ¬ (false = true) by decide) ?_ | refine Dec.t (by omega) ?_ | refine Dec.f (by omega) ?_ | refine Dec.split (fun _ => ?_) (fun _ => ?_) | refine Wr.id (by omega) ?_ | refine Chk.mk (by first | omega | exact rfl | (simp only [List.length_map]; omega) | (simp [room]; done) | (simp [room]; omega) | (simp [dropL, room]; done) | (simp [dropL, room]; omega)) ?_ | refine Nam.mk (List.length_map _) ?_ | refine Prep.skip ?_ | refine Eith.l ?_ | refine chk_t (x := D.flat _) (by assumption) ?_ | refine br_mk (fun _ => ?_) (fun _ => ?_) | refine ACall.of (law54_sane) ?_ | refine APCall.of (law54_sane) ?_ | refine ACall.of (hF) ?_ | refine APCall.of (hF) ?_ | refine ACall.of (n1) ?_ | refine APCall.of (n1) ?_ | fail)
      all_goals first | (exfalso; omega) | skip
      all_goals (conv => whnf)
      refine ALoop.at (E := envOf Try.prog tt Try.f6.ntmps) (envOf_ok ttok mixed) (X := XA) (fun x => [(38, .d (I x.i))]) (fun x => [(0, .vard x.x.d.cells)])
        (fun x => x.i ≤ l.length ∧ x.x.valid ∧ b.br.length ≤ x.x.br.length ∧ withM x.x no (lenM x.x no) = withM b no (lenM b no) ∧ x.x.total + 1 ≤ 55 * 2 ^ x.i) (fun x => l.length - x.i) ⟨0, b⟩ (by repeat (first | exact trivial | refine And.intro rfl ?_ | refine And.intro (congrArg (fun n => V.d (I n)) (wrap_nat _ (by omega))) ?_)) rfl ⟨Nat.zero_le _, hv, Nat.le_refl _, rfl, by show b.total + 1 ≤ 55 * 2 ^ 0; have := ht hv; omega⟩ ?_
      rintro ⟨i, x⟩ ⟨hi, hxv, hxn, hxw, hxt⟩
      simp only at hi hxv hxn hxw hxt
      dsimp only
      have hp12 : (2 : Nat) ^ i ≤ 2 ^ 12 := Nat.pow_le_pow_right (by decide) (by omega)
      have hxf := hxv.1
      have hxp := hxf.p
      have hx64 := hxf.n
      have hXW : x.wide := wide_of (by omega)
      by_cases hlt : i < l.length
      · obtain ⟨m, hm, _⟩ := drop_get hlt
        have hm0 : (l.map Mv.d)[((i : Nat) : Int).toNat]? = some m.d := map_get hm
        have hp11 : (2 : Nat) ^ i ≤ 2 ^ 11 := Nat.pow_le_pow_right (by decide) (by omega)
        have hstep : ∀ t : Nat, t ≤ 2 * x.total + 1 → t + 1 ≤ 55 * 2 ^ (i + 1) := fun t h => by rw [Nat.pow_succ]; omega
        have d1 := law54_do x m hXW (fun _ => by omega)
        by_cases hsk : (m.kind = 1 ∧ m.no = no) ∨ (m.kind = 2 ∧ 0 ≤ m.no ∧ m.no < x.par.length ∧ x.par.getD m.no.toNat 0 = no)
        · have hinv := hstep x.total (by omega)
          by_cases hin : 0 ≤ m.no ∧ m.no < x.par.length
          · have hpg : (x.par.map I)[m.no.toNat]? = some (I (x.par.getD m.no.toNat 0)) := by
              have hl : m.no.toNat < x.par.length := by omega
              rw [List.getElem?_map, List.getElem?_eq_getElem hl]; simp [hl]
            repeat' ((conv => whnf); first | with_reducible refine Dec.t (show true = true from rfl) ?_ | with_reducible refine Dec.t (show false = false from rfl) ?_ | with_reducible refine Dec.f (show ¬ (true = false) by decide) ?_ | with_reducible refine Dec.f (show ¬ (false = true) by decide) ?_ | refine Dec.t (by omega) ?_ | refine Dec.f (by omega) ?_ | refine Dec.split (fun _ => ?_) (fun _ => ?_) | refine Wr.id (by omega) ?_ | refine Chk.mk (by first | omega | exact rfl | (simp only [List.length_map]; omega) | (simp [room]; done) | (simp [room]; omega) | (simp [dropL, room]; done) | (simp [dropL, room]; omega)) ?_ | refine Nam.mk (List.length_map _) ?_ | refine Prep.skip ?_ | refine Eith.l ?_ | refine chk_t (x := D.flat _) (by assumption) ?_ | refine br_mk (fun _ => ?_) (fun _ => ?_) | refine nthK_mk hm0 ?_ | refine nthK_mk hpg ?_ | fail)
            all_goals first | (exfalso; omega) | skip
            all_goals (conv => whnf)
            all_goals first
              | exact ⟨⟨i + 1, x⟩, Wm.end (by repeat (first | exact trivial | refine And.intro rfl ?_ | refine And.intro (congrArg (fun n => V.d (I n)) (wrap_nat _ (by omega))) ?_)) rfl rfl rfl, ⟨hlt, hxv, hxn, hxw, hinv⟩, by show l.length - (i + 1) < l.length - i; omega⟩
          · repeat' ((conv => whnf); first | with_reducible refine Dec.t (show true = true from rfl) ?_ | with_reducible refine Dec.t (show false = false from rfl) ?_ | with_reducible refine Dec.f (show ¬ (true = false) by decide) ?_ | with_reducible refine Dec.f (show ¬ (false = true) by decide) ?_ | refine Dec.t (by omega) ?_ | refine Dec.f (by omega) ?_ | refine Dec.split (fun _ => ?_) (fun _ => ?_) | refine Wr.id (by omega) ?_ | refine Chk.mk (by first | omega | exact rfl | (simp only [List.length_map]; omega) | (simp [room]; done) | (simp [room]; omega) | (simp [dropL, room]; done) | (simp [dropL, room]; omega)) ?_ | refine Nam.mk (List.length_map _) ?_ | refine Prep.skip ?_ | refine Eith.l ?_ | refine chk_t (x := D.flat _) (by assumption) ?_ | refine br_mk (fun _ => ?_) (fun _ => ?_) | refine nthK_mk hm0 ?_ | fail)
            all_goals first | (exfalso; omega) | skip
            all_goals (conv => whnf)
            all_goals first
              | exact ⟨⟨i + 1, x⟩, Wm.end (by repeat (first | exact trivial | refine And.intro rfl ?_ | refine And.intro (congrArg (fun n => V.d (I n)) (wrap_nat _ (by omega))) ?_)) rfl rfl rfl, ⟨hlt, hxv, hxn, hxw, hinv⟩, by show l.length - (i + 1) < l.length - i; omega⟩
        · have hk := do_keeps hxv m h0 (by omega : no < x.br.length) (fun h => hsk (.inl h)) (fun h => hsk (.inr h))
          have hkn := hk.n
          have hkp := hk.valid.1.p
          have hkf := hk.facts.trans hxw
          have hkt := hstep _ hk.total
          have hkv := hk.valid
          generalize doM x m = y at *
          by_cases hin : 0 ≤ m.no ∧ m.no < x.par.length
          · have hpg : (x.par.map I)[m.no.toNat]? = some (I (x.par.getD m.no.toNat 0)) := by
              have hl : m.no.toNat < x.par.length := by omega
              rw [List.getElem?_map, List.getElem?_eq_getElem hl]; simp [hl]
            repeat' ((conv => whnf); first | with_reducible refine Dec.t (show true = true from rfl) ?_ | with_reducible refine Dec.t (show false = false from rfl) ?_ | with_reducible refine Dec.f (show ¬ (true = false) by decide) ?_ | with_reducible refine Dec.f (show ¬ (false = true) by decide) ?_ | refine Dec.t (by omega) ?_ | refine Dec.f (by omega) ?_ | refine Dec.split (fun _ => ?_) (fun _ => ?_) | refine Wr.id (by omega) ?_ | refine Chk.mk (by first | omega | exact rfl | (simp only [List.length_map]; omega) | (simp [room]; done) | (simp [room]; omega) | (simp [dropL, room]; done) | (simp [dropL, room]; omega)) ?_ | refine Nam.mk (List.length_map _) ?_ | refine Prep.skip ?_ | refine Eith.l ?_ | refine chk_t (x := D.flat _) (by assumption) ?_ | refine br_mk (fun _ => ?_) (fun _ => ?_) | refine nthK_mk hm0 ?_ | refine nthK_mk hpg ?_ | refine ACall.of (d1) ?_ | refine APCall.of (d1) ?_ | fail)
            all_goals first | (exfalso; omega) | skip
            all_goals (conv => whnf)
            all_goals first
              | exact ⟨⟨i + 1, y⟩, Wm.end (by repeat (first | exact trivial | refine And.intro rfl ?_ | refine And.intro (congrArg (fun n => V.d (I n)) (wrap_nat _ (by omega))) ?_)) rfl rfl rfl, ⟨hlt, hkv, Nat.le_trans hxn hkn, hkf, hkt⟩, by show l.length - (i + 1) < l.length - i; omega⟩
          · repeat' ((conv => whnf); first | with_reducible refine Dec.t (show true = true from rfl) ?_ | with_reducible refine Dec.t (show false = false from rfl) ?_ | with_reducible refine Dec.f (show ¬ (true = false) by decide) ?_ | with_reducible refine Dec.f (show ¬ (false = true) by decide) ?_ | refine Dec.t (by omega) ?_ | refine Dec.f (by omega) ?_ | refine Dec.split (fun _ => ?_) (fun _ => ?_) | refine Wr.id (by omega) ?_ | refine Chk.mk (by first | omega | exact rfl | (simp only [List.length_map]; omega) | (simp [room]; done) | (simp [room]; omega) | (simp [dropL, room]; done) | (simp [dropL, room]; omega)) ?_ | refine Nam.mk (List.length_map _) ?_ | refine Prep.skip ?_ | refine Eith.l ?_ | refine chk_t (x := D.flat _) (by assumption) ?_ | refine br_mk (fun _ => ?_) (fun _ => ?_) | refine nthK_mk hm0 ?_ | refine ACall.of (d1) ?_ | refine APCall.of (d1) ?_ | fail)
            all_goals first | (exfalso; omega) | skip
            all_goals (conv => whnf)
            all_goals first
              | exact ⟨⟨i + 1, y⟩, Wm.end (by repeat (first | exact trivial | refine And.intro rfl ?_ | refine And.intro (congrArg (fun n => V.d (I n)) (wrap_nat _ (by omega))) ?_)) rfl rfl rfl, ⟨hlt, hkv, Nat.le_trans hxn hkn, hkf, hkt⟩, by show l.length - (i + 1) < l.length - i; omega⟩
      · have n2 := branches_Facts x no hXW
        rw [show factsM x no = withM b no (lenM b no) by unfold factsM; rw [if_pos hxv, if_pos ⟨by omega, by omega⟩, hxw], hwe] at n2
        repeat' ((conv => whnf); first | with_reducible refine Dec.t (show true = true from rfl) ?_ | with_reducible refine Dec.t (show false = false from rfl) ?_ | with_reducible refine Dec.f (show ¬ (true = false) by decide) ?_ | with_reducible refine Dec.f (show ¬ (false = true) by decide) ?_ | refine Dec.t (by omega) ?_ | refine Dec.f (by omega) ?_ | refine Dec.split (fun _ => ?_) (fun _ => ?_) | refine Wr.id (by omega) ?_ | refine Chk.mk (by first | omega | exact rfl | (simp only [List.length_map]; omega) | (simp [room]; done) | (simp [room]; omega) | (simp [dropL, room]; done) | (simp [dropL, room]; omega)) ?_ | refine Nam.mk (List.length_map _) ?_ | refine Prep.skip ?_ | refine Eith.l ?_ | refine chk_t (x := D.flat _) (by assumption) ?_ | refine br_mk (fun _ => ?_) (fun _ => ?_) | refine ACall.of (n2) ?_ | refine APCall.of (n2) ?_ | refine ACall.of (s1) ?_ | refine APCall.of (s1) ?_ | fail)
        all_goals first | (exfalso; omega) | skip
        all_goals (conv => whnf)
        all_goals first | exact DLe.refl _
    · by_cases h0 : no < 0
      · repeat' ((conv => whnf); first | with_reducible refine Dec.t (show true = true from rfl) ?_ | with_reducible refine Dec.t (show false = false from rfl) ?_ | with_reducible refine Dec.f (show ¬ (true = false) by decide) ?_ | with_reducible refine Dec.f (show ¬ (false = true) by decide) ?_ | refine Dec.t (by omega) ?_ | refine Dec.f (by omega) ?_ | refine Dec.split (fun _ => ?_) (fun _ => ?_) | refine Wr.id (by omega) ?_ | refine Chk.mk (by first | omega | exact rfl | (simp only [List.length_map]; omega) | (simp [room]; done) | (simp [room]; omega) | (simp [dropL, room]; done) | (simp [dropL, room]; omega)) ?_ | refine Nam.mk (List.length_map _) ?_ | refine Prep.skip ?_ | refine Eith.l ?_ | refine chk_t (x := D.flat _) (by assumption) ?_ | refine br_mk (fun _ => ?_) (fun _ => ?_) | refine ACall.of (law54_sane) ?_ | refine APCall.of (law54_sane) ?_ | refine ACall.of (hF) ?_ | refine APCall.of (hF) ?_ | refine ACall.of (n1) ?_ | refine APCall.of (n1) ?_ | fail)
        all_goals first | (exfalso; omega) | skip
        all_goals (conv => whnf)
        all_goals first | exact DLe.refl _
      · have hne : ¬ (factsM b no).2 = 0 := by
          unfold factsM
          by_cases hv : b.valid
          · rw [if_pos hv, if_neg (fun h => he ⟨hv, by omega, h.2⟩)]; decide
          · rw [if_neg hv]; decide
        repeat' ((conv => whnf); first | with_reducible refine Dec.t (show true = true from rfl) ?_ | with_reducible refine Dec.t (show false = false from rfl) ?_ | with_reducible refine Dec.f (show ¬ (true = false) by decide) ?_ | with_reducible refine Dec.f (show ¬ (false = true) by decide) ?_ | refine Dec.t (by omega) ?_ | refine Dec.f (by omega) ?_ | refine Dec.split (fun _ => ?_) (fun _ => ?_) | refine Wr.id (by omega) ?_ | refine Chk.mk (by first | omega | exact rfl | (simp only [List.length_map]; omega) | (simp [room]; done) | (simp [room]; omega) | (simp [dropL, room]; done) | (simp [dropL, room]; omega)) ?_ | refine Nam.mk (List.length_map _) ?_ | refine Prep.skip ?_ | refine Eith.l ?_ | refine chk_t (x := D.flat _) (by assumption) ?_ | refine br_mk (fun _ => ?_) (fun _ => ?_) | refine ACall.of (law54_sane) ?_ | refine APCall.of (law54_sane) ?_ | refine ACall.of (hF) ?_ | refine APCall.of (hF) ?_ | refine ACall.of (n1) ?_ | refine APCall.of (n1) ?_ | fail)
        all_goals first | (exfalso; omega) | skip
        all_goals (conv => whnf)
        all_goals first | exact DLe.refl _
  · by_cases hf2 : fewP b
    · have h12 : ¬ l.length ≤ 12 := fun h => hf ⟨hf2, h⟩
      rw [decide_eq_true hf2] at hF
      repeat' ((conv => whnf); first | with_reducible refine Dec.t (show true = true from rfl) ?_ | with_reducible refine Dec.t (show false = false from rfl) ?_ | with_reducible refine Dec.f (show ¬ (true = false) by decide) ?_ | with_reducible refine Dec.f (show ¬ (false = true) by decide) ?_ | refine Dec.t (by omega) ?_ | refine Dec.f (by omega) ?_ | refine Dec.split (fun _ => ?_) (fun _ => ?_) | refine Wr.id (by omega) ?_ | refine Chk.mk (by first | omega | exact rfl | (simp only [List.length_map]; omega) | (simp [room]; done) | (simp [room]; omega) | (simp [dropL, room]; done) | (simp [dropL, room]; omega)) ?_ | refine Nam.mk (List.length_map _) ?_ | refine Prep.skip ?_ | refine Eith.l ?_ | refine chk_t (x := D.flat _) (by assumption) ?_ | refine br_mk (fun _ => ?_) (fun _ => ?_) | refine ACall.of (law54_sane) ?_ | refine APCall.of (law54_sane) ?_ | refine ACall.of (hF) ?_ | refine APCall.of (hF) ?_ | fail)
      all_goals first | (exfalso; omega) | skip
      all_goals (conv => whnf)
      all_goals first | exact DLe.refl _
    · rw [decide_eq_false hf2] at hF
      repeat' ((conv => whnf); first | with_reducible refine Dec.t (show true = true from rfl) ?_ | with_reducible refine Dec.t (show false = false from rfl) ?_ | with_reducible refine Dec.f (show ¬ (true = false) by decide) ?_ | with_reducible refine Dec.f (show ¬ (false = true) by decide) ?_ | refine Dec.t (by omega) ?_ | refine Dec.f (by omega) ?_ | refine Dec.split (fun _ => ?_) (fun _ => ?_) | refine Wr.id (by omega) ?_ | refine Chk.mk (by first | omega | exact rfl | (simp only [List.length_map]; omega) | (simp [room]; done) | (simp [room]; omega) | (simp [dropL, room]; done) | (simp [dropL, room]; omega)) ?_ | refine Nam.mk (List.length_map _) ?_ | refine Prep.skip ?_ | refine Eith.l ?_ | refine chk_t (x := D.flat _) (by assumption) ?_ | refine br_mk (fun _ => ?_) (fun _ => ?_) | refine ACall.of (law54_sane) ?_ | refine APCall.of (law54_sane) ?_ | refine ACall.of (hF) ?_ | refine APCall.of (hF) ?_ | fail)
      all_goals first | (exfalso; omega) | skip
      all_goals (conv => whnf)
      all_goals first | exact DLe.refl _
end Go.PM

