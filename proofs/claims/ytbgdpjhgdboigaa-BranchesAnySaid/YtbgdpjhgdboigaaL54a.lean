/- The statements of branches: ForkSpec, ChangeSpec, MergeSpec. -/
import Derived.Test.YtbgdpjhgdboigaaB54s
namespace Go.PM
open Go.Proofs
set_option maxRecDepth 10000
set_option maxHeartbeats 8000000

/-- Typed branchings. -/
structure Brn.typed (x : Brn) : Prop where
  b : x.base.length < 2 ^ 63
  r : x.br.length < 2 ^ 63
  p : x.par.length < 2 ^ 63
  f : x.forks.length < 2 ^ 63
  d : x.done.length < 2 ^ 63
  c : ∀ l ∈ x.br, l.length < 2 ^ 63
theorem few_wide {b : Brn} (hT : b.typed) (hF : fewP b) : b.wide := by
  obtain ⟨f1, _⟩ := hF
  exact ⟨by omega, hT.c⟩
theorem zero_wid : Brn.zero.wid := ⟨by decide, by decide, by decide, by decide, by decide, by simp [Brn.zero]⟩
theorem valid_wid {b : Brn} (hW : b.wide) (hv : b.valid) : b.wid := by
  have h := hv.1
  have h1 := h.n
  have h2 := h.p
  have h3 := h.f
  have h4 := h.d
  have h5 := hW.b
  exact ⟨by omega, by omega, by omega, by omega, by omega, fun l hl => Nat.lt_of_lt_of_le (valid_len hW hv l hl) (by decide)⟩
theorem fork_wid {b : Brn} (hW : b.wide) (p : Int) : (forkM b p).1.wid := by
  unfold forkM
  by_cases hv : b.valid
  · have h := valid_wid hW hv
    have h1 := h.b
    have h2 := h.r
    have h3 := h.p
    have h4 := h.f
    have h5 := h.d
    have h6 := hv.1.n
    have h7 := hv.1.p
    have h8 := hv.1.f
    have h9 := hv.1.d
    rw [if_pos hv]
    split
    · split
      · exact zero_wid
      · refine ⟨h1, by simp only [forkX, List.length_append, List.length_cons, List.length_nil]; omega, by simp only [forkX, List.length_append, List.length_cons, List.length_nil]; omega, by simp only [forkX, List.length_append, List.length_cons, List.length_nil]; omega, by simp only [forkX, List.length_append, List.length_cons, List.length_nil]; omega, fun l hl => ?_⟩
        rcases List.mem_append.1 hl with hl | hl
        · exact h.c l hl
        · simp at hl; subst hl; decide
    · exact zero_wid
  · rw [if_neg hv]; exact zero_wid
theorem new_wid {l : List Fact} (h : l.length ≤ 60) : (newM l).1.wid := by
  unfold newM
  split
  · refine ⟨by simp only; omega, ?_, ?_, ?_, ?_, by simp⟩ <;> exact (show (0 : Nat) < 2 ^ 40 by decide)
  · exact zero_wid
theorem law54_ForkSpec (l : List Fact) (b : Brn) (parent : Int) (hl : l.length < 2 ^ 63) (hT : b.typed) : CallP Try.prog 3 [.d (SL 8 (l.map Fact.d)), .d b.d, .d (I parent)] (retD [.b true]) := by
  have hF := ref54_Few b hT.r
  refine exPure_sound (E := envOf Try.prog tt Try.f3.ntmps) (envOf_ok ttok mixed) Try.func3 (by rfl) rfl rfl (Nat.le_of_ble_eq_true rfl) ?_
  by_cases hl6 : l.length ≤ 60
  · by_cases hf : fewP b
    · rw [decide_eq_true hf] at hF
      have hW := few_wide hT hf
      have n1 := branches_New l (by omega)
      have n2 := ref54_New l (by omega)
      have f1 := branches_Fork b parent hW
      have f2 := ref54_Fork b parent hW
      have s1 := ref54_Same (newM l).1 (new_wid hl6)
      have s2 := ref54_Same (forkM b parent).1 (fork_wid hW parent)
      repeat' ((conv => whnf); first | with_reducible refine Dec.t (show true = true from rfl) ?_ | with_reducible refine Dec.t (show false = false from rfl) ?_ | with_reducible refine Dec.f (show ¬ (true = false) by decide) ?_ | with_reducible refine Dec.f (show ¬ (false = true) by decide) ?_ | refine Dec.t (by omega) ?_ | refine Dec.f (by omega) ?_ | refine Dec.split (fun _ => ?_) (fun _ => ?_) | refine Wr.id (by omega) ?_ | refine Chk.mk (by first | omega | exact rfl | (simp only [List.length_map]; omega) | (simp [room]; done) | (simp [room]; omega) | (simp [dropL, room]; done) | (simp [dropL, room]; omega)) ?_ | refine Nam.mk (List.length_map _) ?_ | refine Prep.skip ?_ | refine Eith.l ?_ | refine chk_t (x := D.flat _) (by assumption) ?_ | refine br_mk (fun _ => ?_) (fun _ => ?_) | refine ACall.of (law54_sane) ?_ | refine APCall.of (law54_sane) ?_ | refine ACall.of (hF) ?_ | refine APCall.of (hF) ?_ | refine ACall.of (n1) ?_ | refine APCall.of (n1) ?_ | refine ACall.of (n2) ?_ | refine APCall.of (n2) ?_ | refine ACall.of (f1) ?_ | refine APCall.of (f1) ?_ | refine ACall.of (f2) ?_ | refine APCall.of (f2) ?_ | refine ACall.of (s1) ?_ | refine APCall.of (s1) ?_ | refine ACall.of (s2) ?_ | refine APCall.of (s2) ?_ | fail)
      all_goals first | (exfalso; omega) | skip
      all_goals (conv => whnf)
      all_goals first | exact DLe.refl _
    · rw [decide_eq_false hf] at hF
      repeat' ((conv => whnf); first | with_reducible refine Dec.t (show true = true from rfl) ?_ | with_reducible refine Dec.t (show false = false from rfl) ?_ | with_reducible refine Dec.f (show ¬ (true = false) by decide) ?_ | with_reducible refine Dec.f (show ¬ (false = true) by decide) ?_ | refine Dec.t (by omega) ?_ | refine Dec.f (by omega) ?_ | refine Dec.split (fun _ => ?_) (fun _ => ?_) | refine Wr.id (by omega) ?_ | refine Chk.mk (by first | omega | exact rfl | (simp only [List.length_map]; omega) | (simp [room]; done) | (simp [room]; omega) | (simp [dropL, room]; done) | (simp [dropL, room]; omega)) ?_ | refine Nam.mk (List.length_map _) ?_ | refine Prep.skip ?_ | refine Eith.l ?_ | refine chk_t (x := D.flat _) (by assumption) ?_ | refine br_mk (fun _ => ?_) (fun _ => ?_) | refine ACall.of (law54_sane) ?_ | refine APCall.of (law54_sane) ?_ | refine ACall.of (hF) ?_ | refine APCall.of (hF) ?_ | fail)
      all_goals first | (exfalso; omega) | skip
      all_goals (conv => whnf)
      all_goals first | exact DLe.refl _
  · repeat' ((conv => whnf); first | with_reducible refine Dec.t (show true = true from rfl) ?_ | with_reducible refine Dec.t (show false = false from rfl) ?_ | with_reducible refine Dec.f (show ¬ (true = false) by decide) ?_ | with_reducible refine Dec.f (show ¬ (false = true) by decide) ?_ | refine Dec.t (by omega) ?_ | refine Dec.f (by omega) ?_ | refine Dec.split (fun _ => ?_) (fun _ => ?_) | refine Wr.id (by omega) ?_ | refine Chk.mk (by first | omega | exact rfl | (simp only [List.length_map]; omega) | (simp [room]; done) | (simp [room]; omega) | (simp [dropL, room]; done) | (simp [dropL, room]; omega)) ?_ | refine Nam.mk (List.length_map _) ?_ | refine Prep.skip ?_ | refine Eith.l ?_ | refine chk_t (x := D.flat _) (by assumption) ?_ | refine br_mk (fun _ => ?_) (fun _ => ?_) | refine ACall.of (law54_sane) ?_ | refine APCall.of (law54_sane) ?_ | fail)
    all_goals first | (exfalso; omega) | skip
    all_goals (conv => whnf)
    all_goals first | exact DLe.refl _
theorem grow_wid {b : Brn} {no : Int} {cs : List Chg} (h : b.wid) (hc : (b.at no).length + cs.length < 2 ^ 40) : (growM b no cs).wid := by
  refine ⟨h.b, by simp only [growM, List.length_set]; exact h.r, h.p, h.f, h.d, fun l hl => ?_⟩
  rcases List.mem_or_eq_of_mem_set hl with hl | rfl
  · exact h.c l hl
  · rw [List.length_append]; exact hc
theorem close_wid {b : Brn} {no : Int} (h : b.wid) : (closeM b no).wid := ⟨h.b, h.r, h.p, h.f, by simp only [closeM, List.length_set]; exact h.d, h.c⟩
theorem change_wid {b : Brn} (hW : b.wide) (ht : b.valid → b.total + 1 < 2 ^ 18) (no : Int) (c : Chg) : (changeM b no c).1.wid := by
  unfold changeM
  by_cases hv : b.valid
  · rw [if_pos hv]
    have := ht hv
    have hal := at_len b no
    split
    · split
      · exact grow_wid (valid_wid hW hv) (by simp only [List.length_cons, List.length_nil]; omega)
      · exact zero_wid
    · exact zero_wid
  · rw [if_neg hv]; exact zero_wid
theorem drop_wid {b : Brn} (hW : b.wide) (no : Int) : (dropM b no).1.wid := by
  unfold dropM
  by_cases hv : b.valid
  · rw [if_pos hv]
    split
    · exact close_wid (valid_wid hW hv)
    · exact zero_wid
  · rw [if_neg hv]; exact zero_wid
theorem merge_len {b : Brn} (hf : b.formed) (no : Int) (hn : no < b.br.length) (h0 : 0 ≤ no) : (mergeR b no).1.length ≤ b.total + b.total := by
  have he := hf.each no.toNat (by omega)
  have h1 := recM_len' (withM b (parM b no) (lenM b (parM b no))).1 (b.at no)
  have h2 := with_len hf (parM b no) (lenM b (parM b no)) (by unfold parM; omega)
  have h3 := at_len b no
  unfold mergeR
  omega
theorem merge_wid {b : Brn} (hW : b.wide) (ht : b.valid → b.total < 2 ^ 17) (no : Int) : (mergeM b no).1.wid := by
  unfold mergeM
  by_cases hv : b.valid
  · rw [if_pos hv]
    have ht := ht hv
    have hal := at_len b no
    have hal2 := at_len b (parM b no)
    by_cases ho : openP b no ∧ (parM b no = -1 ∨ openP b (parM b no))
    · rw [if_pos ho]
      have hml := merge_len hv.1 no ho.1.2.1 ho.1.1
      split
      · split
        · simp only
          unfold mergeX
          have hw := valid_wid hW hv
          split
          · exact ⟨by simp only; omega, hw.r, hw.p, hw.f, by simp only [List.length_set]; exact hw.d, hw.c⟩
          · exact grow_wid (close_wid hw) (by show (b.at (parM b no)).length + (b.at no).length < 2 ^ 40; omega)
        · exact zero_wid
      · exact zero_wid
    · rw [if_neg ho]; exact zero_wid
  · rw [if_neg hv]; exact zero_wid
theorem facts_len {b : Brn} (no : Int) (ht : b.valid → b.total < 2 ^ 18) : (factsM b no).1.length < 2 ^ 18 := by
  unfold factsM
  by_cases hv : b.valid
  · rw [if_pos hv]
    have := ht hv
    split
    · rename_i h
      have := with_len hv.1 no (lenM b no) h.2
      omega
    · decide
  · rw [if_neg hv]; decide
theorem law54_ChangeSpec (b : Brn) (no : Int) (c : Chg) (hT : b.typed) : CallP Try.prog 4 [.d b.d, .d (I no), .d c.d] (retD [.b true]) := by
  have hF := ref54_Few b hT.r
  refine exPure_sound (E := envOf Try.prog tt Try.f4.ntmps) (envOf_ok ttok mixed) Try.func4 (by rfl) rfl rfl (Nat.le_of_ble_eq_true rfl) ?_
  by_cases hf : fewP b
  · rw [decide_eq_true hf] at hF
    have hW := few_wide hT hf
    have ht := few_total hW hf
    have n1 := branches_Change b no c hW (fun h => by have := ht h; omega)
    have n2 := ref54_Change b no c hW (fun h => by have := ht h; omega)
    have f1 := branches_Facts b no hW
    have f2 := ref54_Facts b no hW
    have s1 := ref54_Same (changeM b no c).1 (change_wid hW (fun h => by have := ht h; omega) no c)
    have s2 := ref04_Same (factsM b no).1 (factsM b no).1 (by have := facts_len no (fun h => by have := ht h; omega : b.valid → b.total < 2 ^ 18); omega)
    rw [decide_eq_true rfl] at s2
    repeat' ((conv => whnf); first | with_reducible refine Dec.t (show true = true from rfl) ?_ | with_reducible refine Dec.t (show false = false from rfl) ?_ | with_reducible refine Dec.f (show ¬ (true = false) by decide) ?_ | with_reducible refine Dec.f (show ¬ (false = true) by decide) ?_ | refine Dec.t (by omega) ?_ | refine Dec.f (by omega) ?_ | refine Dec.split (fun _ => ?_) (fun _ => ?_) | refine Wr.id (by omega) ?_ | refine Chk.mk (by first | omega | exact rfl | (simp only [List.length_map]; omega) | (simp [room]; done) | (simp [room]; omega) | (simp [dropL, room]; done) | (simp [dropL, room]; omega)) ?_ | refine Nam.mk (List.length_map _) ?_ | refine Prep.skip ?_ | refine Eith.l ?_ | refine chk_t (x := D.flat _) (by assumption) ?_ | refine br_mk (fun _ => ?_) (fun _ => ?_) | refine ACall.of (law54_sane) ?_ | refine APCall.of (law54_sane) ?_ | refine ACall.of (hF) ?_ | refine APCall.of (hF) ?_ | refine ACall.of (n1) ?_ | refine APCall.of (n1) ?_ | refine ACall.of (n2) ?_ | refine APCall.of (n2) ?_ | refine ACall.of (f1) ?_ | refine APCall.of (f1) ?_ | refine ACall.of (f2) ?_ | refine APCall.of (f2) ?_ | refine ACall.of (s1) ?_ | refine APCall.of (s1) ?_ | refine ACall.of (s2) ?_ | refine APCall.of (s2) ?_ | fail)
    all_goals first | (exfalso; omega) | skip
    all_goals (conv => whnf)
    all_goals first | exact DLe.refl _
  · rw [decide_eq_false hf] at hF
    repeat' ((conv => whnf); first | with_reducible refine Dec.t (show true = true from rfl) ?_ | with_reducible refine Dec.t (show false = false from rfl) ?_ | with_reducible refine Dec.f (show ¬ (true = false) by decide) ?_ | with_reducible refine Dec.f (show ¬ (false = true) by decide) ?_ | refine Dec.t (by omega) ?_ | refine Dec.f (by omega) ?_ | refine Dec.split (fun _ => ?_) (fun _ => ?_) | refine Wr.id (by omega) ?_ | refine Chk.mk (by first | omega | exact rfl | (simp only [List.length_map]; omega) | (simp [room]; done) | (simp [room]; omega) | (simp [dropL, room]; done) | (simp [dropL, room]; omega)) ?_ | refine Nam.mk (List.length_map _) ?_ | refine Prep.skip ?_ | refine Eith.l ?_ | refine chk_t (x := D.flat _) (by assumption) ?_ | refine br_mk (fun _ => ?_) (fun _ => ?_) | refine ACall.of (law54_sane) ?_ | refine APCall.of (law54_sane) ?_ | refine ACall.of (hF) ?_ | refine APCall.of (hF) ?_ | fail)
    all_goals first | (exfalso; omega) | skip
    all_goals (conv => whnf)
    all_goals first | exact DLe.refl _
theorem conf_len (b : Brn) (no : Int) : (confM b no).length ≤ b.total := by
  unfold confM
  have h1 := keysR_len ((b.at no).map fun c => c.fact 0)
  have h2 := at_len b no
  rw [List.length_map] at h1
  exact Nat.le_trans (List.length_filter_le _ _) (by omega)
theorem mergeK_len {b : Brn} (ht : b.valid → b.total < 2 ^ 18) (no : Int) : (mergeM b no).2.1.length < 2 ^ 18 := by
  unfold mergeM
  have := conf_len b no
  by_cases hv : b.valid
  · rw [if_pos hv]
    have := ht hv
    repeat' split
    all_goals first | (show (0 : Nat) < 2 ^ 18; decide) | (show (confM b no).length < 2 ^ 18; omega)
  · rw [if_neg hv]; decide
theorem law54_MergeSpec (b : Brn) (no : Int) (hT : b.typed) : CallP Try.prog 5 [.d b.d, .d (I no)] (retD [.b true]) := by
  have hF := ref54_Few b hT.r
  refine exPure_sound (E := envOf Try.prog tt Try.f5.ntmps) (envOf_ok ttok mixed) Try.func5 (by rfl) rfl rfl (Nat.le_of_ble_eq_true rfl) ?_
  by_cases hf : fewP b
  · rw [decide_eq_true hf] at hF
    have hW := few_wide hT hf
    have ht := few_total hW hf
    have n1 := branches_Merge b no hW (fun h => by have := ht h; omega)
    have n2 := ref54_Merge b no hW (fun h => by have := ht h; omega)
    have f1 := branches_Drop b no hW
    have f2 := ref54_Drop b no hW
    have s1 := ref54_Same (mergeM b no).1 (merge_wid hW (fun h => by have := ht h; omega) no)
    have s2 := ref54_Same (dropM b no).1 (drop_wid hW no)
    have s3 := ref54_SameKeys (mergeM b no).2.1 (mergeM b no).2.1 (by have := mergeK_len (fun h => by have := ht h; omega : b.valid → b.total < 2 ^ 18) no; omega)
    rw [decide_eq_true rfl] at s3
    repeat' ((conv => whnf); first | with_reducible refine Dec.t (show true = true from rfl) ?_ | with_reducible refine Dec.t (show false = false from rfl) ?_ | with_reducible refine Dec.f (show ¬ (true = false) by decide) ?_ | with_reducible refine Dec.f (show ¬ (false = true) by decide) ?_ | refine Dec.t (by omega) ?_ | refine Dec.f (by omega) ?_ | refine Dec.split (fun _ => ?_) (fun _ => ?_) | refine Wr.id (by omega) ?_ | refine Chk.mk (by first | omega | exact rfl | (simp only [List.length_map]; omega) | (simp [room]; done) | (simp [room]; omega) | (simp [dropL, room]; done) | (simp [dropL, room]; omega)) ?_ | refine Nam.mk (List.length_map _) ?_ | refine Prep.skip ?_ | refine Eith.l ?_ | refine chk_t (x := D.flat _) (by assumption) ?_ | refine br_mk (fun _ => ?_) (fun _ => ?_) | refine ACall.of (law54_sane) ?_ | refine APCall.of (law54_sane) ?_ | refine ACall.of (hF) ?_ | refine APCall.of (hF) ?_ | refine ACall.of (n1) ?_ | refine APCall.of (n1) ?_ | refine ACall.of (n2) ?_ | refine APCall.of (n2) ?_ | refine ACall.of (f1) ?_ | refine APCall.of (f1) ?_ | refine ACall.of (f2) ?_ | refine APCall.of (f2) ?_ | refine ACall.of (s1) ?_ | refine APCall.of (s1) ?_ | refine ACall.of (s2) ?_ | refine APCall.of (s2) ?_ | refine ACall.of (s3) ?_ | refine APCall.of (s3) ?_ | fail)
    all_goals first | (exfalso; omega) | skip
    all_goals (conv => whnf)
    all_goals first | exact DLe.refl _
  · rw [decide_eq_false hf] at hF
    repeat' ((conv => whnf); first | with_reducible refine Dec.t (show true = true from rfl) ?_ | with_reducible refine Dec.t (show false = false from rfl) ?_ | with_reducible refine Dec.f (show ¬ (true = false) by decide) ?_ | with_reducible refine Dec.f (show ¬ (false = true) by decide) ?_ | refine Dec.t (by omega) ?_ | refine Dec.f (by omega) ?_ | refine Dec.split (fun _ => ?_) (fun _ => ?_) | refine Wr.id (by omega) ?_ | refine Chk.mk (by first | omega | exact rfl | (simp only [List.length_map]; omega) | (simp [room]; done) | (simp [room]; omega) | (simp [dropL, room]; done) | (simp [dropL, room]; omega)) ?_ | refine Nam.mk (List.length_map _) ?_ | refine Prep.skip ?_ | refine Eith.l ?_ | refine chk_t (x := D.flat _) (by assumption) ?_ | refine br_mk (fun _ => ?_) (fun _ => ?_) | refine ACall.of (law54_sane) ?_ | refine APCall.of (law54_sane) ?_ | refine ACall.of (hF) ?_ | refine APCall.of (hF) ?_ | fail)
    all_goals first | (exfalso; omega) | skip
    all_goals (conv => whnf)
    all_goals first | exact DLe.refl _
end Go.PM

