/- Branches: Merge. -/
import Derived.Test.YtbgdpjhgdboigaaB54l
namespace Go.PM
open Go.Proofs
set_option maxRecDepth 10000
set_option maxHeartbeats 8000000

theorem with_close {b : Brn} (hf : b.formed) (no0 : Int) : ∀ (no : Int) (many : Nat), no < b.br.length → withM (closeM b no0) no many = withM b no many := by
  have hg : (closeM b no0).formed := ⟨hf.n, hf.p, hf.f, by simp only [closeM, List.length_set]; exact hf.d, hf.each⟩
  have key : ∀ (m : Nat) (no : Int) (many : Nat), (no + 1).toNat ≤ m → no < b.br.length → withM (closeM b no0) no many = withM b no many := by
    intro m
    induction m with
    | zero => intro no many hm hn; rw [with_neg (by omega), with_neg (by omega)]; rfl
    | succ m ih =>
      intro no many hm hn
      by_cases h0 : no < 0
      · rw [with_neg h0, with_neg h0]; rfl
      · have he := hf.each no.toNat (by omega)
        rw [with_pos hg h0 hn, with_pos hf h0 hn]
        have hi := ih (b.par.getD no.toNat 0) (b.forks.getD no.toNat 0).toNat (by omega) (by omega)
        show (if (withM (closeM b no0) (b.par.getD no.toNat 0) (b.forks.getD no.toNat 0).toNat).2 = 0 then recM (withM (closeM b no0) (b.par.getD no.toNat 0) (b.forks.getD no.toNat 0).toNat).1 ((b.at no).take many) else ([], (withM (closeM b no0) (b.par.getD no.toNat 0) (b.forks.getD no.toNat 0).toNat).2)) = _
        rw [hi]
  exact fun no many => key _ no many (Nat.le_refl _)
theorem close_valid {b : Brn} (hv : b.valid) (no : Int) : (closeM b no).valid := by
  have hf := hv.1
  exact ⟨⟨hf.n, hf.p, hf.f, by simp only [closeM, List.length_set]; exact hf.d, hf.each⟩, hv.2.1, fun i (hi : i < b.br.length) => by
    rw [with_close hf no i _ (by omega)]
    exact hv.2.2 i hi⟩
def parM (b : Brn) (no : Int) : Int := b.par.getD no.toNat 0
/-- What is merged into the parent's facts. -/
def mergeR (b : Brn) (no : Int) : List Fact × Int := recM (withM b (parM b no) (lenM b (parM b no))).1 (b.at no)
def mergeX (b : Brn) (no : Int) : Brn := if parM b no < 0 then ⟨(mergeR b no).1, b.br, b.par, b.forks, b.done.set no.toNat true⟩ else growM (closeM b no) (parM b no) (b.at no)
def mergeM (b : Brn) (no : Int) : Brn × List Key × Int :=
  if b.valid then (if openP b no ∧ (parM b no = -1 ∨ openP b (parM b no)) then (if confM b no = [] then (if (mergeR b no).2 = 0 then (mergeX b no, [], 0) else (Brn.zero, [], (mergeR b no).2)) else (Brn.zero, confM b no, 541)) else (Brn.zero, [], 1)) else (Brn.zero, [], 540)

theorem branches_Merge (b : Brn) (no : Int) (hW : b.wide) (ht : b.valid → b.total < 2 ^ 17) : CallP Try.prog 22 [.d b.d, .d (I no)] (retD [(mergeM b no).1.d, SL 3 ((mergeM b no).2.1.map Key.d), I (mergeM b no).2.2]) := by
  have hC := branches_check b hW
  unfold mergeM
  refine exPure_sound (E := envOf Try.prog tt Try.f22.ntmps) (envOf_ok ttok mixed) Try.func22 (by rfl) rfl rfl (Nat.le_of_ble_eq_true rfl) ?_
  by_cases hv : b.valid
  · rw [if_pos hv] at hC ⊢
    have ht := ht hv
    have hf := hv.1
    have hfd := hf.d
    have hfn := hf.n
    have hO := branches_open b no (by omega)
    have hO2 := branches_open b (parM b no) (by omega)
    by_cases ho : openP b no
    · have h1 := open_lt ho
      have hpg : (b.par.map I)[no.toNat]? = some (I (parM b no)) := par_get hf (no := no) (by omega) h1.2
      have hbg := at_get (b := b) (no := no) (by omega) h1.2
      have he := hf.each no.toNat (by omega)
      have hpe : parM b no = b.par.getD no.toNat 0 := rfl
      rw [← hpe] at he
      rw [decide_eq_true ho] at hO
      have hK := branches_conflicts b hf (by omega) no h1.1 h1.2
      have hcl := branches_closed b no h1.1 (by omega) (by omega)
      by_cases ho2 : parM b no = -1 ∨ openP b (parM b no)
      · rw [if_pos ⟨ho, ho2⟩]
        by_cases hc : confM b no = []
        · rw [if_pos hc]
          rw [hc] at hK
          by_cases hp1 : parM b no = -1
          · have hbl := base_le b
            have hal := at_len b no
            have hmr : mergeR b no = recM b.base (b.at no) := by unfold mergeR; rw [hp1, with_neg (by omega)]; unfold lenM; rw [if_pos (by omega), List.take_length]
            have hrec := branches_record b.base (b.at no) hv.2.1 (by have := sized_take hv.2.1 hW.b b.base.length; rwa [List.take_length] at this) (by omega)
            have hcp := copied_Fact b.base (by omega)
            rw [← hmr] at hrec
            have hz0 : ¬ (0 : Int) < (([] : List D).length : Int) := by simp
            by_cases hr : (mergeR b no).2 = 0
            · rw [if_pos hr]
              have hmx : mergeX b no = ⟨(mergeR b no).1, b.br, b.par, b.forks, b.done.set no.toNat true⟩ := by unfold mergeX; rw [if_pos (by omega)]
              rw [hmx]
              rw [hr] at hrec
              repeat' ((conv => whnf); first | with_reducible refine Dec.t (show true = true from rfl) ?_ | with_reducible refine Dec.t (show false = false from rfl) ?_ | with_reducible refine Dec.f (show ¬ (true = false) by decide) ?_ | with_reducible refine Dec.f (show ¬ (false = true) by decide) ?_ | refine Dec.t (by omega) ?_ | refine Dec.f (by omega) ?_ | refine Dec.split (fun _ => ?_) (fun _ => ?_) | refine Wr.id (by omega) ?_ | refine Chk.mk (by first | omega | exact rfl | (simp only [List.length_map]; omega) | (simp [room]; done) | (simp [room]; omega) | (simp [dropL, room]; done) | (simp [dropL, room]; omega)) ?_ | refine Nam.mk (List.length_map _) ?_ | refine Prep.skip ?_ | refine Eith.l ?_ | refine chk_t (x := D.flat _) (by assumption) ?_ | refine br_mk (fun _ => ?_) (fun _ => ?_) | refine ACall.of (hC) ?_ | refine APCall.of (hC) ?_ | refine ACall.of (hO) ?_ | refine APCall.of (hO) ?_ | refine nthK_mk hpg ?_ | refine ACall.of (hO2) ?_ | refine APCall.of (hO2) ?_ | refine ACall.of (hK) ?_ | refine APCall.of (hK) ?_ | refine ACall.of (hcl) ?_ | refine APCall.of (hcl) ?_ | refine nthK_mk hbg ?_ | refine ACall.ofRow hcp ?_ | refine APCall.ofRow hcp ?_ | refine APCall.fix (args' := [.d (SL 8 (b.base.map Fact.d)), .d (brD (b.at no))]) 0 rfl rfl (by simp) ⟨VLe.d (by rw [whole rfl]; exact DLe.refl _), VLe.refl _, rfl⟩ hrec ?_ | fail)
              all_goals first | (exfalso; omega) | (exfalso; exact hz0 (by assumption)) | skip
              all_goals (conv => whnf)
              all_goals first | exact ⟨DLe.refl _, DLe.nil _ _ _, DLe.refl _, rfl⟩
            · rw [if_neg hr]
              repeat' ((conv => whnf); first | with_reducible refine Dec.t (show true = true from rfl) ?_ | with_reducible refine Dec.t (show false = false from rfl) ?_ | with_reducible refine Dec.f (show ¬ (true = false) by decide) ?_ | with_reducible refine Dec.f (show ¬ (false = true) by decide) ?_ | refine Dec.t (by omega) ?_ | refine Dec.f (by omega) ?_ | refine Dec.split (fun _ => ?_) (fun _ => ?_) | refine Wr.id (by omega) ?_ | refine Chk.mk (by first | omega | exact rfl | (simp only [List.length_map]; omega) | (simp [room]; done) | (simp [room]; omega) | (simp [dropL, room]; done) | (simp [dropL, room]; omega)) ?_ | refine Nam.mk (List.length_map _) ?_ | refine Prep.skip ?_ | refine Eith.l ?_ | refine chk_t (x := D.flat _) (by assumption) ?_ | refine br_mk (fun _ => ?_) (fun _ => ?_) | refine ACall.of (hC) ?_ | refine APCall.of (hC) ?_ | refine ACall.of (hO) ?_ | refine APCall.of (hO) ?_ | refine nthK_mk hpg ?_ | refine ACall.of (hO2) ?_ | refine APCall.of (hO2) ?_ | refine ACall.of (hK) ?_ | refine APCall.of (hK) ?_ | refine ACall.of (hcl) ?_ | refine APCall.of (hcl) ?_ | refine nthK_mk hbg ?_ | refine ACall.ofRow hcp ?_ | refine APCall.ofRow hcp ?_ | refine APCall.fix (args' := [.d (SL 8 (b.base.map Fact.d)), .d (brD (b.at no))]) 0 rfl rfl (by simp) ⟨VLe.d (by rw [whole rfl]; exact DLe.refl _), VLe.refl _, rfl⟩ hrec ?_ | fail)
              all_goals first | (exfalso; omega) | (exfalso; exact hz0 (by assumption)) | skip
              all_goals (conv => whnf)
              all_goals first | exact ⟨zeroBrn, DLe.nil _ _ _, DLe.refl _, rfl⟩
          · rw [decide_eq_true (ho2.resolve_left hp1)] at hO2
            have ho3 := open_lt (ho2.resolve_left hp1)
            have hal := at_len b no
            have hal2 := at_len b (parM b no)
            have hgr := branches_grown (closeM b no) (parM b no) (b.at no) ho3.1 ho3.2 (by show b.br.length < 2 ^ 20; omega) (by show (b.at (parM b no)).length < 2 ^ 20; omega) (by omega)
            have hcv := close_valid hv no
            have hof := branches_of (growM (closeM b no) (parM b no) (b.at no)) (grow_formed hcv.1 _ ho3.1 ho3.2) hcv.2.1 (grow_wide (b := closeM b no) ⟨hW.b, hW.r⟩ (parM b no) (b.at no) (by show (b.at (parM b no)).length + (b.at no).length < 2 ^ 63; omega)) (parM b no) (by simp only [growM, List.length_set]; exact ho3.2)
            rw [grown_facts hcv _ ho3.1 ho3.2, with_close hf no _ _ ho3.2] at hof
            have hmr : recM (withM b (parM b no) (lenM (closeM b no) (parM b no))).1 (b.at no) = mergeR b no := rfl
            rw [hmr] at hof
            have hz0 : ¬ (0 : Int) < (([] : List D).length : Int) := by simp
            by_cases hr : (mergeR b no).2 = 0
            · rw [if_pos hr]
              have hmx : mergeX b no = growM (closeM b no) (parM b no) (b.at no) := by unfold mergeX; rw [if_neg (by omega)]
              rw [hmx]
              rw [hr] at hof
              repeat' ((conv => whnf); first | with_reducible refine Dec.t (show true = true from rfl) ?_ | with_reducible refine Dec.t (show false = false from rfl) ?_ | with_reducible refine Dec.f (show ¬ (true = false) by decide) ?_ | with_reducible refine Dec.f (show ¬ (false = true) by decide) ?_ | refine Dec.t (by omega) ?_ | refine Dec.f (by omega) ?_ | refine Dec.split (fun _ => ?_) (fun _ => ?_) | refine Wr.id (by omega) ?_ | refine Chk.mk (by first | omega | exact rfl | (simp only [List.length_map]; omega) | (simp [room]; done) | (simp [room]; omega) | (simp [dropL, room]; done) | (simp [dropL, room]; omega)) ?_ | refine Nam.mk (List.length_map _) ?_ | refine Prep.skip ?_ | refine Eith.l ?_ | refine chk_t (x := D.flat _) (by assumption) ?_ | refine br_mk (fun _ => ?_) (fun _ => ?_) | refine ACall.of (hC) ?_ | refine APCall.of (hC) ?_ | refine ACall.of (hO) ?_ | refine APCall.of (hO) ?_ | refine nthK_mk hpg ?_ | refine ACall.of (hO2) ?_ | refine APCall.of (hO2) ?_ | refine ACall.of (hK) ?_ | refine APCall.of (hK) ?_ | refine ACall.of (hcl) ?_ | refine APCall.of (hcl) ?_ | refine nthK_mk hbg ?_ | refine ACall.of (hgr) ?_ | refine APCall.of (hgr) ?_ | refine ACall.of (hof) ?_ | refine APCall.of (hof) ?_ | fail)
              all_goals first | (exfalso; omega) | (exfalso; exact hz0 (by assumption)) | skip
              all_goals (conv => whnf)
              all_goals first | exact ⟨DLe.refl _, DLe.nil _ _ _, DLe.refl _, rfl⟩
            · rw [if_neg hr]
              repeat' ((conv => whnf); first | with_reducible refine Dec.t (show true = true from rfl) ?_ | with_reducible refine Dec.t (show false = false from rfl) ?_ | with_reducible refine Dec.f (show ¬ (true = false) by decide) ?_ | with_reducible refine Dec.f (show ¬ (false = true) by decide) ?_ | refine Dec.t (by omega) ?_ | refine Dec.f (by omega) ?_ | refine Dec.split (fun _ => ?_) (fun _ => ?_) | refine Wr.id (by omega) ?_ | refine Chk.mk (by first | omega | exact rfl | (simp only [List.length_map]; omega) | (simp [room]; done) | (simp [room]; omega) | (simp [dropL, room]; done) | (simp [dropL, room]; omega)) ?_ | refine Nam.mk (List.length_map _) ?_ | refine Prep.skip ?_ | refine Eith.l ?_ | refine chk_t (x := D.flat _) (by assumption) ?_ | refine br_mk (fun _ => ?_) (fun _ => ?_) | refine ACall.of (hC) ?_ | refine APCall.of (hC) ?_ | refine ACall.of (hO) ?_ | refine APCall.of (hO) ?_ | refine nthK_mk hpg ?_ | refine ACall.of (hO2) ?_ | refine APCall.of (hO2) ?_ | refine ACall.of (hK) ?_ | refine APCall.of (hK) ?_ | refine ACall.of (hcl) ?_ | refine APCall.of (hcl) ?_ | refine nthK_mk hbg ?_ | refine ACall.of (hgr) ?_ | refine APCall.of (hgr) ?_ | refine ACall.of (hof) ?_ | refine APCall.of (hof) ?_ | fail)
              all_goals first | (exfalso; omega) | (exfalso; exact hz0 (by assumption)) | skip
              all_goals (conv => whnf)
              all_goals first | exact ⟨zeroBrn, DLe.nil _ _ _, DLe.refl _, rfl⟩
        · rw [if_neg hc]
          have hpos : 0 < (confM b no).length := List.length_pos_iff.2 hc
          by_cases hp1 : parM b no = -1
          · repeat' ((conv => whnf); first | with_reducible refine Dec.t (show true = true from rfl) ?_ | with_reducible refine Dec.t (show false = false from rfl) ?_ | with_reducible refine Dec.f (show ¬ (true = false) by decide) ?_ | with_reducible refine Dec.f (show ¬ (false = true) by decide) ?_ | refine Dec.t (by omega) ?_ | refine Dec.f (by omega) ?_ | refine Dec.split (fun _ => ?_) (fun _ => ?_) | refine Wr.id (by omega) ?_ | refine Chk.mk (by first | omega | exact rfl | (simp only [List.length_map]; omega) | (simp [room]; done) | (simp [room]; omega) | (simp [dropL, room]; done) | (simp [dropL, room]; omega)) ?_ | refine Nam.mk (List.length_map _) ?_ | refine Prep.skip ?_ | refine Eith.l ?_ | refine chk_t (x := D.flat _) (by assumption) ?_ | refine br_mk (fun _ => ?_) (fun _ => ?_) | refine ACall.of (hC) ?_ | refine APCall.of (hC) ?_ | refine ACall.of (hO) ?_ | refine APCall.of (hO) ?_ | refine nthK_mk hpg ?_ | refine ACall.of (hO2) ?_ | refine APCall.of (hO2) ?_ | refine ACall.of (hK) ?_ | refine APCall.of (hK) ?_ | fail)
            all_goals first | (exfalso; omega) | skip
            all_goals (conv => whnf)
            all_goals first | exact ⟨zeroBrn, DLe.refl _, DLe.refl _, rfl⟩
          · rw [decide_eq_true (ho2.resolve_left hp1)] at hO2
            repeat' ((conv => whnf); first | with_reducible refine Dec.t (show true = true from rfl) ?_ | with_reducible refine Dec.t (show false = false from rfl) ?_ | with_reducible refine Dec.f (show ¬ (true = false) by decide) ?_ | with_reducible refine Dec.f (show ¬ (false = true) by decide) ?_ | refine Dec.t (by omega) ?_ | refine Dec.f (by omega) ?_ | refine Dec.split (fun _ => ?_) (fun _ => ?_) | refine Wr.id (by omega) ?_ | refine Chk.mk (by first | omega | exact rfl | (simp only [List.length_map]; omega) | (simp [room]; done) | (simp [room]; omega) | (simp [dropL, room]; done) | (simp [dropL, room]; omega)) ?_ | refine Nam.mk (List.length_map _) ?_ | refine Prep.skip ?_ | refine Eith.l ?_ | refine chk_t (x := D.flat _) (by assumption) ?_ | refine br_mk (fun _ => ?_) (fun _ => ?_) | refine ACall.of (hC) ?_ | refine APCall.of (hC) ?_ | refine ACall.of (hO) ?_ | refine APCall.of (hO) ?_ | refine nthK_mk hpg ?_ | refine ACall.of (hO2) ?_ | refine APCall.of (hO2) ?_ | refine ACall.of (hK) ?_ | refine APCall.of (hK) ?_ | fail)
            all_goals first | (exfalso; omega) | skip
            all_goals (conv => whnf)
            all_goals first | exact ⟨zeroBrn, DLe.refl _, DLe.refl _, rfl⟩
      · rw [if_neg (fun h => ho2 h.2)]
        have hp1 : ¬ parM b no = -1 := fun h => ho2 (.inl h)
        rw [decide_eq_false (fun h => ho2 (.inr h))] at hO2
        repeat' ((conv => whnf); first | with_reducible refine Dec.t (show true = true from rfl) ?_ | with_reducible refine Dec.t (show false = false from rfl) ?_ | with_reducible refine Dec.f (show ¬ (true = false) by decide) ?_ | with_reducible refine Dec.f (show ¬ (false = true) by decide) ?_ | refine Dec.t (by omega) ?_ | refine Dec.f (by omega) ?_ | refine Dec.split (fun _ => ?_) (fun _ => ?_) | refine Wr.id (by omega) ?_ | refine Chk.mk (by first | omega | exact rfl | (simp only [List.length_map]; omega) | (simp [room]; done) | (simp [room]; omega) | (simp [dropL, room]; done) | (simp [dropL, room]; omega)) ?_ | refine Nam.mk (List.length_map _) ?_ | refine Prep.skip ?_ | refine Eith.l ?_ | refine chk_t (x := D.flat _) (by assumption) ?_ | refine br_mk (fun _ => ?_) (fun _ => ?_) | refine ACall.of (hC) ?_ | refine APCall.of (hC) ?_ | refine ACall.of (hO) ?_ | refine APCall.of (hO) ?_ | refine nthK_mk hpg ?_ | refine ACall.of (hO2) ?_ | refine APCall.of (hO2) ?_ | fail)
        all_goals first | (exfalso; omega) | skip
        all_goals (conv => whnf)
        all_goals first | exact ⟨zeroBrn, DLe.nil _ _ _, DLe.refl _, rfl⟩
    · rw [decide_eq_false ho] at hO
      rw [if_neg (fun h => ho h.1)]
      repeat' ((conv => whnf); first | with_reducible refine Dec.t (show true = true from rfl) ?_ | with_reducible refine Dec.t (show false = false from rfl) ?_ | with_reducible refine Dec.f (show ¬ (true = false) by decide) ?_ | with_reducible refine Dec.f (show ¬ (false = true) by decide) ?_ | refine Dec.t (by omega) ?_ | refine Dec.f (by omega) ?_ | refine Dec.split (fun _ => ?_) (fun _ => ?_) | refine Wr.id (by omega) ?_ | refine Chk.mk (by first | omega | exact rfl | (simp only [List.length_map]; omega) | (simp [room]; done) | (simp [room]; omega) | (simp [dropL, room]; done) | (simp [dropL, room]; omega)) ?_ | refine Nam.mk (List.length_map _) ?_ | refine Prep.skip ?_ | refine Eith.l ?_ | refine chk_t (x := D.flat _) (by assumption) ?_ | refine br_mk (fun _ => ?_) (fun _ => ?_) | refine ACall.of (hC) ?_ | refine APCall.of (hC) ?_ | refine ACall.of (hO) ?_ | refine APCall.of (hO) ?_ | fail)
      all_goals first | (exfalso; omega) | skip
      all_goals (conv => whnf)
      all_goals first | exact ⟨zeroBrn, DLe.nil _ _ _, DLe.refl _, rfl⟩
  · rw [if_neg hv] at hC ⊢
    repeat' ((conv => whnf); first | with_reducible refine Dec.t (show true = true from rfl) ?_ | with_reducible refine Dec.t (show false = false from rfl) ?_ | with_reducible refine Dec.f (show ¬ (true = false) by decide) ?_ | with_reducible refine Dec.f (show ¬ (false = true) by decide) ?_ | refine Dec.t (by omega) ?_ | refine Dec.f (by omega) ?_ | refine Dec.split (fun _ => ?_) (fun _ => ?_) | refine Wr.id (by omega) ?_ | refine Chk.mk (by first | omega | exact rfl | (simp only [List.length_map]; omega) | (simp [room]; done) | (simp [room]; omega) | (simp [dropL, room]; done) | (simp [dropL, room]; omega)) ?_ | refine Nam.mk (List.length_map _) ?_ | refine Prep.skip ?_ | refine Eith.l ?_ | refine chk_t (x := D.flat _) (by assumption) ?_ | refine br_mk (fun _ => ?_) (fun _ => ?_) | refine ACall.of (hC) ?_ | refine APCall.of (hC) ?_ | fail)
    all_goals first | (exfalso; omega) | skip
    all_goals (conv => whnf)
    all_goals first | exact ⟨zeroBrn, DLe.nil _ _ _, DLe.refl _, rfl⟩
end Go.PM

