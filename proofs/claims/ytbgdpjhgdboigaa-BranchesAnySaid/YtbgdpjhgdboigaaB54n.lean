/- Branches: Merge, the document's way. -/
import Derived.Test.YtbgdpjhgdboigaaB54m
namespace Go.PM
open Go.Proofs
set_option maxRecDepth 10000
set_option maxHeartbeats 8000000

theorem app_all' (l r : List D) : ((dropL ([] ++ l) 0 ++ r).drop 0).take (([] : List D).length + l.length + r.length) = l ++ r := whole (l := dropL ([] ++ l) 0 ++ r) (by simp [dropL])
theorem ref54_Merge (b : Brn) (no : Int) (hW : b.wide) (ht : b.valid → b.total < 2 ^ 17) : CallP Try.prog 23 [.d b.d, .d (I no)] (retD [(mergeM b no).1.d, SL 3 ((mergeM b no).2.1.map Key.d), I (mergeM b no).2.2]) := by
  have hC := ref54_Valid b hW
  unfold mergeM
  refine exPure_sound (E := envOf Try.prog tt Try.f23.ntmps) (envOf_ok ttok mixed) Try.func23 (by rfl) rfl rfl (Nat.le_of_ble_eq_true rfl) ?_
  by_cases hv : b.valid
  · rw [decide_eq_true hv] at hC
    rw [if_pos hv]
    have ht := ht hv
    have hf := hv.1
    have hfd := hf.d
    have hfn := hf.n
    have hfp := hf.p
    have hff := hf.f
    have hO := ref54_open b no (by omega)
    have hO2 := ref54_open b (parM b no) (by omega)
    by_cases ho : openP b no
    · have h1 := open_lt ho
      have hpg : (b.par.map I)[no.toNat]? = some (I (parM b no)) := par_get hf (no := no) (by omega) h1.2
      have hbg := at_get (b := b) (no := no) (by omega) h1.2
      have he := hf.each no.toNat (by omega)
      have hpe : parM b no = b.par.getD no.toNat 0 := rfl
      rw [← hpe] at he
      rw [decide_eq_true ho] at hO
      have hK := ref54_Conflicts b hf (by omega) no h1.1 h1.2
      have hpl : parM b no < b.br.length := by omega
      have hal := at_len b no
      have hLn := ref54_length b (parM b no) hpl
      have hw := ref54_with b hf hv.2.1 hW (parM b no) (lenM b (parM b no)) hpl ⟨by omega, Int.le_refl _⟩
      rw [Int.toNat_natCast] at hw
      have hwe : (withM b (parM b no) (lenM b (parM b no))).2 = 0 := by
        by_cases h0 : parM b no < 0
        · rw [with_neg h0]
        · have := hv.2.2 (parM b no).toNat (by omega)
          rwa [show (((parM b no).toNat : Nat) : Int) = parM b no by omega] at this
      have hwc := with_check hf hv.2.1 (parM b no) (lenM b (parM b no)) hpl hwe
      have hwl := with_len hf (parM b no) (lenM b (parM b no)) hpl
      have hrec := ref54_recordAll (withM b (parM b no) (lenM b (parM b no))).1 (b.at no) hwc (with_sized hf hv.2.1 hW.b (parM b no) (lenM b (parM b no)) hpl hwe) (by omega)
      have hmr : recM (withM b (parM b no) (lenM b (parM b no))).1 (b.at no) = mergeR b no := rfl
      rw [hmr] at hrec
      have hl : no.toNat < b.done.length := by omega
      have g1 : ([] ++ b.done.map B)[0 + no.toNat]? = some (B (b.done.getD no.toNat false)) := by rw [List.nil_append, Nat.zero_add, List.getElem?_map, List.getElem?_eq_getElem hl]; simp [hl]
      have l1 : 0 + no.toNat < ([] ++ b.done.map B).length := by rw [List.nil_append, Nat.zero_add, List.length_map]; exact hl
      have s1 : ([] ++ b.done.map B).set (0 + no.toNat) (B true) = (b.done.set no.toNat true).map B := by rw [List.nil_append, Nat.zero_add, List.map_set]
      have hz0 : ¬ (0 : Int) < (([] : List D).length : Int) := by simp
      by_cases ho2 : parM b no = -1 ∨ openP b (parM b no)
      · rw [if_pos ⟨ho, ho2⟩]
        by_cases hc : confM b no = []
        · rw [if_pos hc]
          rw [hc] at hK
          by_cases hr : (mergeR b no).2 = 0
          · rw [if_pos hr]
            rw [hr] at hrec
            by_cases hp1 : parM b no = -1
            · have hmx : mergeX b no = ⟨(mergeR b no).1, b.br, b.par, b.forks, b.done.set no.toNat true⟩ := by unfold mergeX; rw [if_pos (by omega)]
              rw [hmx]
              repeat' ((conv => whnf); first | with_reducible refine Dec.t (show true = true from rfl) ?_ | with_reducible refine Dec.t (show false = false from rfl) ?_ | with_reducible refine Dec.f (show ¬ (true = false) by decide) ?_ | with_reducible refine Dec.f (show ¬ (false = true) by decide) ?_ | refine Dec.t (by omega) ?_ | refine Dec.f (by omega) ?_ | refine Dec.split (fun _ => ?_) (fun _ => ?_) | refine Wr.id (by omega) ?_ | refine Chk.mk (by first | omega | exact rfl | (simp only [List.length_map]; omega) | (simp [room]; done) | (simp [room]; omega) | (simp [dropL, room]; done) | (simp [dropL, room]; omega)) ?_ | refine Nam.mk (List.length_map _) ?_ | refine Prep.skip ?_ | refine Eith.l ?_ | refine chk_t (x := D.flat _) (by assumption) ?_ | refine br_mk (fun _ => ?_) (fun _ => ?_) | refine ACall.of (hC) ?_ | refine APCall.of (hC) ?_ | refine ACall.of (hO) ?_ | refine APCall.of (hO) ?_ | refine nthK_mk hpg ?_ | refine ACall.of (hO2) ?_ | refine APCall.of (hO2) ?_ | refine ACall.of (hK) ?_ | refine APCall.of (hK) ?_ | refine ACall.of (hLn) ?_ | refine APCall.of (hLn) ?_ | refine ACall.of (hw) ?_ | refine APCall.of (hw) ?_ | refine nthK_mk hbg ?_ | refine ACall.of (hrec) ?_ | refine APCall.of (hrec) ?_ | refine ACall.body (E := envOf Try.prog tt Try.f44.ntmps) (envOf_ok ttok mixed) Try.func44 (by rfl) rfl (Nat.le_of_ble_eq_true rfl) ?_ | refine nthK_mk g1 ?_ | refine setK_to l1 s1 ?_ | refine Nam.mk (nil_app _) ?_ | refine Nam.mk (y := (b.done.set no.toNat true).map B) (whole (by simp)) ?_ | refine Chk.mk ⟨rfl, by simp⟩ ?_ | refine Chk.mk ⟨by simp <;> omega, by simp <;> omega⟩ ?_ | fail)
              all_goals first | (exfalso; omega) | (exfalso; exact hz0 (by assumption)) | skip
              all_goals (conv => whnf)
              all_goals first | exact ⟨DLe.refl _, DLe.nil _ _ _, DLe.refl _, rfl⟩
            · rw [decide_eq_true (ho2.resolve_left hp1)] at hO2
              have ho3 := open_lt (ho2.resolve_left hp1)
              have hal2 := at_len b (parM b no)
              have hmx : mergeX b no = growM (closeM b no) (parM b no) (b.at no) := by unfold mergeX; rw [if_neg (by omega)]
              rw [hmx]
              have hbg2 := at_get (b := b) (no := parM b no) (by omega) hpl
              have g2 : ([] ++ b.br.map brD)[0 + (parM b no).toNat]? = some (brD (b.at (parM b no))) := by rw [List.nil_append, Nat.zero_add]; exact hbg2
              have l2 : 0 + (parM b no).toNat < ([] ++ b.br.map brD).length := by rw [List.nil_append, Nat.zero_add, List.length_map]; omega
              have s2 : ([] ++ b.br.map brD).set (0 + (parM b no).toNat) (.sl 6 false ((b.at (parM b no)).map Chg.d ++ (b.at no).map Chg.d)) = (b.br.set (parM b no).toNat (b.at (parM b no) ++ b.at no)).map brD := grow_set b (parM b no) (b.at no)
              repeat' ((conv => whnf); first | with_reducible refine Dec.t (show true = true from rfl) ?_ | with_reducible refine Dec.t (show false = false from rfl) ?_ | with_reducible refine Dec.f (show ¬ (true = false) by decide) ?_ | with_reducible refine Dec.f (show ¬ (false = true) by decide) ?_ | refine Dec.t (by omega) ?_ | refine Dec.f (by omega) ?_ | refine Dec.split (fun _ => ?_) (fun _ => ?_) | refine Wr.id (by omega) ?_ | refine Chk.mk (by first | omega | exact rfl | (simp only [List.length_map]; omega) | (simp [room]; done) | (simp [room]; omega) | (simp [dropL, room]; done) | (simp [dropL, room]; omega)) ?_ | refine Nam.mk (List.length_map _) ?_ | refine Prep.skip ?_ | refine Eith.l ?_ | refine chk_t (x := D.flat _) (by assumption) ?_ | refine br_mk (fun _ => ?_) (fun _ => ?_) | refine ACall.of (hC) ?_ | refine APCall.of (hC) ?_ | refine ACall.of (hO) ?_ | refine APCall.of (hO) ?_ | refine nthK_mk hpg ?_ | refine ACall.of (hO2) ?_ | refine APCall.of (hO2) ?_ | refine ACall.of (hK) ?_ | refine APCall.of (hK) ?_ | refine ACall.of (hLn) ?_ | refine APCall.of (hLn) ?_ | refine ACall.of (hw) ?_ | refine APCall.of (hw) ?_ | refine nthK_mk hbg ?_ | refine nthK_mk hbg2 ?_ | refine nthK_mk g2 ?_ | refine ACall.of (hrec) ?_ | refine APCall.of (hrec) ?_ | refine ACall.body (E := envOf Try.prog tt Try.f44.ntmps) (envOf_ok ttok mixed) Try.func44 (by rfl) rfl (Nat.le_of_ble_eq_true rfl) ?_ | refine nthK_mk g1 ?_ | refine setK_to l1 s1 ?_ | refine setK_to l2 s2 ?_ | refine Nam.mk (nil_app _) ?_ | refine Nam.mk (app_all' _ _) ?_ | refine Nam.mk (y := (b.done.set no.toNat true).map B) (whole (by simp)) ?_ | refine Nam.mk (y := (b.br.set (parM b no).toNat (b.at (parM b no) ++ b.at no)).map brD) (whole (by simp)) ?_ | refine Chk.mk ⟨rfl, by simp⟩ ?_ | refine Chk.mk ⟨by simp <;> omega, by simp <;> omega⟩ ?_ | refine Chk.mk ⟨rfl, by simp <;> omega, by simp [room] <;> omega⟩ ?_ | fail)
              all_goals first | (exfalso; omega) | (exfalso; exact hz0 (by assumption)) | skip
              all_goals (conv => whnf)
              all_goals first | exact ⟨DLe.refl _, DLe.nil _ _ _, DLe.refl _, rfl⟩
          · rw [if_neg hr]
            by_cases hp1 : parM b no = -1
            · repeat' ((conv => whnf); first | with_reducible refine Dec.t (show true = true from rfl) ?_ | with_reducible refine Dec.t (show false = false from rfl) ?_ | with_reducible refine Dec.f (show ¬ (true = false) by decide) ?_ | with_reducible refine Dec.f (show ¬ (false = true) by decide) ?_ | refine Dec.t (by omega) ?_ | refine Dec.f (by omega) ?_ | refine Dec.split (fun _ => ?_) (fun _ => ?_) | refine Wr.id (by omega) ?_ | refine Chk.mk (by first | omega | exact rfl | (simp only [List.length_map]; omega) | (simp [room]; done) | (simp [room]; omega) | (simp [dropL, room]; done) | (simp [dropL, room]; omega)) ?_ | refine Nam.mk (List.length_map _) ?_ | refine Prep.skip ?_ | refine Eith.l ?_ | refine chk_t (x := D.flat _) (by assumption) ?_ | refine br_mk (fun _ => ?_) (fun _ => ?_) | refine ACall.of (hC) ?_ | refine APCall.of (hC) ?_ | refine ACall.of (hO) ?_ | refine APCall.of (hO) ?_ | refine nthK_mk hpg ?_ | refine ACall.of (hO2) ?_ | refine APCall.of (hO2) ?_ | refine ACall.of (hK) ?_ | refine APCall.of (hK) ?_ | refine ACall.of (hLn) ?_ | refine APCall.of (hLn) ?_ | refine ACall.of (hw) ?_ | refine APCall.of (hw) ?_ | refine nthK_mk hbg ?_ | refine ACall.of (hrec) ?_ | refine APCall.of (hrec) ?_ | fail)
              all_goals first | (exfalso; omega) | (exfalso; exact hz0 (by assumption)) | skip
              all_goals (conv => whnf)
              all_goals first | exact ⟨zeroBrn, DLe.nil _ _ _, DLe.refl _, rfl⟩
            · rw [decide_eq_true (ho2.resolve_left hp1)] at hO2
              repeat' ((conv => whnf); first | with_reducible refine Dec.t (show true = true from rfl) ?_ | with_reducible refine Dec.t (show false = false from rfl) ?_ | with_reducible refine Dec.f (show ¬ (true = false) by decide) ?_ | with_reducible refine Dec.f (show ¬ (false = true) by decide) ?_ | refine Dec.t (by omega) ?_ | refine Dec.f (by omega) ?_ | refine Dec.split (fun _ => ?_) (fun _ => ?_) | refine Wr.id (by omega) ?_ | refine Chk.mk (by first | omega | exact rfl | (simp only [List.length_map]; omega) | (simp [room]; done) | (simp [room]; omega) | (simp [dropL, room]; done) | (simp [dropL, room]; omega)) ?_ | refine Nam.mk (List.length_map _) ?_ | refine Prep.skip ?_ | refine Eith.l ?_ | refine chk_t (x := D.flat _) (by assumption) ?_ | refine br_mk (fun _ => ?_) (fun _ => ?_) | refine ACall.of (hC) ?_ | refine APCall.of (hC) ?_ | refine ACall.of (hO) ?_ | refine APCall.of (hO) ?_ | refine nthK_mk hpg ?_ | refine ACall.of (hO2) ?_ | refine APCall.of (hO2) ?_ | refine ACall.of (hK) ?_ | refine APCall.of (hK) ?_ | refine ACall.of (hLn) ?_ | refine APCall.of (hLn) ?_ | refine ACall.of (hw) ?_ | refine APCall.of (hw) ?_ | refine nthK_mk hbg ?_ | refine ACall.of (hrec) ?_ | refine APCall.of (hrec) ?_ | fail)
              all_goals first | (exfalso; omega) | (exfalso; exact hz0 (by assumption)) | skip
              all_goals (conv => whnf)
              all_goals first | exact ⟨zeroBrn, DLe.nil _ _ _, DLe.refl _, rfl⟩
        · rw [if_neg hc]
          have hpos : 0 < (confM b no).length := List.length_pos_iff.2 hc
          by_cases hp1 : parM b no = -1
          · repeat' ((conv => whnf); first | with_reducible refine Dec.t (show true = true from rfl) ?_ | with_reducible refine Dec.t (show false = false from rfl) ?_ | with_reducible refine Dec.f (show ¬ (true = false) by decide) ?_ | with_reducible refine Dec.f (show ¬ (false = true) by decide) ?_ | refine Dec.t (by omega) ?_ | refine Dec.f (by omega) ?_ | refine Dec.split (fun _ => ?_) (fun _ => ?_) | refine Wr.id (by omega) ?_ | refine Chk.mk (by first | omega | exact rfl | (simp only [List.length_map]; omega) | (simp [room]; done) | (simp [room]; omega) | (simp [dropL, room]; done) | (simp [dropL, room]; omega)) ?_ | refine Nam.mk (List.length_map _) ?_ | refine Prep.skip ?_ | refine Eith.l ?_ | refine chk_t (x := D.flat _) (by assumption) ?_ | refine br_mk (fun _ => ?_) (fun _ => ?_) | refine ACall.of (hC) ?_ | refine APCall.of (hC) ?_ | refine ACall.of (hO) ?_ | refine APCall.of (hO) ?_ | refine nthK_mk hpg ?_ | refine ACall.of (hO2) ?_ | refine APCall.of (hO2) ?_ | refine ACall.of (hK) ?_ | refine APCall.of (hK) ?_ | fail)
            all_goals first | (exfalso; omega) | skip
            all_goals (conv => whnf)
            all_goals first | exact ⟨zeroBrn, DLe.refl _, DLe.refl _, rfl⟩
          · rw [decide_eq_true (ho2.resolve_left hp1)] at hO2
            repeat' ((conv => whnf); first | with_reducible refine Dec.t (show true = true from rfl) ?_ | with_reducible refine Dec.t (show false = false from rfl) ?_ | with_reducible refine Dec.f (show ¬ (true = false) by decide) ?_ | with_reducible refine Dec.f (show ¬ (false = true) by decide) ?_ | refine Dec.t (by omega) ?_ | refine Dec.f (by omega) ?_ | refine Dec.split (fun _ => ?_) (fun _ => ?_) | refine Wr.id (by omega) ?_ | refine Chk.mk (by first | omega | exact rfl | (simp only [List.length_map]; omega) | (simp [room]; done) | (simp [room]; omega) | (simp [dropL, room]; done) | (simp [dropL, room]; omega)) ?_ | refine Nam.mk (List.length_map _) ?_ | refine Prep.skip ?_ | refine Eith.l ?_ | refine chk_t (x := D.flat _) (by assumption) ?_ | refine br_mk (fun _ => ?_) (fun _ => ?_) | refine ACall.of (hC) ?_ | refine APCall.of (hC) ?_ | refine ACall.of (hO) ?_ | refine APCall.of (hO) ?_ | refine nthK_mk hpg ?_ | refine ACall.of (hO2) ?_ | refine APCall.of (hO2) ?_ | refine ACall.of (hK) ?_ | refine APCall.of (hK) ?_ | fail)
            all_goals first | (exfalso; omega) | skip
            all_goals (conv => whnf)
            all_goals first | exact ⟨zeroBrn, DLe.refl _, DLe.refl _, rfl⟩
      · rw [if_neg (fun h => ho2 h.2)]
        have hp1 : ¬ parM b no = -1 := fun h => ho2 (.inl h)
        rw [decide_eq_false (fun h => ho2 (.inr h))] at hO2
        repeat' ((conv => whnf); first | with_reducible refine Dec.t (show true = true from rfl) ?_ | with_reducible refine Dec.t (show false = false from rfl) ?_ | with_reducible refine Dec.f (show ¬ (true = false) by decide) ?_ | with_reducible refine Dec.f (show ¬ (false = true) by decide) ?_ | refine Dec.t (by omega) ?_ | refine Dec.f (by omega) ?_ | refine Dec.split (fun _ => ?_) (fun _ => ?_) | refine Wr.id (by omega) ?_ | refine Chk.mk (by first | omega | exact rfl | (simp only [List.length_map]; omega) | (simp [room]; done) | (simp [room]; omega) | (simp [dropL, room]; done) | (simp [dropL, room]; omega)) ?_ | refine Nam.mk (List.length_map _) ?_ | refine Prep.skip ?_ | refine Eith.l ?_ | refine chk_t (x := D.flat _) (by assumption) ?_ | refine br_mk (fun _ => ?_) (fun _ => ?_) | refine ACall.of (hC) ?_ | refine APCall.of (hC) ?_ | refine ACall.of (hO) ?_ | refine APCall.of (hO) ?_ | refine nthK_mk hpg ?_ | refine ACall.of (hO2) ?_ | refine APCall.of (hO2) ?_ | fail)
        all_goals first | (exfalso; omega) | skip
        all_goals (conv => whnf)
        all_goals first | exact ⟨zeroBrn, DLe.nil _ _ _, DLe.refl _, rfl⟩
    · rw [decide_eq_false ho] at hO
      rw [if_neg (fun h => ho h.1)]
      repeat' ((conv => whnf); first | with_reducible refine Dec.t (show true = true from rfl) ?_ | with_reducible refine Dec.t (show false = false from rfl) ?_ | with_reducible refine Dec.f (show ¬ (true = false) by decide) ?_ | with_reducible refine Dec.f (show ¬ (false = true) by decide) ?_ | refine Dec.t (by omega) ?_ | refine Dec.f (by omega) ?_ | refine Dec.split (fun _ => ?_) (fun _ => ?_) | refine Wr.id (by omega) ?_ | refine Chk.mk (by first | omega | exact rfl | (simp only [List.length_map]; omega) | (simp [room]; done) | (simp [room]; omega) | (simp [dropL, room]; done) | (simp [dropL, room]; omega)) ?_ | refine Nam.mk (List.length_map _) ?_ | refine Prep.skip ?_ | refine Eith.l ?_ | refine chk_t (x := D.flat _) (by assumption) ?_ | refine br_mk (fun _ => ?_) (fun _ => ?_) | refine ACall.of (hC) ?_ | refine APCall.of (hC) ?_ | refine ACall.of (hO) ?_ | refine APCall.of (hO) ?_ | fail)
      all_goals first | (exfalso; omega) | skip
      all_goals (conv => whnf)
      all_goals first | exact ⟨zeroBrn, DLe.nil _ _ _, DLe.refl _, rfl⟩
  · rw [decide_eq_false hv] at hC
    rw [if_neg hv]
    repeat' ((conv => whnf); first | with_reducible refine Dec.t (show true = true from rfl) ?_ | with_reducible refine Dec.t (show false = false from rfl) ?_ | with_reducible refine Dec.f (show ¬ (true = false) by decide) ?_ | with_reducible refine Dec.f (show ¬ (false = true) by decide) ?_ | refine Dec.t (by omega) ?_ | refine Dec.f (by omega) ?_ | refine Dec.split (fun _ => ?_) (fun _ => ?_) | refine Wr.id (by omega) ?_ | refine Chk.mk (by first | omega | exact rfl | (simp only [List.length_map]; omega) | (simp [room]; done) | (simp [room]; omega) | (simp [dropL, room]; done) | (simp [dropL, room]; omega)) ?_ | refine Nam.mk (List.length_map _) ?_ | refine Prep.skip ?_ | refine Eith.l ?_ | refine chk_t (x := D.flat _) (by assumption) ?_ | refine br_mk (fun _ => ?_) (fun _ => ?_) | refine ACall.of (hC) ?_ | refine APCall.of (hC) ?_ | fail)
    all_goals first | (exfalso; omega) | skip
    all_goals (conv => whnf)
    all_goals first | exact ⟨zeroBrn, DLe.nil _ _ _, DLe.refl _, rfl⟩
end Go.PM

