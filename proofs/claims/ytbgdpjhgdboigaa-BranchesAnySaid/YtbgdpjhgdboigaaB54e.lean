/- Branches: the facts of a branch, both ways. -/
import Derived.Test.YtbgdpjhgdboigaaB54atoB54d
import Derived.Test.YtbgdpjhgdboigaaPmRec
namespace Go.PM
open Go.Proofs
set_option maxRecDepth 10000
set_option maxHeartbeats 8000000

theorem par_get {b : Brn} (hf : b.formed) {no : Int} (h0 : ¬ no < 0) (h : no < b.br.length) : (b.par.map I)[no.toNat]? = some (I (b.par.getD no.toNat 0)) := by
  have hp := hf.p
  have hl : no.toNat < b.par.length := by omega
  rw [List.getElem?_map, List.getElem?_eq_getElem hl]; simp [hl]
theorem forks_get {b : Brn} (hf : b.formed) {no : Int} (h0 : ¬ no < 0) (h : no < b.br.length) : (b.forks.map I)[no.toNat]? = some (I (b.forks.getD no.toNat 0)) := by
  have hp := hf.f
  have hl : no.toNat < b.forks.length := by omega
  rw [List.getElem?_map, List.getElem?_eq_getElem hl]; simp [hl]
/-- Lists of this width. -/
structure Brn.wide (x : Brn) : Prop where
  b : x.base.length < 2 ^ 20
  r : ∀ l ∈ x.br, l.length < 2 ^ 63
theorem at_wide {b : Brn} (h : b.wide) (no : Int) : (b.at no).length < 2 ^ 63 := by
  unfold Brn.at
  by_cases hl : no.toNat < b.br.length
  · have := h.r b.br[no.toNat] (List.getElem_mem hl)
    simpa [hl] using this
  · simp [hl]
theorem ref54_with (b : Brn) (hf : b.formed) (hb : checkM b.base = 0) (hw : b.wide) : ∀ (no many : Int), no < b.br.length → 0 ≤ many ∧ many ≤ lenM b no →
    CallP Try.prog 48 [.d b.d, .d (I no), .d (I many)] (retD [SL 8 ((withM b no many.toNat).1.map Fact.d), I (withM b no many.toNat).2]) := by
  have key : ∀ (m : Nat) (no many : Int), (no + 1).toNat ≤ m → no < b.br.length → 0 ≤ many ∧ many ≤ lenM b no →
      CallP Try.prog 48 [.d b.d, .d (I no), .d (I many)] (retD [SL 8 ((withM b no many.toNat).1.map Fact.d), I (withM b no many.toNat).2]) := by
    have neg : ∀ (no many : Int), no < 0 → 0 ≤ many ∧ many ≤ lenM b no → CallP Try.prog 48 [.d b.d, .d (I no), .d (I many)] (retD [SL 8 ((withM b no many.toNat).1.map Fact.d), I (withM b no many.toNat).2]) := by
      intro no many h0 hm
      rw [with_neg h0]
      unfold lenM at hm
      rw [if_pos h0] at hm
      refine exPure_sound (E := envOf Try.prog tt Try.f48.ntmps) (envOf_ok ttok mixed) Try.func48 (by rfl) rfl rfl (Nat.le_of_ble_eq_true rfl) ?_
      repeat' ((conv => whnf); first | with_reducible refine Dec.t (show true = true from rfl) ?_ | with_reducible refine Dec.t (show false = false from rfl) ?_ | with_reducible refine Dec.f (show ¬ (true = false) by decide) ?_ | with_reducible refine Dec.f (show ¬ (false = true) by decide) ?_ | refine Dec.t (by omega) ?_ | refine Dec.f (by omega) ?_ | refine Dec.split (fun _ => ?_) (fun _ => ?_) | refine Wr.id (by omega) ?_ | refine Chk.mk (by first | omega | exact rfl | (simp only [List.length_map]; omega) | (simp [room]; done) | (simp [room]; omega) | (simp [dropL, room]; done) | (simp [dropL, room]; omega)) ?_ | refine Nam.mk (List.length_map _) ?_ | refine Prep.skip ?_ | refine Eith.l ?_ | refine chk_t (x := D.flat _) (by assumption) ?_ | refine br_mk (fun _ => ?_) (fun _ => ?_) | fail)
      all_goals first | (exfalso; omega) | skip
      all_goals (conv => whnf)
      all_goals first | (refine ⟨?_, DLe.refl _, rfl⟩; rw [List.map_take]; first | exact DLe.full _ _ _ | exact DLe.refl _)
    intro m
    induction m with
    | zero => intro no many hm; exact fun _ => neg no many (by omega)
    | succ m ih =>
      intro no many hm hn hk
      by_cases h0 : no < 0
      · exact neg no many h0 hk
      · have he1 := hf.each no.toNat (by omega)
        have hr := ih (b.par.getD no.toNat 0) (b.forks.getD no.toNat 0) (by omega) (by omega) ⟨by omega, by omega⟩
        have h1 := par_get hf h0 hn
        have h2 := forks_get hf h0 hn
        have h3 := at_get h0 hn
        have hc := with_check hf hb (b.par.getD no.toNat 0) (b.forks.getD no.toNat 0).toNat (by omega)
        have hl := with_sized hf hb hw.b (b.par.getD no.toNat 0) (b.forks.getD no.toNat 0).toNat (by omega)
        have hal := at_wide hw no
        have htl : ((b.at no).take many.toNat).length ≤ (b.at no).length := by rw [List.length_take]; omega
        unfold lenM at hk
        rw [if_neg h0] at hk
        rw [with_pos hf h0 hn]
        generalize withM b (b.par.getD no.toNat 0) (b.forks.getD no.toNat 0).toNat = R at *
        obtain ⟨l, e⟩ := R
        simp only at hr hc hl ⊢
        by_cases hee : e = 0
        · subst hee
          have hrec := ref54_recordAll l ((b.at no).take many.toNat) (hc rfl) (hl rfl) (by omega)
          rw [if_pos rfl]
          unfold brD at hrec
          rw [List.map_take] at hrec
          refine exPure_sound (E := envOf Try.prog tt Try.f48.ntmps) (envOf_ok ttok mixed) Try.func48 (by rfl) rfl rfl (Nat.le_of_ble_eq_true rfl) ?_
          repeat' ((conv => whnf); first | with_reducible refine Dec.t (show true = true from rfl) ?_ | with_reducible refine Dec.t (show false = false from rfl) ?_ | with_reducible refine Dec.f (show ¬ (true = false) by decide) ?_ | with_reducible refine Dec.f (show ¬ (false = true) by decide) ?_ | refine Dec.t (by omega) ?_ | refine Dec.f (by omega) ?_ | refine Dec.split (fun _ => ?_) (fun _ => ?_) | refine Wr.id (by omega) ?_ | refine Chk.mk (by first | omega | exact rfl | (simp only [List.length_map]; omega) | (simp [room]; done) | (simp [room]; omega) | (simp [dropL, room]; done) | (simp [dropL, room]; omega)) ?_ | refine Nam.mk (List.length_map _) ?_ | refine Prep.skip ?_ | refine Eith.l ?_ | refine chk_t (x := D.flat _) (by assumption) ?_ | refine br_mk (fun _ => ?_) (fun _ => ?_) | refine nthK_mk h1 ?_ | refine nthK_mk h2 ?_ | refine nthK_mk h3 ?_ | refine ACall.of (hr) ?_ | refine APCall.of (hr) ?_ | refine ACall.of (hrec) ?_ | refine APCall.of (hrec) ?_ | fail)
          all_goals first | (exfalso; omega) | skip
          all_goals (conv => whnf)
          all_goals first | exact ⟨DLe.refl _, DLe.refl _, rfl⟩
        · rw [if_neg hee]
          refine exPure_sound (E := envOf Try.prog tt Try.f48.ntmps) (envOf_ok ttok mixed) Try.func48 (by rfl) rfl rfl (Nat.le_of_ble_eq_true rfl) ?_
          repeat' ((conv => whnf); first | with_reducible refine Dec.t (show true = true from rfl) ?_ | with_reducible refine Dec.t (show false = false from rfl) ?_ | with_reducible refine Dec.f (show ¬ (true = false) by decide) ?_ | with_reducible refine Dec.f (show ¬ (false = true) by decide) ?_ | refine Dec.t (by omega) ?_ | refine Dec.f (by omega) ?_ | refine Dec.split (fun _ => ?_) (fun _ => ?_) | refine Wr.id (by omega) ?_ | refine Chk.mk (by first | omega | exact rfl | (simp only [List.length_map]; omega) | (simp [room]; done) | (simp [room]; omega) | (simp [dropL, room]; done) | (simp [dropL, room]; omega)) ?_ | refine Nam.mk (List.length_map _) ?_ | refine Prep.skip ?_ | refine Eith.l ?_ | refine chk_t (x := D.flat _) (by assumption) ?_ | refine br_mk (fun _ => ?_) (fun _ => ?_) | refine nthK_mk h1 ?_ | refine nthK_mk h2 ?_ | refine nthK_mk h3 ?_ | refine ACall.of (hr) ?_ | refine APCall.of (hr) ?_ | fail)
          all_goals first | (exfalso; omega) | skip
          all_goals (conv => whnf)
          all_goals first | exact ⟨DLe.nil _ _ _, DLe.refl _, rfl⟩
  exact fun no many => key _ no many (Nat.le_refl _)
end Go.PM

