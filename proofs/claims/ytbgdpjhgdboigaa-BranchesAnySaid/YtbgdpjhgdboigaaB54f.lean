/- Branches: the facts of a branch, the program's way. -/
import Derived.Test.YtbgdpjhgdboigaaB54e
namespace Go.PM
open Go.Proofs
set_option maxRecDepth 10000
set_option maxHeartbeats 8000000

def Hof (b : Brn) : Hp := [.vard b.d.cells, .var [.fn 65 [.ptr 0 0 0 0, .ptr 1 0 0 0]]]
theorem branches_of1 (b : Brn) (hf : b.formed) (hb : checkM b.base = 0) (hw : b.wide) : ∀ (no many : Int), no < b.br.length → 0 ≤ many ∧ many ≤ lenM b no →
    CallK Try.prog 65 [.d (I no), .d (I many), .ptr 0 0 0 0, .ptr 1 0 0 0] (List.range (Hof b).length) (Hof b) (retD [SL 8 ((withM b no many.toNat).1.map Fact.d), I (withM b no many.toNat).2]) := by
  have key : ∀ (m : Nat) (no many : Int), (no + 1).toNat ≤ m → no < b.br.length → 0 ≤ many ∧ many ≤ lenM b no →
      CallK Try.prog 65 [.d (I no), .d (I many), .ptr 0 0 0 0, .ptr 1 0 0 0] (List.range (Hof b).length) (Hof b) (retD [SL 8 ((withM b no many.toNat).1.map Fact.d), I (withM b no many.toNat).2]) := by
    have neg : ∀ (no many : Int), no < 0 → 0 ≤ many ∧ many ≤ lenM b no → CallK Try.prog 65 [.d (I no), .d (I many), .ptr 0 0 0 0, .ptr 1 0 0 0] (List.range (Hof b).length) (Hof b) (retD [SL 8 ((withM b no many.toNat).1.map Fact.d), I (withM b no many.toNat).2]) := by
      intro no many h0 hm
      rw [with_neg h0]
      unfold lenM at hm
      rw [if_pos h0] at hm
      have htt := hw.b
      have hcp := copied_Fact (b.base.take many.toNat) (by rw [List.length_take]; omega)
      rw [List.map_take] at hcp
      refine exKeep_sound (E := envOf Try.prog tt Try.f65.ntmps) (envOf_ok ttok mixed) Try.func65 (by rfl) rfl rfl rfl rfl (Nat.le_of_ble_eq_true rfl) ?_
      repeat' ((conv => whnf); first | with_reducible refine Dec.t (show true = true from rfl) ?_ | with_reducible refine Dec.t (show false = false from rfl) ?_ | with_reducible refine Dec.f (show ¬ (true = false) by decide) ?_ | with_reducible refine Dec.f (show ¬ (false = true) by decide) ?_ | refine Dec.t (by omega) ?_ | refine Dec.f (by omega) ?_ | refine Dec.split (fun _ => ?_) (fun _ => ?_) | refine Wr.id (by omega) ?_ | refine Chk.mk (by first | omega | exact rfl | (simp only [List.length_map]; omega) | (simp [room]; done) | (simp [room]; omega) | (simp [dropL, room]; done) | (simp [dropL, room]; omega)) ?_ | refine Nam.mk (List.length_map _) ?_ | refine Prep.skip ?_ | refine Eith.l ?_ | refine chk_t (x := D.flat _) (by assumption) ?_ | refine br_mk (fun _ => ?_) (fun _ => ?_) | refine ACall.ofRow hcp ?_ | refine APCall.ofRow hcp ?_ | fail)
      all_goals first | (exfalso; omega) | skip
      all_goals (conv => whnf)
      rw [List.map_take]
      exact Nam.mk (whole rfl) ⟨⟨DLe.refl _, DLe.refl _, rfl⟩, rfl⟩
    intro m
    induction m with
    | zero => intro no many hm; exact fun _ => neg no many (by omega)
    | succ m ih =>
      intro no many hm hn hk
      by_cases h0 : no < 0
      · exact neg no many h0 hk
      · have he1 := hf.each no.toNat (by omega)
        have hr := ih (b.par.getD no.toNat 0) (b.forks.getD no.toNat 0) (by omega) (by omega) ⟨by omega, by omega⟩
        have h1 := par_get hf h0 hn
        have h2 := forks_get hf h0 hn
        have h3 := at_get h0 hn
        have hc := with_check hf hb (b.par.getD no.toNat 0) (b.forks.getD no.toNat 0).toNat (by omega)
        have hl := with_sized hf hb hw.b (b.par.getD no.toNat 0) (b.forks.getD no.toNat 0).toNat (by omega)
        have hal := at_wide hw no
        have htl : ((b.at no).take many.toNat).length ≤ (b.at no).length := by rw [List.length_take]; omega
        unfold lenM at hk
        rw [if_neg h0] at hk
        rw [with_pos hf h0 hn]
        generalize withM b (b.par.getD no.toNat 0) (b.forks.getD no.toNat 0).toNat = R at *
        obtain ⟨l, e⟩ := R
        simp only at hr hc hl ⊢
        by_cases hee : e = 0
        · subst hee
          have hrec := branches_record l ((b.at no).take many.toNat) (hc rfl) (hl rfl) (by omega)
          rw [if_pos rfl]
          unfold brD at hrec
          rw [List.map_take] at hrec
          refine exKeep_sound (E := envOf Try.prog tt Try.f65.ntmps) (envOf_ok ttok mixed) Try.func65 (by rfl) rfl rfl rfl rfl (Nat.le_of_ble_eq_true rfl) ?_
          repeat' ((conv => whnf); first | with_reducible refine Dec.t (show true = true from rfl) ?_ | with_reducible refine Dec.t (show false = false from rfl) ?_ | with_reducible refine Dec.f (show ¬ (true = false) by decide) ?_ | with_reducible refine Dec.f (show ¬ (false = true) by decide) ?_ | refine Dec.t (by omega) ?_ | refine Dec.f (by omega) ?_ | refine Dec.split (fun _ => ?_) (fun _ => ?_) | refine Wr.id (by omega) ?_ | refine Chk.mk (by first | omega | exact rfl | (simp only [List.length_map]; omega) | (simp [room]; done) | (simp [room]; omega) | (simp [dropL, room]; done) | (simp [dropL, room]; omega)) ?_ | refine Nam.mk (List.length_map _) ?_ | refine Prep.skip ?_ | refine Eith.l ?_ | refine chk_t (x := D.flat _) (by assumption) ?_ | refine br_mk (fun _ => ?_) (fun _ => ?_) | refine nthK_mk h1 ?_ | refine nthK_mk h2 ?_ | refine nthK_mk h3 ?_ | refine APCall.keep [0, 1] rfl rfl hr ?_ | refine ACall.of (hrec) ?_ | refine APCall.of (hrec) ?_ | fail)
          all_goals first | (exfalso; omega) | skip
          all_goals (conv => whnf)
          all_goals first | exact ⟨⟨DLe.refl _, DLe.refl _, rfl⟩, rfl⟩
        · rw [if_neg hee]
          refine exKeep_sound (E := envOf Try.prog tt Try.f65.ntmps) (envOf_ok ttok mixed) Try.func65 (by rfl) rfl rfl rfl rfl (Nat.le_of_ble_eq_true rfl) ?_
          repeat' ((conv => whnf); first | with_reducible refine Dec.t (show true = true from rfl) ?_ | with_reducible refine Dec.t (show false = false from rfl) ?_ | with_reducible refine Dec.f (show ¬ (true = false) by decide) ?_ | with_reducible refine Dec.f (show ¬ (false = true) by decide) ?_ | refine Dec.t (by omega) ?_ | refine Dec.f (by omega) ?_ | refine Dec.split (fun _ => ?_) (fun _ => ?_) | refine Wr.id (by omega) ?_ | refine Chk.mk (by first | omega | exact rfl | (simp only [List.length_map]; omega) | (simp [room]; done) | (simp [room]; omega) | (simp [dropL, room]; done) | (simp [dropL, room]; omega)) ?_ | refine Nam.mk (List.length_map _) ?_ | refine Prep.skip ?_ | refine Eith.l ?_ | refine chk_t (x := D.flat _) (by assumption) ?_ | refine br_mk (fun _ => ?_) (fun _ => ?_) | refine nthK_mk h1 ?_ | refine nthK_mk h2 ?_ | refine nthK_mk h3 ?_ | refine APCall.keep [0, 1] rfl rfl hr ?_ | fail)
          all_goals first | (exfalso; omega) | skip
          all_goals (conv => whnf)
          all_goals first | exact ⟨⟨DLe.nil _ _ _, DLe.refl _, rfl⟩, rfl⟩
  exact fun no many => key _ no many (Nat.le_refl _)
theorem lenM_get {b : Brn} {no : Int} (many : Nat) (h : many = lenM b no) : withM b no many = withM b no (lenM b no) := by rw [h]
theorem branches_of (b : Brn) (hf : b.formed) (hb : checkM b.base = 0) (hw : b.wide) (no : Int) (hn : no < b.br.length) :
    CallP Try.prog 47 [.d b.d, .d (I no)] (retD [SL 8 ((withM b no (lenM b no)).1.map Fact.d), I (withM b no (lenM b no)).2]) := by
  have hl := branches_length b no hn
  have h1 := branches_of1 b hf hb hw no (lenM b no) hn ⟨by omega, Int.le_refl _⟩
  rw [Int.toNat_natCast] at h1
  refine exPure_sound (E := envOf Try.prog tt Try.f47.ntmps) (envOf_ok ttok mixed) Try.func47 (by rfl) rfl rfl (Nat.le_of_ble_eq_true rfl) ?_
  repeat' ((conv => whnf); first | with_reducible refine Dec.t (show true = true from rfl) ?_ | with_reducible refine Dec.t (show false = false from rfl) ?_ | with_reducible refine Dec.f (show ¬ (true = false) by decide) ?_ | with_reducible refine Dec.f (show ¬ (false = true) by decide) ?_ | refine Dec.t (by omega) ?_ | refine Dec.f (by omega) ?_ | refine Dec.split (fun _ => ?_) (fun _ => ?_) | refine Wr.id (by omega) ?_ | refine Chk.mk (by first | omega | exact rfl | (simp only [List.length_map]; omega) | (simp [room]; done) | (simp [room]; omega) | (simp [dropL, room]; done) | (simp [dropL, room]; omega)) ?_ | refine Nam.mk (List.length_map _) ?_ | refine Prep.skip ?_ | refine Eith.l ?_ | refine chk_t (x := D.flat _) (by assumption) ?_ | refine br_mk (fun _ => ?_) (fun _ => ?_) | refine ACall.of (hl) ?_ | refine APCall.of (hl) ?_ | refine APCall.keep [0, 1] rfl rfl h1 ?_ | fail)
  all_goals first | (exfalso; omega) | skip
  all_goals (conv => whnf)
  all_goals first | exact ⟨DLe.refl _, DLe.refl _, rfl⟩
end Go.PM

