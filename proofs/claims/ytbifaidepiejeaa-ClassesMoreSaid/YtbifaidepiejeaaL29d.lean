/- The law ClassesMore, its contract. -/
import Derived.Test.YtbifaidepiejeaaLaw29c
import Derived.Test.YtbifaidepiejeaaRead29
namespace Go.PM
open Go.Proofs
set_option maxRecDepth 10000
set_option maxHeartbeats 1000000

theorem fitsM_true {w : AWorld} {s : Supply} {r : Request} {known : Int} (h : (fitsM w s r known).1 = true) : s.ok ∧ r.ok ∧ couldM w s r ∧ ¬ refusedM w (lookM s r) known := by
  unfold fitsM at h
  split at h
  · rename_i hc
    refine ⟨hc.1, hc.2.1, hc.2.2, fun hr => ?_⟩
    simp [hr] at h
  · cases h

def moreS (s : Supply) (a b : Int) : Supply := { s with ready := if s.ready - a > 0 then s.ready - a else 0, expiry := if s.expiry + b < 1024 then s.expiry + b else 1024 }
theorem law29_more {w : AWorld} {s : Supply} {r : Request} {known : Int} (x : Swap) {a b : Int} (ha : 0 ≤ a ∧ a < 256) (hb : 0 ≤ b ∧ b < 256) (h : (fitsM w s r known).1 = true) :
    (fitsM { w with swaps := w.swaps ++ [x] } (moreS s a b) r known).1 = true := by
  obtain ⟨h1, h2, ⟨c1, c2, c3⟩, h4⟩ := fitsM_true h
  have k1 : (moreS s a b).ok := by
    unfold Supply.ok at h1
    unfold Supply.ok moreS
    simp only
    refine ⟨by omega, by omega, by omega, by omega, by omega, by omega, ?_, ?_, ?_, ?_, by omega, by omega⟩ <;> split <;> omega
  have k2 : couldM { w with swaps := w.swaps ++ [x] } (moreS s a b) r := by
    unfold Supply.ok at h1
    unfold Request.ok at h2
    refine ⟨?_, ?_, ?_⟩
    · unfold moreS; simp only; split <;> omega
    · unfold moreS; simp only; split <;> omega
    · rcases c3 with ⟨y, hy, e⟩ | e
      · exact .inl ⟨y, List.mem_append_left _ hy, e⟩
      · exact .inr e
  have k3 : refusedM { w with swaps := w.swaps ++ [x] } (lookM (moreS s a b) r) known ↔ refusedM w (lookM s r) known := Iff.rfl
  unfold fitsM
  rw [if_pos ⟨k1, h2, k2⟩]
  have h4 : ¬ refusedM { w with swaps := w.swaps ++ [x] } (lookM (moreS s a b) r) known := h4
  show (!decide _) = true
  rw [decide_eq_false h4]; rfl

theorem law29_More (w : AWorld) (s : Supply) (r : Request) (known : Int) (x : Swap) (a b : Int) (ha : 0 ≤ a ∧ a < 256) (hb : 0 ≤ b ∧ b < 256) (hu : w.flat) : CallP Try.prog 6 [.d w.d, .d s.d, .d r.d, .d (I known), .d x.d, .d (.i .u8 a), .d (.i .u8 b)] (retD [.b true]) := by
  obtain ⟨e1, e2, e3, e4, e5, e6, e7, e9, e10⟩ := hu
  refine exPure_sound (E := envOf Try.prog tt Try.f6.ntmps) (envOf_ok ttok mixed) Try.func6 (by rfl) rfl rfl (Nat.le_of_ble_eq_true rfl) ?_
  by_cases hF : w.facts.length ≤ 30 ∧ w.swaps.length ≤ 12 ∧ ([] : List Supply).length ≤ 8 ∧ ([] : List Request).length ≤ 8
  · obtain ⟨h1, h2, _, _⟩ := hF
    repeat' ((conv => whnf); first | refine Dec.t (by omega) ?_ | refine Dec.f (by omega) ?_ | refine Dec.split (fun _ => ?_) (fun _ => ?_) | refine Wr.id (by omega) ?_ | refine Chk.mk (by first | omega | exact rfl | (simp only [List.length_map]; omega) | (simp [room]; done) | (simp [room]; omega)) ?_ | refine Nam.mk (List.length_map _) ?_ | refine Prep.skip ?_ | refine chk_t (by assumption) ?_ | refine br_t (by assumption) ?_ | refine br_f (by assumption) ?_ | refine br_mk (fun _ => ?_) (fun _ => ?_) | refine ACall.of law29_sane ?_ | fail)
    conv => whnf
    refine ACall.leB ?_ (ref29_Few w [] []) (fun _ => ?_) (fun h => absurd (of_decide_eq_false h) (by simp; omega))
    · exact ⟨VLe.refl _, VLe.d (DLe.nil _ _ _), VLe.d (DLe.nil _ _ _), rfl⟩
    have hok : (fitsM w s r known).1 = true → (-100 ≤ s.ready ∧ s.ready ≤ 2000 ∧ -100 ≤ s.expiry ∧ s.expiry ≤ 2000) := fun hf => by
      obtain ⟨k1, _⟩ := fitsM_true hf
      unfold Supply.ok at k1
      omega
    cases hf : (fitsM w s r known).1 with
    | false =>
      have hc := classes_Fits w s r known (by omega) (by omega)
      rw [hf] at hc
      repeat' ((conv => whnf); first | refine Dec.t (by omega) ?_ | refine Dec.f (by omega) ?_ | refine Dec.split (fun _ => ?_) (fun _ => ?_) | refine Wr.id (by omega) ?_ | refine Chk.mk (by first | omega | exact rfl | (simp only [List.length_map]; omega) | (simp [room]; done) | (simp [room]; omega)) ?_ | refine Nam.mk (List.length_map _) ?_ | refine Prep.skip ?_ | refine chk_t (by assumption) ?_ | refine br_t (by assumption) ?_ | refine br_f (by assumption) ?_ | refine br_mk (fun _ => ?_) (fun _ => ?_) | refine ACall.of hc ?_ | fail)
      all_goals (conv => whnf)
      exact (by repeat (first | exact trivial | exact rfl | exact DLe.refl _ | exact DLe.full _ _ _ | exact DLe.nil _ _ _ | exact VLe.refl _ | refine And.intro ?_ ?_ | refine VLe.d ?_ | refine DLe.agg ?_))
    | true =>
      have hok := hok hf
      have hc := classes_Fits w s r known (by omega) (by omega)
      rw [hf] at hc
      have hc2 := classes_Fits { w with swaps := w.swaps ++ [x] } (moreS s a b) r known (by simp; omega) (by simp only; omega)
      rw [law29_more x ha hb hf] at hc2
      repeat' ((conv => whnf); first | refine Dec.t (by omega) ?_ | refine Dec.f (by omega) ?_ | refine Dec.split (fun _ => ?_) (fun _ => ?_) | refine Wr.id (by omega) ?_ | refine Chk.mk (by first | omega | exact rfl | (simp only [List.length_map]; omega) | (simp [room]; done) | (simp [room]; omega)) ?_ | refine Nam.mk (List.length_map _) ?_ | refine Prep.skip ?_ | refine chk_t (by assumption) ?_ | refine br_t (by assumption) ?_ | refine br_f (by assumption) ?_ | refine br_mk (fun _ => ?_) (fun _ => ?_) | refine ACall.of hc ?_ | fail)
      conv => whnf
      refine ACall.lift ?_
      repeat' ((conv => whnf); first | refine Dec.t (by omega) ?_ | refine Dec.f (by omega) ?_ | refine Dec.split (fun _ => ?_) (fun _ => ?_) | refine Wr.id (by omega) ?_ | refine Chk.mk (by first | omega | exact rfl | (simp only [List.length_map]; omega) | (simp [room]; done) | (simp [room]; omega)) ?_ | refine Nam.mk (List.length_map _) ?_ | refine Prep.skip ?_ | refine chk_t (by assumption) ?_ | refine br_t (by assumption) ?_ | refine br_f (by assumption) ?_ | refine br_mk (fun _ => ?_) (fun _ => ?_) | refine Chk.mk ⟨rfl, by simp [dropL]⟩ ?_ | refine Nam.mk (y := (w.swaps ++ [x]).map Swap.d) (by rw [List.map_append]; exact List.take_of_length_le (by simp [dropL])) ?_ | fail)
      conv => whnf
      refine ACall.le ?_ hc2 ?_
      · exact ⟨VLe.d (DLe.agg ⟨DLe.refl _, DLe.refl _, DLe.refl _, DLe.refl _, DLe.refl _, DLe.refl _, DLe.refl _, DLe.refl _, DLe.refl _, DLe.refl _, DLe.refl _, rfl⟩), VLe.refl _, VLe.refl _, VLe.refl _, rfl⟩
      repeat' ((conv => whnf); first | refine Dec.t (by omega) ?_ | refine Dec.f (by omega) ?_ | refine Dec.split (fun _ => ?_) (fun _ => ?_) | refine Wr.id (by omega) ?_ | refine Chk.mk (by first | omega | exact rfl | (simp only [List.length_map]; omega) | (simp [room]; done) | (simp [room]; omega)) ?_ | refine Nam.mk (List.length_map _) ?_ | refine Prep.skip ?_ | refine chk_t (by assumption) ?_ | refine br_t (by assumption) ?_ | refine br_f (by assumption) ?_ | refine br_mk (fun _ => ?_) (fun _ => ?_) | fail)
      conv => whnf
      exact (by repeat (first | exact trivial | exact rfl | exact DLe.refl _ | exact DLe.full _ _ _ | exact DLe.nil _ _ _ | exact VLe.refl _ | refine And.intro ?_ ?_ | refine VLe.d ?_ | refine DLe.agg ?_))
  · repeat' ((conv => whnf); first | refine Dec.t (by omega) ?_ | refine Dec.f (by omega) ?_ | refine Dec.split (fun _ => ?_) (fun _ => ?_) | refine Wr.id (by omega) ?_ | refine Chk.mk (by first | omega | exact rfl | (simp only [List.length_map]; omega) | (simp [room]; done) | (simp [room]; omega)) ?_ | refine Nam.mk (List.length_map _) ?_ | refine Prep.skip ?_ | refine chk_t (by assumption) ?_ | refine br_t (by assumption) ?_ | refine br_f (by assumption) ?_ | refine br_mk (fun _ => ?_) (fun _ => ?_) | refine ACall.of law29_sane ?_ | fail)
    conv => whnf
    refine ACall.leB ?_ (ref29_Few w [] []) (fun h => absurd (of_decide_eq_true h) hF) (fun _ => ?_)
    · exact ⟨VLe.refl _, VLe.d (DLe.nil _ _ _), VLe.d (DLe.nil _ _ _), rfl⟩
    repeat' ((conv => whnf); first | refine Dec.t (by omega) ?_ | refine Dec.f (by omega) ?_ | refine Dec.split (fun _ => ?_) (fun _ => ?_) | refine Wr.id (by omega) ?_ | refine Chk.mk (by first | omega | exact rfl | (simp only [List.length_map]; omega) | (simp [room]; done) | (simp [room]; omega)) ?_ | refine Nam.mk (List.length_map _) ?_ | refine Prep.skip ?_ | refine chk_t (by assumption) ?_ | refine br_t (by assumption) ?_ | refine br_f (by assumption) ?_ | refine br_mk (fun _ => ?_) (fun _ => ?_))
    all_goals (conv => whnf)
    exact (by repeat (first | exact trivial | exact rfl | exact DLe.refl _ | exact DLe.full _ _ _ | exact DLe.nil _ _ _ | exact VLe.refl _ | refine And.intro ?_ ?_ | refine VLe.d ?_ | refine DLe.agg ?_))
end Go.PM

