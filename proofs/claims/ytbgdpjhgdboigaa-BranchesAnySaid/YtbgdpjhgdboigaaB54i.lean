/- Branches: Fork. -/
import Derived.Test.YtbgdpjhgdboigaaB54h
namespace Go.PM
open Go.Proofs
set_option maxRecDepth 10000
set_option maxHeartbeats 8000000

def growM (b : Brn) (no : Int) (cs : List Chg) : Brn := ⟨b.base, b.br.set no.toNat (b.at no ++ cs), b.par, b.forks, b.done⟩
def forkX (b : Brn) (parent : Int) : Brn := ⟨b.base, b.br ++ [[]], b.par ++ [parent], b.forks ++ [(lenM b parent : Int)], b.done ++ [false]⟩
def forkM (b : Brn) (parent : Int) : Brn × Int × Int :=
  if b.valid then (if parent = -1 ∨ openP b parent then (if b.br.length = 64 then (Brn.zero, 0, 2) else (forkX b parent, b.br.length, 0)) else (Brn.zero, 0, 1)) else (Brn.zero, 0, 540)
theorem brs_snoc (l : List (List Chg)) : DLe (.sl 1 false (l.map brD ++ [.sl 0 true []])) (SL 1 ((l ++ [[]]).map brD)) := by
  refine DLe.sl ⟨by simp, fun j x y hx hy => ?_⟩
  rw [List.map_append] at hy
  by_cases hj : j < l.length
  · rw [List.getElem?_append_left (by simpa using hj)] at hx hy
    rw [hx] at hy; cases hy
    exact DLes.refl _
  · rw [List.getElem?_append_right (by simpa using hj)] at hx hy
    cases hh : j - (l.map brD).length with
    | zero =>
      rw [hh] at hx hy
      cases hx; cases hy
      exact ⟨DLe.nil _ _ _, rfl⟩
    | succ k => rw [hh] at hx; simp at hx
theorem snoc_app (l : List D) (x : D) : ((dropL l 0 ++ [x]).drop 0).take (l.length + [x].length) = l ++ [x] := whole (l := dropL l 0 ++ [x]) (by simp [dropL])
theorem snoc_app' (l : List D) (x : D) : ((dropL ([] ++ l) 0 ++ [x]).drop 0).take (([] : List D).length + l.length + [x].length) = l ++ [x] := whole (l := dropL ([] ++ l) 0 ++ [x]) (by simp [dropL])
theorem snoc_le {α : Type} (f : α → D) (l : List α) (x : α) : DLe (.sl 1 false (l.map f ++ [f x])) (SL 1 ((l ++ [x]).map f)) := by rw [List.map_append]; exact DLe.refl _
theorem branches_Fork (b : Brn) (parent : Int) (hW : b.wide) : CallP Try.prog 14 [.d b.d, .d (I parent)] (retD [(forkM b parent).1.d, I (forkM b parent).2.1, I (forkM b parent).2.2]) := by
  have hC := branches_check b hW
  unfold forkM
  refine exPure_sound (E := envOf Try.prog tt Try.f14.ntmps) (envOf_ok ttok mixed) Try.func14 (by rfl) rfl rfl (Nat.le_of_ble_eq_true rfl) ?_
  by_cases hv : b.valid
  · rw [if_pos hv] at hC ⊢
    have hfd := hv.1.d
    have hfn := hv.1.n
    have hfp := hv.1.p
    have hff := hv.1.f
    have hO := branches_open b parent (by omega)
    by_cases ho : parent = -1 ∨ openP b parent
    · have hpl : parent < b.br.length := ho.elim (fun h => by omega) fun h => h.2.1
      have hl := branches_length b parent hpl
      rw [if_pos ho]
      by_cases h64 : b.br.length = 64
      · rw [if_pos h64]
        by_cases hp : parent = -1
        · repeat' ((conv => whnf); first | with_reducible refine Dec.t (show true = true from rfl) ?_ | with_reducible refine Dec.t (show false = false from rfl) ?_ | with_reducible refine Dec.f (show ¬ (true = false) by decide) ?_ | with_reducible refine Dec.f (show ¬ (false = true) by decide) ?_ | refine Dec.t (by omega) ?_ | refine Dec.f (by omega) ?_ | refine Dec.split (fun _ => ?_) (fun _ => ?_) | refine Wr.id (by omega) ?_ | refine Chk.mk (by first | omega | exact rfl | (simp only [List.length_map]; omega) | (simp [room]; done) | (simp [room]; omega) | (simp [dropL, room]; done) | (simp [dropL, room]; omega)) ?_ | refine Nam.mk (List.length_map _) ?_ | refine Prep.skip ?_ | refine Eith.l ?_ | refine chk_t (x := D.flat _) (by assumption) ?_ | refine br_mk (fun _ => ?_) (fun _ => ?_) | refine ACall.of (hC) ?_ | refine APCall.of (hC) ?_ | refine ACall.of (hO) ?_ | refine APCall.of (hO) ?_ | fail)
          all_goals first | (exfalso; omega) | skip
          all_goals (conv => whnf)
          all_goals first | exact ⟨zeroBrn, DLe.refl _, DLe.refl _, rfl⟩
        · rw [decide_eq_true (ho.resolve_left hp)] at hO
          repeat' ((conv => whnf); first | with_reducible refine Dec.t (show true = true from rfl) ?_ | with_reducible refine Dec.t (show false = false from rfl) ?_ | with_reducible refine Dec.f (show ¬ (true = false) by decide) ?_ | with_reducible refine Dec.f (show ¬ (false = true) by decide) ?_ | refine Dec.t (by omega) ?_ | refine Dec.f (by omega) ?_ | refine Dec.split (fun _ => ?_) (fun _ => ?_) | refine Wr.id (by omega) ?_ | refine Chk.mk (by first | omega | exact rfl | (simp only [List.length_map]; omega) | (simp [room]; done) | (simp [room]; omega) | (simp [dropL, room]; done) | (simp [dropL, room]; omega)) ?_ | refine Nam.mk (List.length_map _) ?_ | refine Prep.skip ?_ | refine Eith.l ?_ | refine chk_t (x := D.flat _) (by assumption) ?_ | refine br_mk (fun _ => ?_) (fun _ => ?_) | refine ACall.of (hC) ?_ | refine APCall.of (hC) ?_ | refine ACall.of (hO) ?_ | refine APCall.of (hO) ?_ | fail)
          all_goals first | (exfalso; omega) | skip
          all_goals (conv => whnf)
          all_goals first | exact ⟨zeroBrn, DLe.refl _, DLe.refl _, rfl⟩
      · rw [if_neg h64]
        have c1 := copied_Chgs b.br (by omega)
        have c2 := copied_int b.par (by omega)
        have c3 := copied_int b.forks (by omega)
        have c4 := copied_bool b.done (by omega)
        by_cases hp : parent = -1
        · repeat' ((conv => whnf); first | with_reducible refine Dec.t (show true = true from rfl) ?_ | with_reducible refine Dec.t (show false = false from rfl) ?_ | with_reducible refine Dec.f (show ¬ (true = false) by decide) ?_ | with_reducible refine Dec.f (show ¬ (false = true) by decide) ?_ | refine Dec.t (by omega) ?_ | refine Dec.f (by omega) ?_ | refine Dec.split (fun _ => ?_) (fun _ => ?_) | refine Wr.id (by omega) ?_ | refine Chk.mk (by first | omega | exact rfl | (simp only [List.length_map]; omega) | (simp [room]; done) | (simp [room]; omega) | (simp [dropL, room]; done) | (simp [dropL, room]; omega)) ?_ | refine Nam.mk (List.length_map _) ?_ | refine Prep.skip ?_ | refine Eith.l ?_ | refine chk_t (x := D.flat _) (by assumption) ?_ | refine br_mk (fun _ => ?_) (fun _ => ?_) | refine ACall.of (hC) ?_ | refine APCall.of (hC) ?_ | refine ACall.of (hO) ?_ | refine APCall.of (hO) ?_ | refine ACall.of (hl) ?_ | refine APCall.of (hl) ?_ | refine ACall.ofRow c1 ?_ | refine ACall.ofRow c2 ?_ | refine ACall.ofRow c3 ?_ | refine ACall.ofRow c4 ?_ | refine APCall.ofRow c1 ?_ | refine APCall.ofRow c2 ?_ | refine APCall.ofRow c3 ?_ | refine APCall.ofRow c4 ?_ | refine Nam.mk (snoc_app _ _) ?_ | fail)
          all_goals first | (exfalso; omega) | skip
          all_goals (conv => whnf)
          all_goals first | exact ⟨DLe.agg ⟨DLe.refl _, brs_snoc _, snoc_le _ _ _, snoc_le _ _ _, snoc_le _ _ _, rfl⟩, DLe.refl _, DLe.refl _, rfl⟩
        · rw [decide_eq_true (ho.resolve_left hp)] at hO
          repeat' ((conv => whnf); first | with_reducible refine Dec.t (show true = true from rfl) ?_ | with_reducible refine Dec.t (show false = false from rfl) ?_ | with_reducible refine Dec.f (show ¬ (true = false) by decide) ?_ | with_reducible refine Dec.f (show ¬ (false = true) by decide) ?_ | refine Dec.t (by omega) ?_ | refine Dec.f (by omega) ?_ | refine Dec.split (fun _ => ?_) (fun _ => ?_) | refine Wr.id (by omega) ?_ | refine Chk.mk (by first | omega | exact rfl | (simp only [List.length_map]; omega) | (simp [room]; done) | (simp [room]; omega) | (simp [dropL, room]; done) | (simp [dropL, room]; omega)) ?_ | refine Nam.mk (List.length_map _) ?_ | refine Prep.skip ?_ | refine Eith.l ?_ | refine chk_t (x := D.flat _) (by assumption) ?_ | refine br_mk (fun _ => ?_) (fun _ => ?_) | refine ACall.of (hC) ?_ | refine APCall.of (hC) ?_ | refine ACall.of (hO) ?_ | refine APCall.of (hO) ?_ | refine ACall.of (hl) ?_ | refine APCall.of (hl) ?_ | refine ACall.ofRow c1 ?_ | refine ACall.ofRow c2 ?_ | refine ACall.ofRow c3 ?_ | refine ACall.ofRow c4 ?_ | refine APCall.ofRow c1 ?_ | refine APCall.ofRow c2 ?_ | refine APCall.ofRow c3 ?_ | refine APCall.ofRow c4 ?_ | refine Nam.mk (snoc_app _ _) ?_ | fail)
          all_goals first | (exfalso; omega) | skip
          all_goals (conv => whnf)
          all_goals first | exact ⟨DLe.agg ⟨DLe.refl _, brs_snoc _, snoc_le _ _ _, snoc_le _ _ _, snoc_le _ _ _, rfl⟩, DLe.refl _, DLe.refl _, rfl⟩
    · rw [if_neg ho]
      have hn1 : ¬ parent = -1 := fun h => ho (.inl h)
      rw [decide_eq_false (fun h => ho (.inr h))] at hO
      repeat' ((conv => whnf); first | with_reducible refine Dec.t (show true = true from rfl) ?_ | with_reducible refine Dec.t (show false = false from rfl) ?_ | with_reducible refine Dec.f (show ¬ (true = false) by decide) ?_ | with_reducible refine Dec.f (show ¬ (false = true) by decide) ?_ | refine Dec.t (by omega) ?_ | refine Dec.f (by omega) ?_ | refine Dec.split (fun _ => ?_) (fun _ => ?_) | refine Wr.id (by omega) ?_ | refine Chk.mk (by first | omega | exact rfl | (simp only [List.length_map]; omega) | (simp [room]; done) | (simp [room]; omega) | (simp [dropL, room]; done) | (simp [dropL, room]; omega)) ?_ | refine Nam.mk (List.length_map _) ?_ | refine Prep.skip ?_ | refine Eith.l ?_ | refine chk_t (x := D.flat _) (by assumption) ?_ | refine br_mk (fun _ => ?_) (fun _ => ?_) | refine ACall.of (hC) ?_ | refine APCall.of (hC) ?_ | refine ACall.of (hO) ?_ | refine APCall.of (hO) ?_ | fail)
      all_goals first | (exfalso; omega) | skip
      all_goals (conv => whnf)
      all_goals first | exact ⟨zeroBrn, DLe.refl _, DLe.refl _, rfl⟩
  · rw [if_neg hv] at hC ⊢
    repeat' ((conv => whnf); first | with_reducible refine Dec.t (show true = true from rfl) ?_ | with_reducible refine Dec.t (show false = false from rfl) ?_ | with_reducible refine Dec.f (show ¬ (true = false) by decide) ?_ | with_reducible refine Dec.f (show ¬ (false = true) by decide) ?_ | refine Dec.t (by omega) ?_ | refine Dec.f (by omega) ?_ | refine Dec.split (fun _ => ?_) (fun _ => ?_) | refine Wr.id (by omega) ?_ | refine Chk.mk (by first | omega | exact rfl | (simp only [List.length_map]; omega) | (simp [room]; done) | (simp [room]; omega) | (simp [dropL, room]; done) | (simp [dropL, room]; omega)) ?_ | refine Nam.mk (List.length_map _) ?_ | refine Prep.skip ?_ | refine Eith.l ?_ | refine chk_t (x := D.flat _) (by assumption) ?_ | refine br_mk (fun _ => ?_) (fun _ => ?_) | refine ACall.of (hC) ?_ | refine APCall.of (hC) ?_ | fail)
    all_goals first | (exfalso; omega) | skip
    all_goals (conv => whnf)
    all_goals first | exact ⟨zeroBrn, DLe.refl _, DLe.refl _, rfl⟩
theorem ref54_Fork (b : Brn) (parent : Int) (hW : b.wide) : CallP Try.prog 15 [.d b.d, .d (I parent)] (retD [(forkM b parent).1.d, I (forkM b parent).2.1, I (forkM b parent).2.2]) := by
  have hC := ref54_Valid b hW
  unfold forkM
  refine exPure_sound (E := envOf Try.prog tt Try.f15.ntmps) (envOf_ok ttok mixed) Try.func15 (by rfl) rfl rfl (Nat.le_of_ble_eq_true rfl) ?_
  by_cases hv : b.valid
  · rw [decide_eq_true hv] at hC
    rw [if_pos hv]
    have hfd := hv.1.d
    have hfn := hv.1.n
    have hfp := hv.1.p
    have hff := hv.1.f
    have hO := ref54_open b parent (by omega)
    by_cases ho : parent = -1 ∨ openP b parent
    · have hpl : parent < b.br.length := ho.elim (fun h => by omega) fun h => h.2.1
      have hl := ref54_length b parent hpl
      rw [if_pos ho]
      by_cases h64 : b.br.length = 64
      · rw [if_pos h64]
        by_cases hp : parent = -1
        · repeat' ((conv => whnf); first | with_reducible refine Dec.t (show true = true from rfl) ?_ | with_reducible refine Dec.t (show false = false from rfl) ?_ | with_reducible refine Dec.f (show ¬ (true = false) by decide) ?_ | with_reducible refine Dec.f (show ¬ (false = true) by decide) ?_ | refine Dec.t (by omega) ?_ | refine Dec.f (by omega) ?_ | refine Dec.split (fun _ => ?_) (fun _ => ?_) | refine Wr.id (by omega) ?_ | refine Chk.mk (by first | omega | exact rfl | (simp only [List.length_map]; omega) | (simp [room]; done) | (simp [room]; omega) | (simp [dropL, room]; done) | (simp [dropL, room]; omega)) ?_ | refine Nam.mk (List.length_map _) ?_ | refine Prep.skip ?_ | refine Eith.l ?_ | refine chk_t (x := D.flat _) (by assumption) ?_ | refine br_mk (fun _ => ?_) (fun _ => ?_) | refine ACall.of (hC) ?_ | refine APCall.of (hC) ?_ | refine ACall.of (hO) ?_ | refine APCall.of (hO) ?_ | fail)
          all_goals first | (exfalso; omega) | skip
          all_goals (conv => whnf)
          all_goals first | exact ⟨zeroBrn, DLe.refl _, DLe.refl _, rfl⟩
        · rw [decide_eq_true (ho.resolve_left hp)] at hO
          repeat' ((conv => whnf); first | with_reducible refine Dec.t (show true = true from rfl) ?_ | with_reducible refine Dec.t (show false = false from rfl) ?_ | with_reducible refine Dec.f (show ¬ (true = false) by decide) ?_ | with_reducible refine Dec.f (show ¬ (false = true) by decide) ?_ | refine Dec.t (by omega) ?_ | refine Dec.f (by omega) ?_ | refine Dec.split (fun _ => ?_) (fun _ => ?_) | refine Wr.id (by omega) ?_ | refine Chk.mk (by first | omega | exact rfl | (simp only [List.length_map]; omega) | (simp [room]; done) | (simp [room]; omega) | (simp [dropL, room]; done) | (simp [dropL, room]; omega)) ?_ | refine Nam.mk (List.length_map _) ?_ | refine Prep.skip ?_ | refine Eith.l ?_ | refine chk_t (x := D.flat _) (by assumption) ?_ | refine br_mk (fun _ => ?_) (fun _ => ?_) | refine ACall.of (hC) ?_ | refine APCall.of (hC) ?_ | refine ACall.of (hO) ?_ | refine APCall.of (hO) ?_ | fail)
          all_goals first | (exfalso; omega) | skip
          all_goals (conv => whnf)
          all_goals first | exact ⟨zeroBrn, DLe.refl _, DLe.refl _, rfl⟩
      · rw [if_neg h64]
        by_cases hp : parent = -1
        · repeat' ((conv => whnf); first | with_reducible refine Dec.t (show true = true from rfl) ?_ | with_reducible refine Dec.t (show false = false from rfl) ?_ | with_reducible refine Dec.f (show ¬ (true = false) by decide) ?_ | with_reducible refine Dec.f (show ¬ (false = true) by decide) ?_ | refine Dec.t (by omega) ?_ | refine Dec.f (by omega) ?_ | refine Dec.split (fun _ => ?_) (fun _ => ?_) | refine Wr.id (by omega) ?_ | refine Chk.mk (by first | omega | exact rfl | (simp only [List.length_map]; omega) | (simp [room]; done) | (simp [room]; omega) | (simp [dropL, room]; done) | (simp [dropL, room]; omega)) ?_ | refine Nam.mk (List.length_map _) ?_ | refine Prep.skip ?_ | refine Eith.l ?_ | refine chk_t (x := D.flat _) (by assumption) ?_ | refine br_mk (fun _ => ?_) (fun _ => ?_) | refine ACall.of (hC) ?_ | refine APCall.of (hC) ?_ | refine ACall.of (hO) ?_ | refine APCall.of (hO) ?_ | refine ACall.of (hl) ?_ | refine APCall.of (hl) ?_ | refine ACall.body (E := envOf Try.prog tt Try.f44.ntmps) (envOf_ok ttok mixed) Try.func44 (by rfl) rfl (Nat.le_of_ble_eq_true rfl) ?_ | refine Chk.mk ⟨by simp <;> omega, by simp <;> omega⟩ ?_ | refine Chk.mk ⟨rfl, by simp <;> omega, by simp [room] <;> omega⟩ ?_ | refine Nam.mk (snoc_app' _ _) ?_ | refine Nam.mk (nil_app _) ?_ | fail)
          all_goals first | (exfalso; omega) | skip
          all_goals (conv => whnf)
          all_goals first | exact ⟨DLe.agg ⟨DLe.refl _, brs_snoc _, snoc_le _ _ _, snoc_le _ _ _, snoc_le _ _ _, rfl⟩, DLe.refl _, DLe.refl _, rfl⟩
        · rw [decide_eq_true (ho.resolve_left hp)] at hO
          repeat' ((conv => whnf); first | with_reducible refine Dec.t (show true = true from rfl) ?_ | with_reducible refine Dec.t (show false = false from rfl) ?_ | with_reducible refine Dec.f (show ¬ (true = false) by decide) ?_ | with_reducible refine Dec.f (show ¬ (false = true) by decide) ?_ | refine Dec.t (by omega) ?_ | refine Dec.f (by omega) ?_ | refine Dec.split (fun _ => ?_) (fun _ => ?_) | refine Wr.id (by omega) ?_ | refine Chk.mk (by first | omega | exact rfl | (simp only [List.length_map]; omega) | (simp [room]; done) | (simp [room]; omega) | (simp [dropL, room]; done) | (simp [dropL, room]; omega)) ?_ | refine Nam.mk (List.length_map _) ?_ | refine Prep.skip ?_ | refine Eith.l ?_ | refine chk_t (x := D.flat _) (by assumption) ?_ | refine br_mk (fun _ => ?_) (fun _ => ?_) | refine ACall.of (hC) ?_ | refine APCall.of (hC) ?_ | refine ACall.of (hO) ?_ | refine APCall.of (hO) ?_ | refine ACall.of (hl) ?_ | refine APCall.of (hl) ?_ | refine ACall.body (E := envOf Try.prog tt Try.f44.ntmps) (envOf_ok ttok mixed) Try.func44 (by rfl) rfl (Nat.le_of_ble_eq_true rfl) ?_ | refine Chk.mk ⟨by simp <;> omega, by simp <;> omega⟩ ?_ | refine Chk.mk ⟨rfl, by simp <;> omega, by simp [room] <;> omega⟩ ?_ | refine Nam.mk (snoc_app' _ _) ?_ | refine Nam.mk (nil_app _) ?_ | fail)
          all_goals first | (exfalso; omega) | skip
          all_goals (conv => whnf)
          all_goals first | exact ⟨DLe.agg ⟨DLe.refl _, brs_snoc _, snoc_le _ _ _, snoc_le _ _ _, snoc_le _ _ _, rfl⟩, DLe.refl _, DLe.refl _, rfl⟩
    · rw [if_neg ho]
      have hn1 : ¬ parent = -1 := fun h => ho (.inl h)
      rw [decide_eq_false (fun h => ho (.inr h))] at hO
      repeat' ((conv => whnf); first | with_reducible refine Dec.t (show true = true from rfl) ?_ | with_reducible refine Dec.t (show false = false from rfl) ?_ | with_reducible refine Dec.f (show ¬ (true = false) by decide) ?_ | with_reducible refine Dec.f (show ¬ (false = true) by decide) ?_ | refine Dec.t (by omega) ?_ | refine Dec.f (by omega) ?_ | refine Dec.split (fun _ => ?_) (fun _ => ?_) | refine Wr.id (by omega) ?_ | refine Chk.mk (by first | omega | exact rfl | (simp only [List.length_map]; omega) | (simp [room]; done) | (simp [room]; omega) | (simp [dropL, room]; done) | (simp [dropL, room]; omega)) ?_ | refine Nam.mk (List.length_map _) ?_ | refine Prep.skip ?_ | refine Eith.l ?_ | refine chk_t (x := D.flat _) (by assumption) ?_ | refine br_mk (fun _ => ?_) (fun _ => ?_) | refine ACall.of (hC) ?_ | refine APCall.of (hC) ?_ | refine ACall.of (hO) ?_ | refine APCall.of (hO) ?_ | fail)
      all_goals first | (exfalso; omega) | skip
      all_goals (conv => whnf)
      all_goals first | exact ⟨zeroBrn, DLe.refl _, DLe.refl _, rfl⟩
  · rw [decide_eq_false hv] at hC
    rw [if_neg hv]
    repeat' ((conv => whnf); first | with_reducible refine Dec.t (show true = true from rfl) ?_ | with_reducible refine Dec.t (show false = false from rfl) ?_ | with_reducible refine Dec.f (show ¬ (true = false) by decide) ?_ | with_reducible refine Dec.f (show ¬ (false = true) by decide) ?_ | refine Dec.t (by omega) ?_ | refine Dec.f (by omega) ?_ | refine Dec.split (fun _ => ?_) (fun _ => ?_) | refine Wr.id (by omega) ?_ | refine Chk.mk (by first | omega | exact rfl | (simp only [List.length_map]; omega) | (simp [room]; done) | (simp [room]; omega) | (simp [dropL, room]; done) | (simp [dropL, room]; omega)) ?_ | refine Nam.mk (List.length_map _) ?_ | refine Prep.skip ?_ | refine Eith.l ?_ | refine chk_t (x := D.flat _) (by assumption) ?_ | refine br_mk (fun _ => ?_) (fun _ => ?_) | refine ACall.of (hC) ?_ | refine APCall.of (hC) ?_ | fail)
    all_goals first | (exfalso; omega) | skip
    all_goals (conv => whnf)
    all_goals first | exact ⟨zeroBrn, DLe.refl _, DLe.refl _, rfl⟩
end Go.PM

