/- The statements of layer 19: sane. -/
import Derived.Test.YtghlkcnmocgkaaaO19q
namespace Go.PM
open Go.Proofs
set_option maxRecDepth 10000
set_option maxHeartbeats 8000000

def nilD : D := .sl 0 true []
def itemZ : D := .agg [.s ⟨#[]⟩, .s ⟨#[]⟩, I 0, I 0, I 0, I 0]
def src0 : Src := ⟨nilD, [itemZ], [.s ⟨#[112]⟩], nilD, [], [], nilD, nilD⟩
def w0 : OWorld := ⟨src0, nilD, nilD, []⟩
theorem law19_world : CallP Try.prog 26 [] (retD [w0.d]) := by
  refine exPure_sound (E := envOf Try.prog tt Try.f26.ntmps) (envOf_ok ttok mixed) Try.func26 (by rfl) rfl rfl (Nat.le_of_ble_eq_true rfl) ?_
  repeat' ((conv => whnf); first | with_reducible refine Dec.t (show true = true from rfl) ?_ | with_reducible refine Dec.t (show false = false from rfl) ?_ | with_reducible refine Dec.f (show ¬ (true = false) by decide) ?_ | with_reducible refine Dec.f (show ¬ (false = true) by decide) ?_ | refine Dec.t (by omega) ?_ | refine Dec.f (by omega) ?_ | refine Dec.split (fun _ => ?_) (fun _ => ?_) | refine Wr.id (by omega) ?_ | refine Chk.mk (by first | omega | exact rfl | (simp only [List.length_map]; omega) | (simp [room]; done) | (simp [room]; omega) | (simp [dropL, room]; done) | (simp [dropL, room]; omega)) ?_ | refine Nam.mk (List.length_map _) ?_ | refine Prep.skip ?_ | refine Eith.l ?_ | refine chk_t (x := D.flat _) (by assumption) ?_ | refine br_mk (fun _ => ?_) (fun _ => ?_) | refine Nam.mk (y := [itemZ]) rfl ?_ | fail)
  all_goals (conv => whnf)
  exact DLe.agg ⟨DLe.refl _, DLe.refl _, DLe.full _ _ _, DLe.refl _, DLe.nil _ _ _, DLe.nil _ _ _, DLe.refl _, DLe.refl _, DLe.refl _, DLe.refl _, DLe.nil _ _ _, rfl⟩
def oA : Ord := ⟨3, 0, 0, 0, 5, 7, 9, 2⟩
def xF : List Fact := [⟨2, 3, 0, 0, 2, 6, 10, 0⟩, ⟨2, 3, 1, 0, 2, 6, 10, 1⟩, ⟨2, 3, 2, 0, 2, 6, 10, 2⟩, ⟨2, 3, 3, 5, 2, 6, 10, 3⟩, ⟨2, 3, 4, 7, 2, 6, 10, 4⟩, ⟨2, 3, 5, 9, 2, 6, 10, 5⟩, ⟨2, 3, 6, 2, 2, 6, 10, 6⟩, ⟨0, 0, 1, 4, 0, 1024, 10, 7⟩]
theorem p1 : putM src0 [] oA 2 6 10 = (xF, 0) := by decide +kernel
theorem p2 : putM src0 [] Ord.zero 2 6 10 = ([], 190) := by decide +kernel
theorem p3 : putM src0 xF oA 2 6 9 = ([], 41) := by decide +kernel
def xW : OWorld := { w0 with facts := xF }
theorem few0 : src0.few := by unfold Src.few; decide
theorem wide0 : src0.wide := by unfold Src.wide; decide
theorem fewZ : Src.zero.few := by unfold Src.few; decide
theorem wideZ : Src.zero.wide := by unfold Src.wide; decide
theorem xwide : xW.wide := by unfold OWorld.wide; decide
theorem zwide : OWorld.zero.wide := by unfold OWorld.wide; decide
theorem q1 : (orderM xW 3 2 10).l = oA ∧ (orderM xW 3 2 10).reads.length = 8 ∧ (orderM xW 3 2 10).ok = true := by decide +kernel
theorem q2 : (orderM xW 3 2 9).reads.length = 1 ∧ (orderM xW 3 2 9).ok = false := by decide +kernel
theorem q3 : (orderM xW 3 6 10).reads.length = 2 ∧ (orderM xW 3 6 10).ok = false := by decide +kernel
theorem q4 : (orderM xW 3 1024 10).reads.length = 0 ∧ (orderM xW 3 1024 10).ok = false := by decide +kernel
theorem q5 : (orderM OWorld.zero 0 0 0).reads.length = 1 ∧ (orderM OWorld.zero 0 0 0).ok = false := by decide +kernel
theorem q6 : (ordersM xW 3 99).1 = [oA] ∧ (ordersM xW 3 99).2.length = 11 := by decide +kernel
theorem q7 : (ordersM OWorld.zero 5 1).1 = [] ∧ (ordersM OWorld.zero 5 1).2.length = 1 := by decide +kernel
theorem q8 : (opensM xW 3 99).1 = [] ∧ (opensM xW 3 99).2.length = 1 := by decide +kernel
theorem eqSpan2 (a b c d : Int) : eqD tt 4 57 [I a, I b] [I c, I d] = decide (a = c ∧ b = d) := by
  rw [show eqD tt 4 57 [I a, I b] [I c, I d] = (a == c && (b == d && true)) from rfl]
  rw [Bool.eq_iff_iff]
  simp
theorem law19_sane : CallP Try.prog 9 [] (retD [.b true]) := by
  have c1 : CallP Try.prog 20 [.d w0.d, .d oA.d, .d (spanD 2 6), .d (I 10)] (retD [xW.d, I 0]) := by
    have h := orders_Put w0 oA 2 6 10 (by decide) few0 wide0 (by decide)
    have e : putM w0.src w0.facts oA 2 6 10 = (xF, 0) := p1
    rw [e] at h; exact h
  have c2 : CallP Try.prog 20 [.d w0.d, .d Ord.zero.d, .d (spanD 2 6), .d (I 10)] (retD [OWorld.zero.d, I 190]) := by
    have h := orders_Put w0 Ord.zero 2 6 10 (by decide) few0 wide0 (by decide)
    have e : putM w0.src w0.facts Ord.zero 2 6 10 = ([], 190) := p2
    rw [e] at h; exact h
  have c3 : CallP Try.prog 20 [.d xW.d, .d oA.d, .d (spanD 2 6), .d (I 9)] (retD [OWorld.zero.d, I 41]) := by
    have h := orders_Put xW oA 2 6 9 (by decide) few0 wide0 (by decide)
    have e : putM xW.src xW.facts oA 2 6 9 = ([], 41) := p3
    rw [e] at h; exact h
  have c5 := orders_Order xW 3 2 10 (by decide) few0 wide0 xwide
  have c6 := orders_Order xW 3 2 9 (by decide) few0 wide0 xwide
  have c7 := orders_Order xW 3 6 10 (by decide) few0 wide0 xwide
  have c8 := orders_Order xW 3 1024 10 (by decide) few0 wide0 xwide
  have c9 := orders_Order OWorld.zero 0 0 0 (by decide) fewZ wideZ zwide
  have c10 := orders_Orders xW 3 99 (by decide) few0 wide0 xwide
  have c11 := orders_Orders OWorld.zero 5 1 (by decide) fewZ wideZ zwide
  have c12 := orders_Opens xW 3 99 (by decide) few0 wide0 xwide
  obtain ⟨a1, a2⟩ := q6
  obtain ⟨b1, b2⟩ := q7
  obtain ⟨d1, d2⟩ := q8
  rw [a1] at c10; rw [b1] at c11; rw [d1] at c12
  generalize (ordersM xW 3 99).2 = R10 at c10 a2
  generalize (ordersM OWorld.zero 5 1).2 = R11 at c11 b2
  generalize (opensM xW 3 99).2 = R12 at c12 d2
  obtain ⟨g1, g2, g3⟩ := q1
  generalize orderM xW 3 2 10 = m5 at c5 g1 g2 g3
  obtain ⟨l5, r5, o5⟩ := m5
  obtain ⟨h1, h2⟩ := q2
  generalize orderM xW 3 2 9 = m6 at c6 h1 h2
  obtain ⟨l6, r6, o6⟩ := m6
  obtain ⟨i1, i2⟩ := q3
  generalize orderM xW 3 6 10 = m7 at c7 i1 i2
  obtain ⟨l7, r7, o7⟩ := m7
  obtain ⟨j1, j2⟩ := q4
  generalize orderM xW 3 1024 10 = m8 at c8 j1 j2
  obtain ⟨l8, r8, o8⟩ := m8
  obtain ⟨k1, k2⟩ := q5
  generalize orderM OWorld.zero 0 0 0 = m9 at c9 k1 k2
  obtain ⟨l9, r9, o9⟩ := m9
  simp only at g1 g2 g3 h1 h2 i1 i2 j1 j2 k1 k2
  subst g1; subst g3; subst h2; subst i2; subst j2; subst k2
  simp only [OrdR.d] at c5 c6 c7 c8 c9
  refine exPure_sound (E := envOf Try.prog tt Try.f9.ntmps) (envOf_ok ttok mixed) Try.func9 (by rfl) rfl rfl (Nat.le_of_ble_eq_true rfl) ?_
  repeat' ((conv => whnf); first | with_reducible refine Dec.t (show true = true from rfl) ?_ | with_reducible refine Dec.t (show false = false from rfl) ?_ | with_reducible refine Dec.f (show ¬ (true = false) by decide) ?_ | with_reducible refine Dec.f (show ¬ (false = true) by decide) ?_ | refine Dec.t (by omega) ?_ | refine Dec.f (by omega) ?_ | refine Dec.split (fun _ => ?_) (fun _ => ?_) | refine Wr.id (by omega) ?_ | refine Chk.mk (by first | omega | exact rfl | (simp only [List.length_map]; omega) | (simp [room]; done) | (simp [room]; omega) | (simp [dropL, room]; done) | (simp [dropL, room]; omega)) ?_ | refine Nam.mk (List.length_map _) ?_ | refine Prep.skip ?_ | refine Eith.l ?_ | refine chk_t (x := D.flat _) (by assumption) ?_ | refine br_mk (fun _ => ?_) (fun _ => ?_) | refine Nam.mk ((List.length_map _).trans g2) ?_ | refine Nam.mk ((List.length_map _).trans h1) ?_ | refine Nam.mk ((List.length_map _).trans i1) ?_ | refine Nam.mk ((List.length_map _).trans j1) ?_ | refine Nam.mk ((List.length_map _).trans k1) ?_ | refine Nam.mk ((List.length_map _).trans a2) ?_ | refine Nam.mk ((List.length_map _).trans b2) ?_ | refine Nam.mk ((List.length_map _).trans d2) ?_ | refine Nam.mk (y := 8) rfl ?_ | refine Nam.mk (y := 1) rfl ?_ | refine Nam.mk (y := 0) rfl ?_ | refine Nam.dec (eqOrd oA oA) (fun _ => ?_) (fun h => absurd rfl h) | refine Nam.dec (eqKey ⟨0, 0, 1⟩ ⟨0, 0, 1⟩) (fun _ => ?_) (fun h => absurd rfl h) | refine Nam.dec (eqSpan2 0 1024 0 1024) (fun _ => ?_) (fun h => absurd ⟨rfl, rfl⟩ h) | refine ACall.of (law19_world) ?_ | refine APCall.of (law19_world) ?_ | refine ACall.of c1 ?_ | refine ACall.of c2 ?_ | refine ACall.of c3 ?_ | refine ACall.of c5 ?_ | refine ACall.of c6 ?_ | refine ACall.of c7 ?_ | refine ACall.of c8 ?_ | (refine ACall.le ?_ c9 ?_; exact ⟨VLe.d zero_le, VLe.refl _, VLe.refl _, VLe.refl _, rfl⟩) | refine ACall.of c10 ?_ | (refine ACall.le ?_ c11 ?_; exact ⟨VLe.d zero_le, VLe.refl _, VLe.refl _, rfl⟩) | refine ACall.of c12 ?_ | fail)
  all_goals (conv => whnf)
  all_goals first | exact DLe.refl _ | exact absurd rfl (by assumption) | (exfalso; rename_i h; exact h rfl) | (exfalso; rename_i h; exact absurd h (by decide)) | trace_state
end Go.PM

