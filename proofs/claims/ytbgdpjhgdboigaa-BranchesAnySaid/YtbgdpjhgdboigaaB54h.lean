/- Branches: New, Facts, Drop. -/
import Derived.Test.YtbgdpjhgdboigaaB54g
namespace Go.PM
open Go.Proofs
set_option maxRecDepth 10000
set_option maxHeartbeats 8000000

theorem setK_to {α : Type} {y : α} {xs zs : List α} {n : Nat} {k : List α → Prop} (h : n < xs.length) (e : xs.set n y = zs) (hk : k zs) : setK xs n y k := setK_mk h (by rw [e]; exact hk)
def Brn.zero : Brn := ⟨[], [], [], [], []⟩
def factsM (b : Brn) (no : Int) : List Fact × Int := if b.valid then (if -1 ≤ no ∧ no < b.br.length then withM b no (lenM b no) else ([], 1)) else ([], 540)
def newM (l : List Fact) : Brn × Int := if checkM l = 0 then (⟨l, [], [], [], []⟩, 0) else (Brn.zero, checkM l)
def closeM (b : Brn) (no : Int) : Brn := ⟨b.base, b.br, b.par, b.forks, b.done.set no.toNat true⟩
def dropM (b : Brn) (no : Int) : Brn × Int := if b.valid then (if openP b no then (closeM b no, 0) else (Brn.zero, 1)) else (Brn.zero, 540)

theorem zeroBrn : DLe (.agg [.sl 0 true [], .sl 0 true [], .sl 0 true [], .sl 0 true [], .sl 0 true []]) Brn.zero.d := DLe.agg ⟨DLe.nil _ _ _, DLe.nil _ _ _, DLe.nil _ _ _, DLe.nil _ _ _, DLe.nil _ _ _, rfl⟩
theorem branches_Facts (b : Brn) (no : Int) (hW : b.wide) : CallP Try.prog 19 [.d b.d, .d (I no)] (retD [SL 8 ((factsM b no).1.map Fact.d), I (factsM b no).2]) := by
  have hC := branches_check b hW
  unfold factsM
  refine exPure_sound (E := envOf Try.prog tt Try.f19.ntmps) (envOf_ok ttok mixed) Try.func19 (by rfl) rfl rfl (Nat.le_of_ble_eq_true rfl) ?_
  by_cases hv : b.valid
  · rw [if_pos hv] at hC ⊢
    by_cases hn : -1 ≤ no ∧ no < b.br.length
    · rw [if_pos hn]
      have ho := branches_of b hv.1 hv.2.1 hW no hn.2
      repeat' ((conv => whnf); first | with_reducible refine Dec.t (show true = true from rfl) ?_ | with_reducible refine Dec.t (show false = false from rfl) ?_ | with_reducible refine Dec.f (show ¬ (true = false) by decide) ?_ | with_reducible refine Dec.f (show ¬ (false = true) by decide) ?_ | refine Dec.t (by omega) ?_ | refine Dec.f (by omega) ?_ | refine Dec.split (fun _ => ?_) (fun _ => ?_) | refine Wr.id (by omega) ?_ | refine Chk.mk (by first | omega | exact rfl | (simp only [List.length_map]; omega) | (simp [room]; done) | (simp [room]; omega) | (simp [dropL, room]; done) | (simp [dropL, room]; omega)) ?_ | refine Nam.mk (List.length_map _) ?_ | refine Prep.skip ?_ | refine Eith.l ?_ | refine chk_t (x := D.flat _) (by assumption) ?_ | refine br_mk (fun _ => ?_) (fun _ => ?_) | refine ACall.of (hC) ?_ | refine APCall.of (hC) ?_ | refine ACall.of (ho) ?_ | refine APCall.of (ho) ?_ | fail)
      all_goals first | (exfalso; omega) | skip
      all_goals (conv => whnf)
      all_goals first | exact ⟨DLe.refl _, DLe.refl _, rfl⟩
    · rw [if_neg hn]
      repeat' ((conv => whnf); first | with_reducible refine Dec.t (show true = true from rfl) ?_ | with_reducible refine Dec.t (show false = false from rfl) ?_ | with_reducible refine Dec.f (show ¬ (true = false) by decide) ?_ | with_reducible refine Dec.f (show ¬ (false = true) by decide) ?_ | refine Dec.t (by omega) ?_ | refine Dec.f (by omega) ?_ | refine Dec.split (fun _ => ?_) (fun _ => ?_) | refine Wr.id (by omega) ?_ | refine Chk.mk (by first | omega | exact rfl | (simp only [List.length_map]; omega) | (simp [room]; done) | (simp [room]; omega) | (simp [dropL, room]; done) | (simp [dropL, room]; omega)) ?_ | refine Nam.mk (List.length_map _) ?_ | refine Prep.skip ?_ | refine Eith.l ?_ | refine chk_t (x := D.flat _) (by assumption) ?_ | refine br_mk (fun _ => ?_) (fun _ => ?_) | refine ACall.of (hC) ?_ | refine APCall.of (hC) ?_ | fail)
      all_goals first | (exfalso; omega) | skip
      all_goals (conv => whnf)
      all_goals first | exact ⟨DLe.nil _ _ _, DLe.refl _, rfl⟩
  · rw [if_neg hv] at hC ⊢
    repeat' ((conv => whnf); first | with_reducible refine Dec.t (show true = true from rfl) ?_ | with_reducible refine Dec.t (show false = false from rfl) ?_ | with_reducible refine Dec.f (show ¬ (true = false) by decide) ?_ | with_reducible refine Dec.f (show ¬ (false = true) by decide) ?_ | refine Dec.t (by omega) ?_ | refine Dec.f (by omega) ?_ | refine Dec.split (fun _ => ?_) (fun _ => ?_) | refine Wr.id (by omega) ?_ | refine Chk.mk (by first | omega | exact rfl | (simp only [List.length_map]; omega) | (simp [room]; done) | (simp [room]; omega) | (simp [dropL, room]; done) | (simp [dropL, room]; omega)) ?_ | refine Nam.mk (List.length_map _) ?_ | refine Prep.skip ?_ | refine Eith.l ?_ | refine chk_t (x := D.flat _) (by assumption) ?_ | refine br_mk (fun _ => ?_) (fun _ => ?_) | refine ACall.of (hC) ?_ | refine APCall.of (hC) ?_ | fail)
    all_goals first | (exfalso; omega) | skip
    all_goals (conv => whnf)
    all_goals first | exact ⟨DLe.nil _ _ _, DLe.refl _, rfl⟩
theorem ref54_Facts (b : Brn) (no : Int) (hW : b.wide) : CallP Try.prog 20 [.d b.d, .d (I no)] (retD [SL 8 ((factsM b no).1.map Fact.d), I (factsM b no).2]) := by
  have hC := ref54_Valid b hW
  unfold factsM
  refine exPure_sound (E := envOf Try.prog tt Try.f20.ntmps) (envOf_ok ttok mixed) Try.func20 (by rfl) rfl rfl (Nat.le_of_ble_eq_true rfl) ?_
  by_cases hv : b.valid
  · rw [decide_eq_true hv] at hC
    rw [if_pos hv]
    by_cases hn : -1 ≤ no ∧ no < b.br.length
    · rw [if_pos hn]
      have ho := ref54_with b hv.1 hv.2.1 hW no (lenM b no) hn.2 ⟨by omega, Int.le_refl _⟩
      rw [Int.toNat_natCast] at ho
      have hl := ref54_length b no hn.2
      repeat' ((conv => whnf); first | with_reducible refine Dec.t (show true = true from rfl) ?_ | with_reducible refine Dec.t (show false = false from rfl) ?_ | with_reducible refine Dec.f (show ¬ (true = false) by decide) ?_ | with_reducible refine Dec.f (show ¬ (false = true) by decide) ?_ | refine Dec.t (by omega) ?_ | refine Dec.f (by omega) ?_ | refine Dec.split (fun _ => ?_) (fun _ => ?_) | refine Wr.id (by omega) ?_ | refine Chk.mk (by first | omega | exact rfl | (simp only [List.length_map]; omega) | (simp [room]; done) | (simp [room]; omega) | (simp [dropL, room]; done) | (simp [dropL, room]; omega)) ?_ | refine Nam.mk (List.length_map _) ?_ | refine Prep.skip ?_ | refine Eith.l ?_ | refine chk_t (x := D.flat _) (by assumption) ?_ | refine br_mk (fun _ => ?_) (fun _ => ?_) | refine ACall.of (hC) ?_ | refine APCall.of (hC) ?_ | refine ACall.of (hl) ?_ | refine APCall.of (hl) ?_ | refine ACall.of (ho) ?_ | refine APCall.of (ho) ?_ | fail)
      all_goals first | (exfalso; omega) | skip
      all_goals (conv => whnf)
      all_goals first | exact ⟨DLe.refl _, DLe.refl _, rfl⟩
    · rw [if_neg hn]
      repeat' ((conv => whnf); first | with_reducible refine Dec.t (show true = true from rfl) ?_ | with_reducible refine Dec.t (show false = false from rfl) ?_ | with_reducible refine Dec.f (show ¬ (true = false) by decide) ?_ | with_reducible refine Dec.f (show ¬ (false = true) by decide) ?_ | refine Dec.t (by omega) ?_ | refine Dec.f (by omega) ?_ | refine Dec.split (fun _ => ?_) (fun _ => ?_) | refine Wr.id (by omega) ?_ | refine Chk.mk (by first | omega | exact rfl | (simp only [List.length_map]; omega) | (simp [room]; done) | (simp [room]; omega) | (simp [dropL, room]; done) | (simp [dropL, room]; omega)) ?_ | refine Nam.mk (List.length_map _) ?_ | refine Prep.skip ?_ | refine Eith.l ?_ | refine chk_t (x := D.flat _) (by assumption) ?_ | refine br_mk (fun _ => ?_) (fun _ => ?_) | refine ACall.of (hC) ?_ | refine APCall.of (hC) ?_ | fail)
      all_goals first | (exfalso; omega) | skip
      all_goals (conv => whnf)
      all_goals first | exact ⟨DLe.nil _ _ _, DLe.refl _, rfl⟩
  · rw [decide_eq_false hv] at hC
    rw [if_neg hv]
    repeat' ((conv => whnf); first | with_reducible refine Dec.t (show true = true from rfl) ?_ | with_reducible refine Dec.t (show false = false from rfl) ?_ | with_reducible refine Dec.f (show ¬ (true = false) by decide) ?_ | with_reducible refine Dec.f (show ¬ (false = true) by decide) ?_ | refine Dec.t (by omega) ?_ | refine Dec.f (by omega) ?_ | refine Dec.split (fun _ => ?_) (fun _ => ?_) | refine Wr.id (by omega) ?_ | refine Chk.mk (by first | omega | exact rfl | (simp only [List.length_map]; omega) | (simp [room]; done) | (simp [room]; omega) | (simp [dropL, room]; done) | (simp [dropL, room]; omega)) ?_ | refine Nam.mk (List.length_map _) ?_ | refine Prep.skip ?_ | refine Eith.l ?_ | refine chk_t (x := D.flat _) (by assumption) ?_ | refine br_mk (fun _ => ?_) (fun _ => ?_) | refine ACall.of (hC) ?_ | refine APCall.of (hC) ?_ | fail)
    all_goals first | (exfalso; omega) | skip
    all_goals (conv => whnf)
    all_goals first | exact ⟨DLe.nil _ _ _, DLe.refl _, rfl⟩
theorem branches_New (l : List Fact) (hl : l.length < 2 ^ 20) : CallP Try.prog 12 [.d (SL 8 (l.map Fact.d))] (retD [(newM l).1.d, I (newM l).2]) := by
  have hC := facts_Check l (by omega)
  unfold newM
  refine exPure_sound (E := envOf Try.prog tt Try.f12.ntmps) (envOf_ok ttok mixed) Try.func12 (by rfl) rfl rfl (Nat.le_of_ble_eq_true rfl) ?_
  by_cases hv : checkM l = 0
  · rw [if_pos hv]
    rw [hv] at hC
    repeat' ((conv => whnf); first | with_reducible refine Dec.t (show true = true from rfl) ?_ | with_reducible refine Dec.t (show false = false from rfl) ?_ | with_reducible refine Dec.f (show ¬ (true = false) by decide) ?_ | with_reducible refine Dec.f (show ¬ (false = true) by decide) ?_ | refine Dec.t (by omega) ?_ | refine Dec.f (by omega) ?_ | refine Dec.split (fun _ => ?_) (fun _ => ?_) | refine Wr.id (by omega) ?_ | refine Chk.mk (by first | omega | exact rfl | (simp only [List.length_map]; omega) | (simp [room]; done) | (simp [room]; omega) | (simp [dropL, room]; done) | (simp [dropL, room]; omega)) ?_ | refine Nam.mk (List.length_map _) ?_ | refine Prep.skip ?_ | refine Eith.l ?_ | refine chk_t (x := D.flat _) (by assumption) ?_ | refine br_mk (fun _ => ?_) (fun _ => ?_) | refine ACall.of (hC) ?_ | refine APCall.of (hC) ?_ | refine ACall.ofRow (copied_Fact l (by omega)) ?_ | refine APCall.ofRow (copied_Fact l (by omega)) ?_ | refine Nam.mk (whole rfl) ?_ | fail)
    all_goals first | (exfalso; omega) | skip
    all_goals (conv => whnf)
    all_goals first | exact ⟨DLe.agg ⟨DLe.refl _, DLe.nil _ _ _, DLe.nil _ _ _, DLe.nil _ _ _, DLe.nil _ _ _, rfl⟩, DLe.refl _, rfl⟩
  · rw [if_neg hv]
    repeat' ((conv => whnf); first | with_reducible refine Dec.t (show true = true from rfl) ?_ | with_reducible refine Dec.t (show false = false from rfl) ?_ | with_reducible refine Dec.f (show ¬ (true = false) by decide) ?_ | with_reducible refine Dec.f (show ¬ (false = true) by decide) ?_ | refine Dec.t (by omega) ?_ | refine Dec.f (by omega) ?_ | refine Dec.split (fun _ => ?_) (fun _ => ?_) | refine Wr.id (by omega) ?_ | refine Chk.mk (by first | omega | exact rfl | (simp only [List.length_map]; omega) | (simp [room]; done) | (simp [room]; omega) | (simp [dropL, room]; done) | (simp [dropL, room]; omega)) ?_ | refine Nam.mk (List.length_map _) ?_ | refine Prep.skip ?_ | refine Eith.l ?_ | refine chk_t (x := D.flat _) (by assumption) ?_ | refine br_mk (fun _ => ?_) (fun _ => ?_) | refine ACall.of (hC) ?_ | refine APCall.of (hC) ?_ | fail)
    all_goals first | (exfalso; omega) | skip
    all_goals (conv => whnf)
    all_goals first | exact ⟨zeroBrn, DLe.refl _, rfl⟩
theorem ref54_New (l : List Fact) (hl : l.length < 2 ^ 20) : CallP Try.prog 13 [.d (SL 8 (l.map Fact.d))] (retD [(newM l).1.d, I (newM l).2]) := by
  have hC := ref04_Check l (by omega)
  unfold newM
  refine exPure_sound (E := envOf Try.prog tt Try.f13.ntmps) (envOf_ok ttok mixed) Try.func13 (by rfl) rfl rfl (Nat.le_of_ble_eq_true rfl) ?_
  by_cases hv : checkM l = 0
  · rw [if_pos hv]
    rw [hv] at hC
    repeat' ((conv => whnf); first | with_reducible refine Dec.t (show true = true from rfl) ?_ | with_reducible refine Dec.t (show false = false from rfl) ?_ | with_reducible refine Dec.f (show ¬ (true = false) by decide) ?_ | with_reducible refine Dec.f (show ¬ (false = true) by decide) ?_ | refine Dec.t (by omega) ?_ | refine Dec.f (by omega) ?_ | refine Dec.split (fun _ => ?_) (fun _ => ?_) | refine Wr.id (by omega) ?_ | refine Chk.mk (by first | omega | exact rfl | (simp only [List.length_map]; omega) | (simp [room]; done) | (simp [room]; omega) | (simp [dropL, room]; done) | (simp [dropL, room]; omega)) ?_ | refine Nam.mk (List.length_map _) ?_ | refine Prep.skip ?_ | refine Eith.l ?_ | refine chk_t (x := D.flat _) (by assumption) ?_ | refine br_mk (fun _ => ?_) (fun _ => ?_) | refine ACall.of (hC) ?_ | refine APCall.of (hC) ?_ | fail)
    all_goals first | (exfalso; omega) | skip
    all_goals (conv => whnf)
    all_goals first | exact ⟨DLe.agg ⟨DLe.refl _, DLe.nil _ _ _, DLe.nil _ _ _, DLe.nil _ _ _, DLe.nil _ _ _, rfl⟩, DLe.refl _, rfl⟩
  · rw [if_neg hv]
    repeat' ((conv => whnf); first | with_reducible refine Dec.t (show true = true from rfl) ?_ | with_reducible refine Dec.t (show false = false from rfl) ?_ | with_reducible refine Dec.f (show ¬ (true = false) by decide) ?_ | with_reducible refine Dec.f (show ¬ (false = true) by decide) ?_ | refine Dec.t (by omega) ?_ | refine Dec.f (by omega) ?_ | refine Dec.split (fun _ => ?_) (fun _ => ?_) | refine Wr.id (by omega) ?_ | refine Chk.mk (by first | omega | exact rfl | (simp only [List.length_map]; omega) | (simp [room]; done) | (simp [room]; omega) | (simp [dropL, room]; done) | (simp [dropL, room]; omega)) ?_ | refine Nam.mk (List.length_map _) ?_ | refine Prep.skip ?_ | refine Eith.l ?_ | refine chk_t (x := D.flat _) (by assumption) ?_ | refine br_mk (fun _ => ?_) (fun _ => ?_) | refine ACall.of (hC) ?_ | refine APCall.of (hC) ?_ | fail)
    all_goals first | (exfalso; omega) | skip
    all_goals (conv => whnf)
    all_goals first | exact ⟨zeroBrn, DLe.refl _, rfl⟩

theorem branches_closed (b : Brn) (no : Int) (h0 : 0 ≤ no) (h : no < b.done.length) (hd : b.done.length < 2 ^ 20) : CallP Try.prog 51 [.d b.d, .d (I no)] (retD [(closeM b no).d]) := by
  have hl : no.toNat < b.done.length := by omega
  have g1 : (b.done.map B)[0 + no.toNat]? = some (B (b.done.getD no.toNat false)) := by rw [Nat.zero_add, List.getElem?_map, List.getElem?_eq_getElem hl]; simp [hl]
  have l1 : 0 + no.toNat < (b.done.map B).length := by rw [Nat.zero_add, List.length_map]; exact hl
  have s1 : (b.done.map B).set (0 + no.toNat) (B true) = (b.done.set no.toNat true).map B := by rw [Nat.zero_add, List.map_set]
  refine exPure_sound (E := envOf Try.prog tt Try.f51.ntmps) (envOf_ok ttok mixed) Try.func51 (by rfl) rfl rfl (Nat.le_of_ble_eq_true rfl) ?_
  repeat' ((conv => whnf); first | with_reducible refine Dec.t (show true = true from rfl) ?_ | with_reducible refine Dec.t (show false = false from rfl) ?_ | with_reducible refine Dec.f (show ¬ (true = false) by decide) ?_ | with_reducible refine Dec.f (show ¬ (false = true) by decide) ?_ | refine Dec.t (by omega) ?_ | refine Dec.f (by omega) ?_ | refine Dec.split (fun _ => ?_) (fun _ => ?_) | refine Wr.id (by omega) ?_ | refine Chk.mk (by first | omega | exact rfl | (simp only [List.length_map]; omega) | (simp [room]; done) | (simp [room]; omega) | (simp [dropL, room]; done) | (simp [dropL, room]; omega)) ?_ | refine Nam.mk (List.length_map _) ?_ | refine Prep.skip ?_ | refine Eith.l ?_ | refine chk_t (x := D.flat _) (by assumption) ?_ | refine br_mk (fun _ => ?_) (fun _ => ?_) | refine ACall.ofRow (copied_bool b.done (by omega)) ?_ | refine APCall.ofRow (copied_bool b.done (by omega)) ?_ | refine nthK_mk g1 ?_ | refine setK_to l1 s1 ?_ | refine Nam.mk (y := (b.done.set no.toNat true).map B) (whole (by simp)) ?_ | refine Chk.mk ⟨rfl, by simp⟩ ?_ | fail)
  all_goals first | (exfalso; omega) | skip
  all_goals (conv => whnf)
  all_goals first | exact DLe.agg ⟨DLe.refl _, DLe.refl _, DLe.refl _, DLe.refl _, DLe.refl _, rfl⟩
theorem open_lt {b : Brn} {no : Int} (h : openP b no) : 0 ≤ no ∧ no < b.br.length := ⟨h.1, h.2.1⟩
theorem branches_Drop (b : Brn) (no : Int) (hW : b.wide) : CallP Try.prog 24 [.d b.d, .d (I no)] (retD [(dropM b no).1.d, I (dropM b no).2]) := by
  have hC := branches_check b hW
  unfold dropM
  refine exPure_sound (E := envOf Try.prog tt Try.f24.ntmps) (envOf_ok ttok mixed) Try.func24 (by rfl) rfl rfl (Nat.le_of_ble_eq_true rfl) ?_
  by_cases hv : b.valid
  · rw [if_pos hv] at hC ⊢
    have hfd := hv.1.d
    have hfn := hv.1.n
    have hO := branches_open b no (by omega)
    by_cases ho : openP b no
    · have h1 := open_lt ho
      rw [decide_eq_true ho] at hO
      rw [if_pos ho]
      have hcl := branches_closed b no h1.1 (by omega) (by omega)
      repeat' ((conv => whnf); first | with_reducible refine Dec.t (show true = true from rfl) ?_ | with_reducible refine Dec.t (show false = false from rfl) ?_ | with_reducible refine Dec.f (show ¬ (true = false) by decide) ?_ | with_reducible refine Dec.f (show ¬ (false = true) by decide) ?_ | refine Dec.t (by omega) ?_ | refine Dec.f (by omega) ?_ | refine Dec.split (fun _ => ?_) (fun _ => ?_) | refine Wr.id (by omega) ?_ | refine Chk.mk (by first | omega | exact rfl | (simp only [List.length_map]; omega) | (simp [room]; done) | (simp [room]; omega) | (simp [dropL, room]; done) | (simp [dropL, room]; omega)) ?_ | refine Nam.mk (List.length_map _) ?_ | refine Prep.skip ?_ | refine Eith.l ?_ | refine chk_t (x := D.flat _) (by assumption) ?_ | refine br_mk (fun _ => ?_) (fun _ => ?_) | refine ACall.of (hC) ?_ | refine APCall.of (hC) ?_ | refine ACall.of (hO) ?_ | refine APCall.of (hO) ?_ | refine ACall.of (hcl) ?_ | refine APCall.of (hcl) ?_ | fail)
      all_goals first | (exfalso; omega) | skip
      all_goals (conv => whnf)
      all_goals first | exact ⟨DLe.refl _, DLe.refl _, rfl⟩
    · rw [decide_eq_false ho] at hO
      rw [if_neg ho]
      repeat' ((conv => whnf); first | with_reducible refine Dec.t (show true = true from rfl) ?_ | with_reducible refine Dec.t (show false = false from rfl) ?_ | with_reducible refine Dec.f (show ¬ (true = false) by decide) ?_ | with_reducible refine Dec.f (show ¬ (false = true) by decide) ?_ | refine Dec.t (by omega) ?_ | refine Dec.f (by omega) ?_ | refine Dec.split (fun _ => ?_) (fun _ => ?_) | refine Wr.id (by omega) ?_ | refine Chk.mk (by first | omega | exact rfl | (simp only [List.length_map]; omega) | (simp [room]; done) | (simp [room]; omega) | (simp [dropL, room]; done) | (simp [dropL, room]; omega)) ?_ | refine Nam.mk (List.length_map _) ?_ | refine Prep.skip ?_ | refine Eith.l ?_ | refine chk_t (x := D.flat _) (by assumption) ?_ | refine br_mk (fun _ => ?_) (fun _ => ?_) | refine ACall.of (hC) ?_ | refine APCall.of (hC) ?_ | refine ACall.of (hO) ?_ | refine APCall.of (hO) ?_ | fail)
      all_goals first | (exfalso; omega) | skip
      all_goals (conv => whnf)
      all_goals first | exact ⟨zeroBrn, DLe.refl _, rfl⟩
  · rw [if_neg hv] at hC ⊢
    repeat' ((conv => whnf); first | with_reducible refine Dec.t (show true = true from rfl) ?_ | with_reducible refine Dec.t (show false = false from rfl) ?_ | with_reducible refine Dec.f (show ¬ (true = false) by decide) ?_ | with_reducible refine Dec.f (show ¬ (false = true) by decide) ?_ | refine Dec.t (by omega) ?_ | refine Dec.f (by omega) ?_ | refine Dec.split (fun _ => ?_) (fun _ => ?_) | refine Wr.id (by omega) ?_ | refine Chk.mk (by first | omega | exact rfl | (simp only [List.length_map]; omega) | (simp [room]; done) | (simp [room]; omega) | (simp [dropL, room]; done) | (simp [dropL, room]; omega)) ?_ | refine Nam.mk (List.length_map _) ?_ | refine Prep.skip ?_ | refine Eith.l ?_ | refine chk_t (x := D.flat _) (by assumption) ?_ | refine br_mk (fun _ => ?_) (fun _ => ?_) | refine ACall.of (hC) ?_ | refine APCall.of (hC) ?_ | fail)
    all_goals first | (exfalso; omega) | skip
    all_goals (conv => whnf)
    all_goals first | exact ⟨zeroBrn, DLe.refl _, rfl⟩
theorem nil_app (l : List D) : ((([] : List D) ++ l).drop 0).take (([] : List D).length + l.length) = l := by simp
theorem ref54_Drop (b : Brn) (no : Int) (hW : b.wide) : CallP Try.prog 25 [.d b.d, .d (I no)] (retD [(dropM b no).1.d, I (dropM b no).2]) := by
  have hC := ref54_Valid b hW
  unfold dropM
  refine exPure_sound (E := envOf Try.prog tt Try.f25.ntmps) (envOf_ok ttok mixed) Try.func25 (by rfl) rfl rfl (Nat.le_of_ble_eq_true rfl) ?_
  by_cases hv : b.valid
  · rw [decide_eq_true hv] at hC
    rw [if_pos hv]
    have hfd := hv.1.d
    have hfn := hv.1.n
    have hfp := hv.1.p
    have hff := hv.1.f
    have hO := ref54_open b no (by omega)
    by_cases ho : openP b no
    · have h1 := open_lt ho
      rw [decide_eq_true ho] at hO
      rw [if_pos ho]
      have hl : no.toNat < b.done.length := by omega
      have g1 : ([] ++ b.done.map B)[0 + no.toNat]? = some (B (b.done.getD no.toNat false)) := by rw [List.nil_append, Nat.zero_add, List.getElem?_map, List.getElem?_eq_getElem hl]; simp [hl]
      have l1 : 0 + no.toNat < ([] ++ b.done.map B).length := by rw [List.nil_append, Nat.zero_add, List.length_map]; exact hl
      have s1 : ([] ++ b.done.map B).set (0 + no.toNat) (B true) = (b.done.set no.toNat true).map B := by rw [List.nil_append, Nat.zero_add, List.map_set]
      repeat' ((conv => whnf); first | with_reducible refine Dec.t (show true = true from rfl) ?_ | with_reducible refine Dec.t (show false = false from rfl) ?_ | with_reducible refine Dec.f (show ¬ (true = false) by decide) ?_ | with_reducible refine Dec.f (show ¬ (false = true) by decide) ?_ | refine Dec.t (by omega) ?_ | refine Dec.f (by omega) ?_ | refine Dec.split (fun _ => ?_) (fun _ => ?_) | refine Wr.id (by omega) ?_ | refine Chk.mk (by first | omega | exact rfl | (simp only [List.length_map]; omega) | (simp [room]; done) | (simp [room]; omega) | (simp [dropL, room]; done) | (simp [dropL, room]; omega)) ?_ | refine Nam.mk (List.length_map _) ?_ | refine Prep.skip ?_ | refine Eith.l ?_ | refine chk_t (x := D.flat _) (by assumption) ?_ | refine br_mk (fun _ => ?_) (fun _ => ?_) | refine ACall.of (hC) ?_ | refine APCall.of (hC) ?_ | refine ACall.of (hO) ?_ | refine APCall.of (hO) ?_ | refine ACall.body (E := envOf Try.prog tt Try.f44.ntmps) (envOf_ok ttok mixed) Try.func44 (by rfl) rfl (Nat.le_of_ble_eq_true rfl) ?_ | refine nthK_mk g1 ?_ | refine setK_to l1 s1 ?_ | refine Nam.mk (nil_app _) ?_ | refine Nam.mk (y := (b.done.set no.toNat true).map B) (whole (by simp)) ?_ | refine Chk.mk ⟨rfl, by simp⟩ ?_ | refine Chk.mk ⟨by simp <;> omega, by simp <;> omega⟩ ?_ | fail)
      all_goals first | (exfalso; omega) | skip
      all_goals (conv => whnf)
      all_goals first | exact ⟨DLe.refl _, DLe.refl _, rfl⟩
    · rw [decide_eq_false ho] at hO
      rw [if_neg ho]
      repeat' ((conv => whnf); first | with_reducible refine Dec.t (show true = true from rfl) ?_ | with_reducible refine Dec.t (show false = false from rfl) ?_ | with_reducible refine Dec.f (show ¬ (true = false) by decide) ?_ | with_reducible refine Dec.f (show ¬ (false = true) by decide) ?_ | refine Dec.t (by omega) ?_ | refine Dec.f (by omega) ?_ | refine Dec.split (fun _ => ?_) (fun _ => ?_) | refine Wr.id (by omega) ?_ | refine Chk.mk (by first | omega | exact rfl | (simp only [List.length_map]; omega) | (simp [room]; done) | (simp [room]; omega) | (simp [dropL, room]; done) | (simp [dropL, room]; omega)) ?_ | refine Nam.mk (List.length_map _) ?_ | refine Prep.skip ?_ | refine Eith.l ?_ | refine chk_t (x := D.flat _) (by assumption) ?_ | refine br_mk (fun _ => ?_) (fun _ => ?_) | refine ACall.of (hC) ?_ | refine APCall.of (hC) ?_ | refine ACall.of (hO) ?_ | refine APCall.of (hO) ?_ | fail)
      all_goals first | (exfalso; omega) | skip
      all_goals (conv => whnf)
      all_goals first | exact ⟨zeroBrn, DLe.refl _, rfl⟩
  · rw [decide_eq_false hv] at hC
    rw [if_neg hv]
    repeat' ((conv => whnf); first | with_reducible refine Dec.t (show true = true from rfl) ?_ | with_reducible refine Dec.t (show false = false from rfl) ?_ | with_reducible refine Dec.f (show ¬ (true = false) by decide) ?_ | with_reducible refine Dec.f (show ¬ (false = true) by decide) ?_ | refine Dec.t (by omega) ?_ | refine Dec.f (by omega) ?_ | refine Dec.split (fun _ => ?_) (fun _ => ?_) | refine Wr.id (by omega) ?_ | refine Chk.mk (by first | omega | exact rfl | (simp only [List.length_map]; omega) | (simp [room]; done) | (simp [room]; omega) | (simp [dropL, room]; done) | (simp [dropL, room]; omega)) ?_ | refine Nam.mk (List.length_map _) ?_ | refine Prep.skip ?_ | refine Eith.l ?_ | refine chk_t (x := D.flat _) (by assumption) ?_ | refine br_mk (fun _ => ?_) (fun _ => ?_) | refine ACall.of (hC) ?_ | refine APCall.of (hC) ?_ | fail)
    all_goals first | (exfalso; omega) | skip
    all_goals (conv => whnf)
    all_goals first | exact ⟨zeroBrn, DLe.refl _, rfl⟩
end Go.PM

