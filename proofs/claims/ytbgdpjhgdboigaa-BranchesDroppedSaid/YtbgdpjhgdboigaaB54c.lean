/- Branches: lengths, open ones. -/
import Derived.Test.YtbgdpjhgdboigaaB54b
namespace Go.PM
open Go.Proofs
set_option maxRecDepth 10000
set_option maxHeartbeats 8000000

def Brn.at (b : Brn) (no : Int) : List Chg := b.br.getD no.toNat []
def lenM (b : Brn) (no : Int) : Nat := if no < 0 then b.base.length else (b.at no).length
theorem at_get {b : Brn} {no : Int} (h0 : ¬ no < 0) (h : no < b.br.length) : (b.br.map brD)[no.toNat]? = some (brD (b.at no)) := by
  have hl : no.toNat < b.br.length := by omega
  rw [List.getElem?_map, List.getElem?_eq_getElem hl]
  simp [Brn.at, hl]
theorem branches_length (b : Brn) (no : Int) (h : no < b.br.length) : CallP Try.prog 40 [.d b.d, .d (I no)] (retD [I (lenM b no)]) := by
  refine exPure_sound (E := envOf Try.prog tt Try.f40.ntmps) (envOf_ok ttok mixed) Try.func40 (by rfl) rfl rfl (Nat.le_of_ble_eq_true rfl) ?_
  unfold lenM
  by_cases h0 : no < 0
  · rw [if_pos h0]
    repeat' ((conv => whnf); first | with_reducible refine Dec.t (show true = true from rfl) ?_ | with_reducible refine Dec.t (show false = false from rfl) ?_ | with_reducible refine Dec.f (show ¬ (true = false) by decide) ?_ | with_reducible refine Dec.f (show ¬ (false = true) by decide) ?_ | refine Dec.t (by omega) ?_ | refine Dec.f (by omega) ?_ | refine Dec.split (fun _ => ?_) (fun _ => ?_) | refine Wr.id (by omega) ?_ | refine Chk.mk (by first | omega | exact rfl | (simp only [List.length_map]; omega) | (simp [room]; done) | (simp [room]; omega) | (simp [dropL, room]; done) | (simp [dropL, room]; omega)) ?_ | refine Nam.mk (List.length_map _) ?_ | refine Prep.skip ?_ | refine Eith.l ?_ | refine chk_t (x := D.flat _) (by assumption) ?_ | refine br_mk (fun _ => ?_) (fun _ => ?_) | fail)
    all_goals first | (exfalso; omega) | skip
    all_goals (conv => whnf)
    all_goals first | exact DLe.refl _
  · rw [if_neg h0]
    have h1 := at_get h0 h
    repeat' ((conv => whnf); first | with_reducible refine Dec.t (show true = true from rfl) ?_ | with_reducible refine Dec.t (show false = false from rfl) ?_ | with_reducible refine Dec.f (show ¬ (true = false) by decide) ?_ | with_reducible refine Dec.f (show ¬ (false = true) by decide) ?_ | refine Dec.t (by omega) ?_ | refine Dec.f (by omega) ?_ | refine Dec.split (fun _ => ?_) (fun _ => ?_) | refine Wr.id (by omega) ?_ | refine Chk.mk (by first | omega | exact rfl | (simp only [List.length_map]; omega) | (simp [room]; done) | (simp [room]; omega) | (simp [dropL, room]; done) | (simp [dropL, room]; omega)) ?_ | refine Nam.mk (List.length_map _) ?_ | refine Prep.skip ?_ | refine Eith.l ?_ | refine chk_t (x := D.flat _) (by assumption) ?_ | refine br_mk (fun _ => ?_) (fun _ => ?_) | refine nthK_mk h1 ?_ | fail)
    all_goals first | (exfalso; omega) | skip
    all_goals (conv => whnf)
    all_goals first | exact DLe.refl _
theorem ref54_length (b : Brn) (no : Int) (h : no < b.br.length) : CallP Try.prog 45 [.d b.d, .d (I no)] (retD [I (lenM b no)]) := by
  refine exPure_sound (E := envOf Try.prog tt Try.f45.ntmps) (envOf_ok ttok mixed) Try.func45 (by rfl) rfl rfl (Nat.le_of_ble_eq_true rfl) ?_
  unfold lenM
  by_cases h0 : no < 0
  · rw [if_pos h0]
    repeat' ((conv => whnf); first | with_reducible refine Dec.t (show true = true from rfl) ?_ | with_reducible refine Dec.t (show false = false from rfl) ?_ | with_reducible refine Dec.f (show ¬ (true = false) by decide) ?_ | with_reducible refine Dec.f (show ¬ (false = true) by decide) ?_ | refine Dec.t (by omega) ?_ | refine Dec.f (by omega) ?_ | refine Dec.split (fun _ => ?_) (fun _ => ?_) | refine Wr.id (by omega) ?_ | refine Chk.mk (by first | omega | exact rfl | (simp only [List.length_map]; omega) | (simp [room]; done) | (simp [room]; omega) | (simp [dropL, room]; done) | (simp [dropL, room]; omega)) ?_ | refine Nam.mk (List.length_map _) ?_ | refine Prep.skip ?_ | refine Eith.l ?_ | refine chk_t (x := D.flat _) (by assumption) ?_ | refine br_mk (fun _ => ?_) (fun _ => ?_) | fail)
    all_goals first | (exfalso; omega) | skip
    all_goals (conv => whnf)
    all_goals first | exact DLe.refl _
  · rw [if_neg h0]
    have h1 := at_get h0 h
    repeat' ((conv => whnf); first | with_reducible refine Dec.t (show true = true from rfl) ?_ | with_reducible refine Dec.t (show false = false from rfl) ?_ | with_reducible refine Dec.f (show ¬ (true = false) by decide) ?_ | with_reducible refine Dec.f (show ¬ (false = true) by decide) ?_ | refine Dec.t (by omega) ?_ | refine Dec.f (by omega) ?_ | refine Dec.split (fun _ => ?_) (fun _ => ?_) | refine Wr.id (by omega) ?_ | refine Chk.mk (by first | omega | exact rfl | (simp only [List.length_map]; omega) | (simp [room]; done) | (simp [room]; omega) | (simp [dropL, room]; done) | (simp [dropL, room]; omega)) ?_ | refine Nam.mk (List.length_map _) ?_ | refine Prep.skip ?_ | refine Eith.l ?_ | refine chk_t (x := D.flat _) (by assumption) ?_ | refine br_mk (fun _ => ?_) (fun _ => ?_) | refine nthK_mk h1 ?_ | fail)
    all_goals first | (exfalso; omega) | skip
    all_goals (conv => whnf)
    all_goals first | exact DLe.refl _

def openP (b : Brn) (no : Int) : Prop := 0 ≤ no ∧ no < b.br.length ∧ b.done.getD no.toNat true = false
instance (b : Brn) (no : Int) : Decidable (openP b no) := by unfold openP; infer_instance
theorem open_T {x y : Bool} (h : x = y) : VLe (outD (.d (.b x)) [.b x]) (retD [.b y]) := leafB h
theorem branches_open (b : Brn) (no : Int) (h : b.br.length ≤ b.done.length) : CallP Try.prog 37 [.d b.d, .d (I no)] (retD [.b (decide (openP b no))]) := by
  refine exPure_sound (E := envOf Try.prog tt Try.f37.ntmps) (envOf_ok ttok mixed) Try.func37 (by rfl) rfl rfl (Nat.le_of_ble_eq_true rfl) ?_
  by_cases h0 : 0 ≤ no ∧ no < b.br.length
  · have hl : no.toNat < b.done.length := by omega
    have h1 : (b.done.map B)[no.toNat]? = some (B (b.done.getD no.toNat true)) := by
      rw [List.getElem?_map, List.getElem?_eq_getElem hl]; simp [hl]
    have hd : decide (openP b no) = !(b.done.getD no.toNat true) := by
      rw [Bool.eq_iff_iff]; simp [openP, h0, hl]
    rw [hd]
    repeat' ((conv => whnf); first | with_reducible refine Dec.t (show true = true from rfl) ?_ | with_reducible refine Dec.t (show false = false from rfl) ?_ | with_reducible refine Dec.f (show ¬ (true = false) by decide) ?_ | with_reducible refine Dec.f (show ¬ (false = true) by decide) ?_ | refine Dec.t (by omega) ?_ | refine Dec.f (by omega) ?_ | refine Dec.split (fun _ => ?_) (fun _ => ?_) | refine Wr.id (by omega) ?_ | refine Chk.mk (by first | omega | exact rfl | (simp only [List.length_map]; omega) | (simp [room]; done) | (simp [room]; omega) | (simp [dropL, room]; done) | (simp [dropL, room]; omega)) ?_ | refine Nam.mk (List.length_map _) ?_ | refine Prep.skip ?_ | refine Eith.l ?_ | refine chk_t (x := D.flat _) (by assumption) ?_ | refine br_mk (fun _ => ?_) (fun _ => ?_) | refine nthK_mk h1 ?_ | fail)
    all_goals first | (exfalso; omega) | skip
    all_goals (conv => whnf)
    all_goals first | exact DLe.refl _
  · have hd : decide (openP b no) = false := decide_eq_false fun h => h0 ⟨h.1, h.2.1⟩
    rw [hd]
    repeat' ((conv => whnf); first | with_reducible refine Dec.t (show true = true from rfl) ?_ | with_reducible refine Dec.t (show false = false from rfl) ?_ | with_reducible refine Dec.f (show ¬ (true = false) by decide) ?_ | with_reducible refine Dec.f (show ¬ (false = true) by decide) ?_ | refine Dec.t (by omega) ?_ | refine Dec.f (by omega) ?_ | refine Dec.split (fun _ => ?_) (fun _ => ?_) | refine Wr.id (by omega) ?_ | refine Chk.mk (by first | omega | exact rfl | (simp only [List.length_map]; omega) | (simp [room]; done) | (simp [room]; omega) | (simp [dropL, room]; done) | (simp [dropL, room]; omega)) ?_ | refine Nam.mk (List.length_map _) ?_ | refine Prep.skip ?_ | refine Eith.l ?_ | refine chk_t (x := D.flat _) (by assumption) ?_ | refine br_mk (fun _ => ?_) (fun _ => ?_) | fail)
    all_goals first | (exfalso; omega) | skip
    all_goals (conv => whnf)
    all_goals first | exact DLe.refl _
theorem ref54_open (b : Brn) (no : Int) (h : b.br.length ≤ b.done.length) : CallP Try.prog 43 [.d b.d, .d (I no)] (retD [.b (decide (openP b no))]) := by
  refine exPure_sound (E := envOf Try.prog tt Try.f43.ntmps) (envOf_ok ttok mixed) Try.func43 (by rfl) rfl rfl (Nat.le_of_ble_eq_true rfl) ?_
  by_cases h0 : 0 ≤ no ∧ no < b.br.length
  · have hl : no.toNat < b.done.length := by omega
    have h1 : (b.done.map B)[no.toNat]? = some (B (b.done.getD no.toNat true)) := by
      rw [List.getElem?_map, List.getElem?_eq_getElem hl]; simp [hl]
    have hd : decide (openP b no) = !(b.done.getD no.toNat true) := by
      rw [Bool.eq_iff_iff]; simp [openP, h0, hl]
    rw [hd]
    repeat' ((conv => whnf); first | with_reducible refine Dec.t (show true = true from rfl) ?_ | with_reducible refine Dec.t (show false = false from rfl) ?_ | with_reducible refine Dec.f (show ¬ (true = false) by decide) ?_ | with_reducible refine Dec.f (show ¬ (false = true) by decide) ?_ | refine Dec.t (by omega) ?_ | refine Dec.f (by omega) ?_ | refine Dec.split (fun _ => ?_) (fun _ => ?_) | refine Wr.id (by omega) ?_ | refine Chk.mk (by first | omega | exact rfl | (simp only [List.length_map]; omega) | (simp [room]; done) | (simp [room]; omega) | (simp [dropL, room]; done) | (simp [dropL, room]; omega)) ?_ | refine Nam.mk (List.length_map _) ?_ | refine Prep.skip ?_ | refine Eith.l ?_ | refine chk_t (x := D.flat _) (by assumption) ?_ | refine br_mk (fun _ => ?_) (fun _ => ?_) | refine nthK_mk h1 ?_ | fail)
    all_goals first | (exfalso; omega) | skip
    all_goals (conv => whnf)
    all_goals first | exact DLe.refl _
  · have hd : decide (openP b no) = false := decide_eq_false fun h => h0 ⟨h.1, h.2.1⟩
    rw [hd]
    repeat' ((conv => whnf); first | with_reducible refine Dec.t (show true = true from rfl) ?_ | with_reducible refine Dec.t (show false = false from rfl) ?_ | with_reducible refine Dec.f (show ¬ (true = false) by decide) ?_ | with_reducible refine Dec.f (show ¬ (false = true) by decide) ?_ | refine Dec.t (by omega) ?_ | refine Dec.f (by omega) ?_ | refine Dec.split (fun _ => ?_) (fun _ => ?_) | refine Wr.id (by omega) ?_ | refine Chk.mk (by first | omega | exact rfl | (simp only [List.length_map]; omega) | (simp [room]; done) | (simp [room]; omega) | (simp [dropL, room]; done) | (simp [dropL, room]; omega)) ?_ | refine Nam.mk (List.length_map _) ?_ | refine Prep.skip ?_ | refine Eith.l ?_ | refine chk_t (x := D.flat _) (by assumption) ?_ | refine br_mk (fun _ => ?_) (fun _ => ?_) | fail)
    all_goals first | (exfalso; omega) | skip
    all_goals (conv => whnf)
    all_goals first | exact DLe.refl _
end Go.PM

