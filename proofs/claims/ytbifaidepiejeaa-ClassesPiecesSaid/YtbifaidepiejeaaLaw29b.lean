/- The sample world. -/
import Derived.Test.YtbifaidepiejeaaLaw29a
namespace Go.PM
open Go.Proofs
set_option maxRecDepth 10000

def nilD : D := .sl 0 true []
def sampleW : AWorld := ⟨nilD, nilD, nilD, nilD, nilD, nilD, nilD, [⟨⟨#[97]⟩, ⟨#[98]⟩, 0, 1⟩], nilD, nilD, [⟨7, 3, 0, 1, 5, 9, 10, 0⟩]⟩
def zeroW : AWorld := ⟨nilD, nilD, nilD, nilD, nilD, nilD, nilD, [], nilD, nilD, []⟩
def aS : Supply := ⟨0, 0, 0, 2, 10, 4⟩
def bS : Supply := ⟨1, 1, 0, 0, 20, 3⟩
def rR : Request := ⟨0, 1, 3, 6, 4, 5⟩
theorem law29_sample : CallP Try.prog 27 [] (retD [sampleW.d]) := by
  refine exPure_sound (E := envOf Try.prog tt Try.f27.ntmps) (envOf_ok ttok mixed) Try.func27 (by rfl) rfl rfl (Nat.le_of_ble_eq_true rfl) ?_
  repeat' ((conv => whnf); first | with_reducible refine Dec.t (show true = true from rfl) ?_ | with_reducible refine Dec.t (show false = false from rfl) ?_ | with_reducible refine Dec.f (show ¬ (true = false) by decide) ?_ | with_reducible refine Dec.f (show ¬ (false = true) by decide) ?_ | refine Dec.t (by omega) ?_ | refine Dec.f (by omega) ?_ | refine Dec.split (fun _ => ?_) (fun _ => ?_) | refine Wr.id (by omega) ?_ | refine Chk.mk (by first | omega | exact rfl | (simp only [List.length_map]; omega) | (simp [room]; done) | (simp [room]; omega) | (simp [dropL, room]; done) | (simp [dropL, room]; omega)) ?_ | refine Nam.mk (List.length_map _) ?_ | refine Prep.skip ?_ | refine Eith.l ?_ | refine chk_t (x := D.flat _) (by assumption) ?_ | refine br_mk (fun _ => ?_) (fun _ => ?_))
  all_goals (conv => whnf)
  refine DLe.agg ?_
  exact (by repeat (first | exact trivial | exact rfl | exact DLe.refl _ | exact DLe.full _ _ _ | exact DLe.nil _ _ _ | exact VLe.refl _ | refine And.intro ?_ ?_ | refine VLe.d ?_ | refine DLe.agg ?_))
end Go.PM

