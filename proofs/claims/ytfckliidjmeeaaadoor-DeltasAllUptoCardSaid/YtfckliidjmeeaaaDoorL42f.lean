/- Deltas, law 42: Spec, Joined, Three. -/
import Derived.Test.YtfckliidjmeeaaaDoorL42ctoL42x
namespace Go.PM
open Go.Proofs
set_option maxRecDepth 10000
set_option maxHeartbeats 2000000

abbrev enD (l : List Ent) : V := .d (SL 2 (l.map Ent.d))
abbrev whD (l : List Why) : V := .d (SL 4 (l.map Why.d))
/-- What can be compared. -/
structure CmpD (d : Dl) : Prop where
  g : d.gone.length < 2 ^ 40
  n : d.new.length < 2 ^ 40
  w : d.why.length < 2 ^ 40
  dd : ∀ w ∈ d.why, w.days.length < 2 ^ 40
/-- Differences of small lists. -/
theorem diff_yes {a b : List Ent} (r : List Why) (h : vE a ∧ vE b) : diffM a b r = (⟨lessE a b, lessE b a, r⟩, 0) := by unfold diffM; rw [if_pos h]
end Go.PM

