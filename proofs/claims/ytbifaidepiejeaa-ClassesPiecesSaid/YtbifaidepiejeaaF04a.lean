/- Package facts and its reference: Check, Add and what they lean on. -/
import Derived.Test.YtbifaidepiejeaaFacts
namespace Go.PM
open Go.Proofs
set_option maxRecDepth 10000

def Fact.ok (f : Fact) : Prop := (0 ≤ f.kind ∧ f.kind ≤ 15) ∧ (0 ≤ f.subj ∧ f.subj ≤ 4095) ∧ (0 ≤ f.obj ∧ f.obj ≤ 1023) ∧ (-1 ≤ f.value ∧ f.value ≤ 1048576) ∧ 0 ≤ f.from_ ∧ f.from_ < f.to_ ∧ f.to_ ≤ 1024 ∧ (1 ≤ f.known ∧ f.known ≤ 16777216) ∧ (0 ≤ f.no ∧ f.no ≤ 65535)
instance Fact.okDec (f : Fact) : Decidable f.ok := by unfold Fact.ok; infer_instance
def before (a b : Fact) : Prop := a.known < b.known ∨ a.known = b.known ∧ a.no < b.no
instance beforeDec (a b : Fact) : Decidable (before a b) := by unfold before; infer_instance
theorem order_before (a b : Fact) : ¬ 0 ≤ order a b ↔ before a b := by
  unfold order before
  simp only [orL, cmpI]
  repeat' split
  all_goals omega
theorem order_le (a b : Fact) : order a b ≤ 0 ↔ ¬ before b a := by
  unfold order before
  simp only [orL, cmpI]
  repeat' split
  all_goals omega

/-- Each comes before the next. -/
def rising : List Fact → Prop
  | a :: b :: r => before a b ∧ rising (b :: r)
  | _ => True
instance rising_dec : (l : List Fact) → Decidable (rising l)
  | [] => .isTrue trivial
  | [_] => .isTrue trivial
  | a :: b :: r => by
    have := rising_dec (b :: r)
    unfold rising; infer_instance
theorem rising_iff : ∀ (l : List Fact), rising l ↔ ∀ (i : Nat) (a b : Fact), l[i]? = some a → l[i + 1]? = some b → before a b
  | [] => by simp [rising]
  | [x] => by simp [rising]
  | a :: b :: r => by
    rw [rising, rising_iff (b :: r)]
    constructor
    · rintro ⟨h1, h2⟩ i x y hx hy
      cases i with
      | zero => simp at hx hy; subst hx hy; exact h1
      | succ i => exact h2 i x y (by simpa using hx) (by simpa using hy)
    · intro h
      exact ⟨h 0 a b rfl rfl, fun i x y hx hy => h (i + 1) x y (by simpa using hx) (by simpa using hy)⟩

def checkM (l : List Fact) : Int := if ∀ f ∈ l, f.ok then (if rising l then 0 else 41) else 40
theorem checkM_bad {l : List Fact} {f : Fact} (h : f ∈ l) (hf : ¬ f.ok) : checkM l = 40 := by unfold checkM; rw [if_neg (fun h' => hf (h' f h))]
theorem checkM_order {l : List Fact} (h : ∀ f ∈ l, f.ok) {i : Nat} {a b : Fact} (ha : l[i]? = some a) (hb : l[i + 1]? = some b) (hn : ¬ before a b) : checkM l = 41 := by
  unfold checkM; rw [if_pos h, if_neg (fun h' => hn ((rising_iff l).1 h' i a b ha hb))]
theorem checkM_ok {l : List Fact} (h : ∀ f ∈ l, f.ok) (h2 : ∀ (i : Nat) (a b : Fact), l[i]? = some a → l[i + 1]? = some b → before a b) : checkM l = 0 := by
  unfold checkM; rw [if_pos h, if_pos ((rising_iff l).2 h2)]
theorem all_snoc {l : List Fact} {i : Nat} {f : Fact} (hx : l[i]? = some f) (hf : f.ok) (h : ∀ g ∈ l.take i, g.ok) : ∀ g ∈ l.take (i + 1), g.ok := fun g hg => by
  rw [List.take_add_one, hx, List.mem_append] at hg
  rcases hg with hg | hg
  · exact h g hg
  · simp at hg; subst hg; exact hf

theorem ref04_Before' (a b : Fact) : CallP Try.prog 54 [.d a.d, .d b.d] (retD [.b (decide (before a b))]) := by
  refine exPure_sound (E := envOf Try.prog tt Try.f54.ntmps) (envOf_ok ttok mixed) Try.func54 (by rfl) rfl rfl (Nat.le_of_ble_eq_true rfl) ?_
  repeat' ((conv => whnf); first | with_reducible refine Dec.t (show true = true from rfl) ?_ | with_reducible refine Dec.t (show false = false from rfl) ?_ | with_reducible refine Dec.f (show ¬ (true = false) by decide) ?_ | with_reducible refine Dec.f (show ¬ (false = true) by decide) ?_ | refine Dec.t (by omega) ?_ | refine Dec.f (by omega) ?_ | refine Dec.split (fun _ => ?_) (fun _ => ?_) | refine Wr.id (by omega) ?_ | refine Chk.mk (by first | omega | exact rfl | (simp only [List.length_map]; omega) | (simp [room]; done) | (simp [room]; omega) | (simp [dropL, room]; done) | (simp [dropL, room]; omega)) ?_ | refine Nam.mk (List.length_map _) ?_ | refine Prep.skip ?_ | refine Eith.l ?_ | refine chk_t (x := D.flat _) (by assumption) ?_ | refine br_mk (fun _ => ?_) (fun _ => ?_))
  all_goals (conv => whnf)
  all_goals first | (rw [decide_eq_true (by unfold before; omega)]; exact DLe.refl _) | (rw [decide_eq_false (by unfold before; omega)]; exact DLe.refl _)

end Go.PM

