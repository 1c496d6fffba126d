/- Floors, plain: what is fed, what is possible, and what there is at the ends of periods. -/
import Derived.Test.YtgpgfcehcenejaaW34e
namespace Go.PM
open Go.Proofs
set_option maxRecDepth 10000
set_option maxHeartbeats 4000000

def stepF (p : Int) (m : List Bool) (f : Flow) : List Bool := if f.per = p ∧ (f.kind = 1 ∨ f.kind = 2 ∧ m.getD f.src.toNat false = true) then m.set f.dst.toNat true else m
def passF (fl : List Flow) (p : Int) (m : List Bool) : List Bool := fl.foldl (stepF p) m
def roundsF (fl : List Flow) (p : Int) : Nat → List Bool → List Bool
  | 0, m => m
  | n + 1, m => roundsF fl p n (passF fl p m)
def fedL (fl : List Flow) (p : Int) (now : List Int) : List Bool := roundsF fl p (now.length + 1) (now.map fun n => decide (0 < n))
theorem unm_set : ∀ (m : List Bool) (i : Nat), unm (m.set i true) ≤ unm m ∧ (unm (m.set i true) = unm m → m.set i true = m)
  | [], i => by simp
  | b :: m, 0 => by cases b <;> simp [unm]
  | b :: m, i + 1 => by
    obtain ⟨a, c⟩ := unm_set m i
    cases b <;> simp [unm] at a c ⊢
    · exact ⟨a, c⟩
    · exact ⟨a, c⟩
theorem stepF_le (p : Int) (m : List Bool) (f : Flow) : unm (stepF p m f) ≤ unm m ∧ (unm (stepF p m f) = unm m → stepF p m f = m) := by
  unfold stepF
  split
  · exact unm_set m _
  · exact ⟨Nat.le_refl _, fun _ => rfl⟩
theorem passF_le (p : Int) : ∀ (fl : List Flow) (m : List Bool), unm (passF fl p m) ≤ unm m ∧ (unm (passF fl p m) = unm m → passF fl p m = m ∧ ∀ f ∈ fl, stepF p m f = m)
  | [], m => ⟨Nat.le_refl _, fun _ => ⟨rfl, fun _ h => by cases h⟩⟩
  | f :: fl, m => by
    obtain ⟨a, b⟩ := stepF_le p m f
    obtain ⟨c, d⟩ := passF_le p fl (stepF p m f)
    have e : passF (f :: fl) p m = passF fl p (stepF p m f) := rfl
    rw [e]
    refine ⟨by omega, fun h => ?_⟩
    have h1 := b (by omega)
    obtain ⟨d1, d2⟩ := d (by omega)
    rw [h1] at d1 d2
    rw [h1]
    refine ⟨d1, fun g hg => ?_⟩
    cases hg with
    | head => exact h1
    | tail _ hg => exact d2 g hg
theorem roundsF_fix (fl : List Flow) (p : Int) : ∀ (n : Nat) (m : List Bool), unm m < n → passF fl p (roundsF fl p n m) = roundsF fl p n m
  | 0, m, h => by omega
  | n + 1, m, h => by
    obtain ⟨a, b⟩ := passF_le p fl m
    by_cases e : unm (passF fl p m) = unm m
    · obtain ⟨b1, _⟩ := b e
      have : ∀ k, roundsF fl p k m = m := by
        intro k
        induction k with
        | zero => rfl
        | succ k ih => show roundsF fl p k (passF fl p m) = m; rw [b1]; exact ih
      rw [this]; exact b1
    · exact roundsF_fix fl p n (passF fl p m) (by omega)
theorem unm_le (m : List Bool) : unm m ≤ m.length := List.length_filter_le _ _
theorem stepF_len (p : Int) (m : List Bool) (f : Flow) : (stepF p m f).length = m.length := by unfold stepF; split <;> simp
theorem passF_len (p : Int) : ∀ (fl : List Flow) (m : List Bool), (passF fl p m).length = m.length
  | [], m => rfl
  | f :: fl, m => (passF_len p fl _).trans (stepF_len p m f)
theorem roundsF_len (fl : List Flow) (p : Int) : ∀ (n : Nat) (m : List Bool), (roundsF fl p n m).length = m.length
  | 0, m => rfl
  | n + 1, m => (roundsF_len fl p n _).trans (passF_len p fl m)
theorem fedL_len (fl : List Flow) (p : Int) (now : List Int) : (fedL fl p now).length = now.length := by unfold fedL; rw [roundsF_len, List.length_map]
theorem stepF_keep (p : Int) (m : List Bool) (f : Flow) (v : Nat) (h : m.getD v false = true) : (stepF p m f).getD v false = true := by
  unfold stepF
  split
  · simp only [List.getD_eq_getElem?_getD, List.getElem?_set] at h ⊢
    split
    · split
      · rfl
      · rename_i h1 h2
        rw [← h1, List.getElem?_eq_none (by omega)] at h
        cases h
    · exact h
  · exact h
theorem passF_keep (p : Int) : ∀ (fl : List Flow) (m : List Bool) (v : Nat), m.getD v false = true → (passF fl p m).getD v false = true
  | [], m, v, h => h
  | f :: fl, m, v, h => passF_keep p fl _ v (stepF_keep p m f v h)
theorem roundsF_keep (fl : List Flow) (p : Int) : ∀ (n : Nat) (m : List Bool) (v : Nat), m.getD v false = true → (roundsF fl p n m).getD v false = true
  | 0, m, v, h => h
  | n + 1, m, v, h => roundsF_keep fl p n _ v (passF_keep p fl m v h)
theorem stepF_snd {fl : List Flow} {p : Int} {pos : Nat → Prop} {m : List Bool} (h : ∀ v, m.getD v false = true → Rch fl p pos v) {f : Flow} (hf : f ∈ fl) : ∀ v, (stepF p m f).getD v false = true → Rch fl p pos v := by
  intro v hv
  unfold stepF at hv
  split at hv
  · rename_i hc
    simp only [List.getD_eq_getElem?_getD, List.getElem?_set] at hv
    split at hv
    · rename_i e
      rw [← e]
      rcases hc.2 with h1 | ⟨h1, h2⟩
      · exact .into f hf hc.1 h1
      · exact .move f hf hc.1 h1 (h _ h2)
    · exact h v (by rw [List.getD_eq_getElem?_getD]; exact hv)
  · exact h v hv
theorem passF_snd {fl : List Flow} {p : Int} {pos : Nat → Prop} : ∀ (l : List Flow), (∀ f ∈ l, f ∈ fl) → ∀ {m : List Bool}, (∀ v, m.getD v false = true → Rch fl p pos v) → ∀ v, (passF l p m).getD v false = true → Rch fl p pos v
  | [], _, m, h => h
  | f :: l, hl, m, h => passF_snd l (fun g hg => hl g (.tail _ hg)) (stepF_snd h (hl f (.head _)))
theorem roundsF_snd {fl : List Flow} {p : Int} {pos : Nat → Prop} : ∀ (n : Nat) {m : List Bool}, (∀ v, m.getD v false = true → Rch fl p pos v) → ∀ v, (roundsF fl p n m).getD v false = true → Rch fl p pos v
  | 0, m, h => h
  | n + 1, m, h => roundsF_snd n (passF_snd fl (fun _ h => h) h)
/-- What holds something before the period. -/
def posL (now : List Int) (v : Nat) : Prop := 0 < now.getD v 0
theorem fedL_iff {fl : List Flow} {p : Int} {now : List Int} {np : Int} (hok : ∀ f ∈ fl, f.ok now.length np) (v : Nat) : (fedL fl p now).getD v false = true ↔ Rch fl p (posL now) v := by
  have h0 : ∀ v, (now.map fun n => decide (0 < n)).getD v false = true ↔ posL now v := by
    intro v
    unfold posL
    simp only [List.getD_eq_getElem?_getD, List.getElem?_map]
    cases now[v]? with
    | none => simp
    | some n => simp
  constructor
  · exact roundsF_snd _ (fun v h => .start v ((h0 v).1 h)) v
  · intro h
    have hfix : passF fl p (fedL fl p now) = fedL fl p now := roundsF_fix fl p _ _ (by have := unm_le (now.map fun n => decide (0 < n)); rw [List.length_map] at this; omega)
    obtain ⟨_, hst⟩ := (passF_le p fl (fedL fl p now)).2 (by rw [hfix])
    have hset : ∀ f ∈ fl, f.per = p → (f.kind = 1 ∨ f.kind = 2 ∧ (fedL fl p now).getD f.src.toNat false = true) → (fedL fl p now).getD f.dst.toNat false = true := by
      intro f hf hp hk
      have h1 := hst f hf
      unfold stepF at h1
      rw [if_pos ⟨hp, hk⟩] at h1
      rw [← h1]
      have hfo := hok f hf
      unfold Flow.ok at hfo
      have hlt : f.dst.toNat < (fedL fl p now).length := by rw [fedL_len]; omega
      simp [List.getD_eq_getElem?_getD, hlt]
    induction h with
    | start v hv => exact roundsF_keep fl p _ _ v ((h0 v).2 hv)
    | into f hf hp hk => exact hset f hf hp (.inl hk)
    | move f hf hp hk _ ih => exact hset f hf hp (.inr ⟨hk, ih⟩)

/-! ### Padding -/
def padN (l : List Int) : List Int := l ++ List.replicate (16 - l.length) 0
theorem padN_len {l : List Int} (h : l.length ≤ 16) : (padN l).length = 16 := by unfold padN; simp; omega
theorem set_append {l r : List Int} {i : Nat} {x : Int} (h : i < l.length) : (l ++ r).set i x = l.set i x ++ r := List.set_append_left _ _ h
theorem getD_append {l r : List Int} {i : Nat} (h : i < l.length) : (l ++ r).getD i 0 = l.getD i 0 := by simp [List.getD_eq_getElem?_getD, List.getElem?_append_left h]
theorem stepA_len (p : Int) (l : List Int) (f : Flow) : (stepA p l f).length = l.length := by
  unfold stepA addAt subAt
  split
  · split
    · simp
    · split <;> simp
  · rfl
theorem afterM_len (p : Int) : ∀ (fl : List Flow) (l : List Int), (afterM fl p l).length = l.length
  | [], l => rfl
  | f :: fl, l => (afterM_len p fl _).trans (stepA_len p l f)
theorem stepA_app {p : Int} {l r : List Int} {f : Flow} {np : Int} (hf : f.ok l.length np) : stepA p (l ++ r) f = stepA p l f ++ r := by
  unfold Flow.ok at hf
  unfold stepA addAt subAt
  split
  · split
    · rw [getD_append (by omega), set_append (by omega)]
    · split
      · rw [getD_append (by omega), set_append (by omega), getD_append (by rw [List.length_set]; omega), set_append (by rw [List.length_set]; omega)]
      · rw [getD_append (by omega), set_append (by omega)]
  · rfl
theorem afterM_app {p : Int} {np : Int} {r : List Int} : ∀ (fl : List Flow) {l : List Int}, (∀ f ∈ fl, f.ok l.length np) → afterM fl p (l ++ r) = afterM fl p l ++ r
  | [], l, _ => rfl
  | f :: fl, l, h => by
    show afterM fl p (stepA p (l ++ r) f) = afterM fl p (stepA p l f) ++ r
    rw [stepA_app (h f (.head _))]
    exact afterM_app fl (fun g hg => by rw [stepA_len]; exact h g (.tail _ hg))
theorem afterM_pad {p : Int} {np : Int} {fl : List Flow} {l : List Int} (h : ∀ f ∈ fl, f.ok l.length np) : afterM fl p (padN l) = padN (afterM fl p l) := by
  unfold padN
  rw [afterM_app fl h, afterM_len]

/-! ### What is possible -/
def canP (fl : List Flow) (p : Int) (now : List Int) : Prop := possP fl p (afterM fl p now) (fedL fl p now)
instance (fl : List Flow) (p : Int) (now : List Int) : Decidable (canP fl p now) := by unfold canP; infer_instance
/-- The amounts at the ends of so many periods. -/
def runM (fl : List Flow) : Nat → Int → List Int → Option (List (List Int))
  | 0, _, _ => some []
  | n + 1, p, now => if canP fl p now then (runM fl n (p + 1) (afterM fl p now)).map (afterM fl p now :: ·) else none
def amtsO (h : Hist) : Option (List (List Int)) := runM h.fl h.per.toNat 0 h.op
def amtsT (h : Hist) : List (List Int) := if h.ok then (amtsO h).getD [] else []
def amtsE (h : Hist) : Int := if h.ok then (if (amtsO h).isSome then 0 else 341) else 340
/-- The amounts and what may still come. -/
def rowD (r : List Int) : D := SL 1 (r.map I)
def tabD (t : List (List Int)) : D := SL 1 (t.map rowD)
end Go.PM

