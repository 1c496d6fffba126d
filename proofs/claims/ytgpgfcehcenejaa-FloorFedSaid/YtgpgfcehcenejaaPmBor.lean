/-
  PM, part 30: a call that borrows the rows that its arguments lie over: its answer speaks of no memory.
-/
import Derived.Test.YtgpgfcehcenejaaPmKit
set_option linter.unusedSectionVars false
namespace Go.PM
variable [Glob]
variable {P : Program}

/-- Data that speaks of no memory. -/
def D.light : D → Bool
  | .agg _ => false
  | .sl _ _ xs => xs.isEmpty
  | _ => true
def V.light : V → Bool
  | .d x => x.light
  | .tup cs => lights cs
  | _ => false
where lights : List V → Bool
  | [] => true
  | .d x :: r => x.light && lights r
  | _ :: _ => false
theorem DR.of_light {w w' : World} {S S' : Stb} {x : D} {v : Value} (h : DR w S x v) (hx : x.light = true) : DR w' S' x v := by
  cases h with
  | b x => exact .b x
  | i k n => exact .i k n
  | s x => exact .s x
  | k v hv => exact .k v hv
  | agg cs arr => cases hx
  | sl sz full xs a cap b off uf h1 h2 h3 h4 h5 h6 h7 =>
    have : xs = [] := by simpa [D.light] using hx
    subst this
    exact .sl sz full [] a cap b off uf h1 h2 (fun _ => rfl) (fun h => absurd rfl h) (by simp) (by simp) (by simp)
theorem lights_mem : ∀ {cs : List V}, V.light.lights cs = true → ∀ (j : Nat) (c : V), cs[j]? = some c → ∃ x, c = .d x ∧ x.light = true
  | [], _, j, c, hj => by simp at hj
  | v :: r, h, j, c, hj => by
    cases v with
    | d x =>
      simp only [V.light.lights, Bool.and_eq_true] at h
      cases j with
      | zero => simp at hj; subst hj; exact ⟨x, rfl, h.1⟩
      | succ j => exact lights_mem h.2 j c (by simpa using hj)
    | _ => cases h
theorem VR.of_light {w w' : World} {S S' : Stb} {h h' : Hp} {β β' : Bet} {v : V} {cv : Value} (hr : VR w S h β v cv) (hv : v.light = true) : VR w' S' h' β' v cv := by
  cases v with
  | d x => cases hr with | d hd => exact .d (hd.of_light hv)
  | tup cs =>
    cases hr with
    | tup _ arr h1 h2 =>
      refine .tup cs arr h1 fun j c u hj hu => ?_
      obtain ⟨x, rfl, hx⟩ := lights_mem hv j c hj
      cases h2 j _ u hj hu with
      | d hd => exact .d (hd.of_light hx)
  | _ => cases hv

/-- Where all that was there is as it was. -/
theorem kept {w w' : World} {S : Stb} {h : Hp} {β : Bet} (hr : HR w S h β) (fr : ∀ i, i < w.heap.size → w'.heap[i]? = w.heap[i]?) (ho : Out w w') (hs : w.heap.size ≤ w'.heap.size) (hf : ∀ a, a.block < w.heap.size → w'.frozen? a = w.frozen? a) :
    HR w' S h β ∧ Evol w S h β w' S h β := by
  have lt : ∀ {i : Nat} {o : Obj}, w.heap[i]? = some o → i < w.heap.size := fun h => (Array.getElem?_eq_some_iff.1 h).1
  have E : Evol w S h β w' S h β :=
    ⟨ho, hs, fun i hi _ => fr i hi, fun i c e f hi => ⟨c, by rw [fr i (lt hi)]; exact hi, rfl⟩, fun i l hl => ⟨l, by rw [fr i (lt hl)]; exact hl⟩, hf, fun _ _ h => h, fun _ _ h => .inl h,
      fun b o hb => by simp [World.cell?, fr b (hr.old b o hb)], fun _ h => .inl h, Nat.le_refl _, fun _ b hb => ⟨b, hb, BEv.refl _ _⟩⟩
  exact ⟨⟨hr.len, fun n b hn => BR.keep E rfl (fun _ r b p h => ⟨h, fr b (hr.tlt r b p h), fun _ h => h⟩) (fun b p h => ⟨fr b (hr.lt h), fun _ h => h⟩) (hr.blk n b hn), hr.inj, fun b o hb => Nat.lt_of_lt_of_le (hr.old b o hb) hs, hr.glob.evol E,
    fun r b p h => Nat.lt_of_lt_of_le (hr.tlt r b p h) hs, hr.one⟩, E⟩

def allData : List V → Bool
  | [] => true
  | .d _ :: r => allData r
  | _ :: _ => false
theorem allData_mem : ∀ {cs : List V}, allData cs = true → ∀ (j : Nat) (c : V), cs[j]? = some c → ∃ x, c = .d x
  | [], _, j, c, hj => by simp at hj
  | v :: r, h, j, c, hj => by
    cases v with
    | d x =>
      cases j with
      | zero => simp at hj; subst hj; exact ⟨x, rfl⟩
      | succ j => exact allData_mem (cs := r) h j c (by simpa using hj)
    | _ => cases h

theorem callV_borrow {f : FuncId} {args args' : List V} {h : Hp} {k : V → Hp → Prop} {v : V} (hc : CallP P f args' v) (hv : v.light = true) (hk : k v h) (hl : liftArgsK args h fun ds _ => allData ds = true ∧ VLes ds args') : CallV P f args h k := by
  intro w S β argv hr hva
  obtain ⟨ds, h', ⟨hd, hle⟩, hlen, hds⟩ := liftArgsK_spec _ _ _ hl
  obtain ⟨S1, r1, e1, d1⟩ := hds w S β hr argv.toList (by simpa using hva.1) fun j c u hj hu => hva.2 j c u hj (by simpa using hu)
  have r0 : HR w S1 [] [] := ⟨Nat.le_refl _, fun n b h => by simp at h, fun n m b p q h => by simp at h, r1.old, r1.glob, fun r b p h => by simp [tl] at h, fun n m b c h => by simp at h⟩
  have v0 : VRs w S1 [] [] ds argv := ⟨by rw [hlen]; exact hva.1, fun j c u hj hu => by
    obtain ⟨x, rfl⟩ := allData_mem hd j c hj
    cases d1 j _ u hj (by simpa using hu) with
    | d hx => exact .d hx⟩
  have key : ∀ {w' : World} {S' : Stb} {β' : Bet}, Evol w S1 [] [] w' S' [] β' → HR w' S h β ∧ Evol w S h β w' S h β := fun g => kept hr (fun i hi => g.frame i hi (fun ⟨n, p, hn⟩ => by simp at hn)) g.outer g.size g.froz
  rcases (hc.le hle) w S1 [] [] argv r0 v0 with ⟨h1, h2⟩ | ⟨cv, w', h1, S', β', g1, g2, g3⟩
  · refine .inl ⟨h1, fun cs => ?_⟩
    obtain ⟨e, w', fr, ⟨cv, he, S', β', g1, g2, g3⟩, r⟩ := h2 cs
    exact ⟨e, w', fr, ⟨cv, he, v, h, S, β, hk, (key g3).1, g2.of_light hv, (key g3).2⟩, r⟩
  · exact .inr ⟨cv, w', h1, v, h, S, β, hk, (key g3).1, g2.of_light hv, (key g3).2⟩

/-- A call by its pure contract that leaves the rows of its arguments as they are: they may still be written. -/
theorem ACall.borrow {f : FuncId} {args args' : List V} {h : Hp} {k : V → Hp → Prop} {v : V} (hc : CallP P f args' v) (hv : v.light = true) (hl : liftArgsK args h fun ds _ => allData ds = true ∧ VLes ds args') (hk : k v h) : ACall P f args h k :=
  .ofV (callV_borrow hc hv hk hl)
end Go.PM
