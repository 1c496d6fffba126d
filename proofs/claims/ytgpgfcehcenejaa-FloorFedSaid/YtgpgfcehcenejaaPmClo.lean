/-
  PM: calls that hand back a function whose variables are never set again.
-/
import Derived.Test.YtgpgfcehcenejaaPmEnv
import Derived.Test.YtgpgfcehcenejaaPmFun
set_option linter.unusedSectionVars false
namespace Go.PM
variable [Glob]
variable {P : Program} {T : TT}

/-- Captured pointers to variables of data. -/
def cloK : List V → Hp → List (List D) → Prop
  | [], _, [] => True
  | v :: vs, h, cs :: r => (∃ n, v = .ptr n 0 0 0 ∧ h[n]? = some (.vard cs)) ∧ cloK vs h r
  | _, _, _ => False
def cloRetK (g : FuncId) (caps : List (List D)) (v : V) (h : Hp) : Prop := match v with
  | .fn g' vs => g' = g ∧ cloK vs h caps
  | _ => False
theorem cloK_get : ∀ {vs : List V} {h : Hp} {caps : List (List D)}, cloK vs h caps → vs.length = caps.length ∧ ∀ (j : Nat) (v : V) (cs : List D), vs[j]? = some v → caps[j]? = some cs → ∃ n, v = .ptr n 0 0 0 ∧ h[n]? = some (.vard cs)
  | [], h, [], _ => ⟨rfl, fun j v cs hv => by simp at hv⟩
  | [], h, _ :: _, hk => by simp [cloK] at hk
  | v :: vs, h, [], hk => by simp [cloK] at hk
  | v :: vs, h, cs :: r, hk => by
    obtain ⟨⟨n, e, h1⟩, h2⟩ := hk
    obtain ⟨i1, i2⟩ := cloK_get h2
    refine ⟨by simp [i1], fun j v cs' hv hc => ?_⟩
    cases j with
    | zero => simp at hv hc; subst hv hc; exact ⟨n, e, h1⟩
    | succ j => exact i2 j v cs' (by simpa using hv) (by simpa using hc)

theorem exClo_sound {E : Env} (hE : E.Ok P) {f : FuncId} {fn : Func} (hf : P.funcs[f]? = some fn) (hname : (fn.name == "runtime.NumGoroutine") = false) (hN : E.N = fn.ntmps) {args : List V} (hargs : args.all (nmV 0) = true)
    (hsz : args.length ≤ fn.ntmps) {g : FuncId} {caps : List (List D)} (hx : exFn E fn args [] fun v h => cloRetK g caps v h) : CallP P f args (.fn g (caps.map fun cs => .rp cs 0)) := by
  intro w S h β argv hr hv
  have hc := exFn_sound hE hf hname hN hsz hx w S [] argv (hr_nil hr.old hr.glob) ⟨hv.1, fun j c u hj hu => by
    exact (hv.2 j c u hj hu).nil (List.all_eq_true.1 hargs _ (List.mem_of_getElem? hj))⟩
  have key : ∀ (cv : Value) (w' : World), (∃ v h' S' β', cloRetK g caps v h' ∧ HR w' S' h' β' ∧ VR w' S' h' β' v cv ∧ Evol w S [] [] w' S' h' β') →
      ∃ S' β', HR w' S' h β' ∧ VR w' S' h β' (.fn g (caps.map fun cs => .rp cs 0)) cv ∧ Evol w S h β w' S' h β' := fun cv w' ⟨v, h', S', β', hk, hr', hv', hE'⟩ => by
    obtain ⟨S2, hS2⟩ : ∃ S2 : Stb, ∀ b o, S2 b o ↔ (S' b o ∨ ∃ (n : Nat) (cs : List D), h'[n]? = some (Blk.vard cs) ∧ β'[n]? = some (some (b, 0))) := ⟨fun b o => S' b o ∨ ∃ (n : Nat) (cs : List D), h'[n]? = some (Blk.vard cs) ∧ β'[n]? = some (some (b, 0)), fun _ _ => by rfl⟩
    have hsub : ∀ b o, S' b o → S2 b o := fun b o hs => (hS2 b o).2 (.inl hs)
    have hbig : ∀ (n b p : Nat), β'[n]? = some (some (b, p)) → w.heap.size ≤ b := fun n b p hn => by
      rcases hE'.imgs b ⟨n, p, hn⟩ with ⟨m, q, hm⟩ | h
      · simp at hm
      · exact h
    refine ⟨S2, β, ?_⟩
    have hnew : ∀ b o, S2 b o → S b o ∨ w.heap.size ≤ b := fun b o hs => by
      rcases (hS2 b o).1 hs with hs | ⟨n, cs, _, hn⟩
      · rcases hE'.new b o hs with h | h | ⟨m, p, hm⟩
        · exact .inl h
        · exact .inr h
        · simp at hm
      · exact .inr (hbig n b 0 hn)
    have E2 : Evol w S h β w' S2 h β := by
      refine ⟨hE'.outer, hE'.size, fun i hi _ => hE'.frame i hi ?_, hE'.shape, hE'.loops, hE'.froz, fun b o hs => hsub b o (hE'.sub b o hs), fun b o hs => ?_, hE'.cell, fun b hb => .inl hb, Nat.le_refl _, fun m b hm => ⟨b, hm, BEv.refl _ _⟩⟩
      · rintro ⟨m, p, hm⟩; simp at hm
      · rcases hnew b o hs with h | h
        · exact .inl h
        · exact .inr (.inl h)
    have stays : ∀ b', b' < w.heap.size → w'.heap[b']? = w.heap[b']? ∧ ∀ o, S2 b' o → S b' o := fun b' hlt => by
      refine ⟨hE'.frame b' hlt (by rintro ⟨m, p, hm⟩; simp at hm), fun o ho => ?_⟩
      rcases hnew b' o ho with h | h
      · exact h
      · omega
    have hold : ∀ b o, S2 b o → b < w'.heap.size := fun b o hs => by
      rcases (hS2 b o).1 hs with hs | ⟨n, cs, hn, hb⟩
      · exact hr'.old b o hs
      · exact hr'.lt hb
    have hglob : GlobOk w' S2 := fun p hp j c hj => by
      obtain ⟨a1, u, a2, a3, a4⟩ := hr'.glob p hp j c hj
      exact ⟨a1, u, a2, a3.evol hsub (fun _ _ _ => rfl), hsub _ _ a4⟩
    refine ⟨⟨hr.len, fun m b hm => BR.keep E2 rfl (fun _ r b p ht => ⟨ht, stays b (hr.tlt r b p ht)⟩) (fun b' p hb' => stays b' (hr.lt hb')) (hr.blk m b hm), hr.inj, hold, hglob, fun r b p ht => Nat.lt_of_lt_of_le (hr.tlt r b p ht) hE'.size, hr.one⟩, ?_, E2⟩
    unfold cloRetK at hk
    split at hk
    · rename_i g' vs
      obtain ⟨rfl, hk⟩ := hk
      obtain ⟨k1, k2⟩ := cloK_get hk
      cases hv' with
      | fn _ _ arr a1 a2 =>
        refine .fn _ _ arr (by rw [a1, List.length_map, k1]) fun j c u hj hu => ?_
        rw [List.getElem?_map] at hj
        cases hcs : caps[j]? with
        | none => rw [hcs] at hj; cases hj
        | some cs =>
          rw [hcs] at hj
          cases hj
          have hjl : j < vs.length := by rw [k1]; exact (List.getElem?_eq_some_iff.1 hcs).1
          have hvj := List.getElem?_eq_getElem hjl
          obtain ⟨n, e, hn⟩ := k2 j _ cs hvj hcs
          have hu' := a2 j _ u hvj hu
          rw [e] at hu'
          cases hu' with
          | ptr h1 h2 =>
            simp only [PR, hn] at h2
            obtain ⟨b, hb, _, _, rfl⟩ := h2
            obtain ⟨b', cells, elem, g1, g2, g3, g4, g5⟩ := hr'.blk n _ hn
            rw [hb] at g1
            simp at g1
            subst g1
            have := VR.rp (w := w') (S := S2) (h := h) (β := β) cs 0 b 0 (fun j => cells.getD j undef) (fun j c hj => ?_) (fun j c hj => ?_)
            · simpa using this
            · have hjl : j < cells.size := by rw [g3]; exact (List.getElem?_eq_some_iff.1 hj).1
              refine ⟨(g4 j c cells[j] hj (Array.getElem?_eq_getElem hjl)).1, ?_, (hS2 _ _).2 (.inr ⟨n, cs, hn, hb⟩)⟩
              rw [Nat.zero_add, cell_of_row w' b j cells elem (0, 0) g2, Array.getElem?_eq_getElem hjl]
              simp [Array.getD, hjl]
            · have hjl : j < cells.size := by rw [g3]; exact (List.getElem?_eq_some_iff.1 hj).1
              have := (g4 j c cells[j] hj (Array.getElem?_eq_getElem hjl)).2
              simp only [Array.getD, hjl, dif_pos]
              exact this.evol hsub (fun _ _ _ => rfl)
    · exact hk.elim
  rcases hc with ⟨h1, h2⟩ | ⟨v, w', h1, h2⟩
  · exact .inl ⟨h1, fun cs => by
      obtain ⟨e, w', fr, ⟨v, he, hk⟩, r⟩ := h2 cs
      exact ⟨e, w', fr, ⟨v, he, key v w' hk⟩, r⟩⟩
  · exact .inr ⟨v, w', h1, key v w' h2⟩
end Go.PM
