/-
  PM: ranges over maps.
-/
import Derived.Test.YtbifaidepiejeaaPmLift
import Derived.Maps.RangeRun
set_option linter.unusedSectionVars false
namespace Go.PM
open Go.ChangeMaps (setBlock)
variable [Glob]
variable {P : Program} {T : TT}

/-- A name is given up; its block is kept without a name. -/
theorem gone_tail {w : World} {S : Stb} {h : Hp} {β : Bet} (hr : HR w S h β) {n b p : Nat} {blk : Blk} (hn : h[n]? = some blk) (hb : β[n]? = some (some (b, p))) (hev : ∀ t, BEv blk β[n]? .gone t) :
    HR w S (h.set n .gone) (β.set n none ++ [some (b, p)]) ∧ Evol w S h β w S (h.set n .gone) (β.set n none ++ [some (b, p)]) ∧ tl (h.set n .gone) (β.set n none ++ [some (b, p)]) (β.length - h.length) = some (some (b, p)) := by
  have hnl : n < h.length := (List.getElem?_eq_some_iff.1 hn).1
  have hlen := hr.len
  obtain ⟨β', hβ'⟩ : ∃ β', β' = β.set n none ++ [some (b, p)] := ⟨_, rfl⟩
  obtain ⟨h', hh'⟩ : ∃ h', h' = h.set n .gone := ⟨_, rfl⟩
  rw [← hβ', ← hh']
  have hl' : h'.length = h.length := by rw [hh']; simp
  have hold : ∀ i, i ≠ n → i < β.length → β'[i]? = β[i]? := fun i hi hl => by rw [hβ', List.getElem?_append_left (by simpa using hl), List.getElem?_set_ne (Ne.symm hi)]
  have hbm : β'[n]? = some none := by rw [hβ', List.getElem?_append_left (by simp; omega), List.getElem?_set_self (by omega)]
  have hlast : β'[β.length]? = some (some (b, p)) := by rw [hβ', List.getElem?_append_right (by simp)]; simp
  have hcase : ∀ i c q, β'[i]? = some (some (c, q)) → (i ≠ n ∧ i < β.length ∧ β[i]? = some (some (c, q))) ∨ (i = β.length ∧ (c, q) = (b, p)) := fun i c q hi => by
    by_cases h0 : i = n
    · subst h0; rw [hbm] at hi; cases hi
    · by_cases h1 : i < β.length
      · exact .inl ⟨h0, h1, by rw [← hold i h0 h1]; exact hi⟩
      · have : i = β.length := by
          have := (List.getElem?_eq_some_iff.1 hi).1
          rw [hβ'] at this; simp at this; omega
        subst this
        rw [hlast] at hi; simp at hi
        exact .inr ⟨rfl, by simp [hi]⟩
  have hget : ∀ i, i ≠ n → h'[i]? = h[i]? := fun i hi => by rw [hh', List.getElem?_set_ne (Ne.symm hi)]
  have hgn : h'[n]? = some .gone := by rw [hh', List.getElem?_set_self hnl]
  have htl : ∀ r c q, tl h β r = some (some (c, q)) → tl h' β' r = some (some (c, q)) := fun r c q ht => by
    unfold tl at ht ⊢
    rw [hl', hold _ (by omega) (List.getElem?_eq_some_iff.1 ht).1]
    exact ht
  have E : Evol w S h β w S h' β' := by
    refine ⟨Out.refl _, Nat.le_refl _, fun _ _ _ => rfl, fun _ c _ _ hi => ⟨c, hi, rfl⟩, fun _ l hl => ⟨l, hl⟩, fun _ _ => rfl, fun _ _ h => h, fun _ _ h => .inl h, fun _ _ _ => rfl, ?_, by omega, fun i c hi => ?_⟩
    · rintro c ⟨i, q, hi⟩
      rcases hcase i c q hi with ⟨_, _, h1⟩ | ⟨_, h1⟩
      · exact .inl ⟨i, q, h1⟩
      · simp only [Prod.mk.injEq] at h1
        obtain ⟨rfl, rfl⟩ := h1
        exact .inl ⟨_, _, hb⟩
    · have hil : i < h.length := (List.getElem?_eq_some_iff.1 hi).1
      by_cases hin : i = n
      · subst hin
        rw [hn] at hi; cases hi
        exact ⟨_, hgn, hev _⟩
      · exact ⟨c, by rw [hget i hin]; exact hi, by rw [hold i hin (by omega)]; exact BEv.refl _ _⟩
  refine ⟨⟨?_, fun i c hi => ?_, ?_, hr.old, hr.glob.evol E, fun r c q hc => ?_, ?_⟩, E, ?_⟩
  · rw [hl', hβ', List.length_append, List.length_set]; omega
  · by_cases hin : i = n
    · subst hin
      rw [hgn] at hi; cases hi
      exact hbm
    · rw [hget i hin] at hi
      have hil : i < h.length := (List.getElem?_eq_some_iff.1 hi).1
      exact BR.keep E (hold i hin (by omega)) (fun _ r b p ht => ⟨htl r b p ht, rfl, fun _ h => h⟩) (fun _ _ _ => ⟨rfl, fun _ h => h⟩) (hr.blk i c hi)
  · intro i j c q q2 h1 h2
    rcases hcase i c q h1 with ⟨x0, x1, x2⟩ | ⟨x1, x2⟩ <;> rcases hcase j c q2 h2 with ⟨y0, y1, y2⟩ | ⟨y1, y2⟩
    · exact hr.inj _ _ _ _ _ x2 y2
    · simp only [Prod.mk.injEq] at y2
      obtain ⟨rfl, rfl⟩ := y2
      exact absurd (hr.inj _ _ _ _ _ x2 hb) x0
    · simp only [Prod.mk.injEq] at x2
      obtain ⟨rfl, rfl⟩ := x2
      exact absurd (hr.inj _ _ _ _ _ y2 hb) y0
    · omega
  · unfold tl at hc
    rcases hcase _ _ _ hc with ⟨_, _, x2⟩ | ⟨_, x2⟩
    · exact hr.lt x2
    · simp only [Prod.mk.injEq] at x2
      obtain ⟨rfl, rfl⟩ := x2
      exact hr.lt hb
  · have key : ∀ {i : Nat} {c : Blk}, h'[i]? = some c → c.own = true → h[i]? = some c := fun {i c} hi hc => by
      by_cases hin : i = n
      · subst hin; rw [hgn] at hi; cases hi; cases hc
      · rwa [hget i hin] at hi
    exact fun i j b c h1 h2 h3 h4 => hr.one _ _ _ _ (key h1 h3) (key h2 h4) h3 h4
  · unfold tl
    rw [hl', show h.length + (β.length - h.length) = β.length by omega]
    exact hlast

theorem unseen_none (mes : Array MapEntry) : unseen mes #[] = mes := by
  unfold unseen
  exact Array.filter_eq_self.2 fun _ _ => by simp

/-- A range over a map begins. -/
theorem range_sound (hT : tokB P T = true) {o : Oper} {t : TypeId} {x : Operand} (ho : o.op = .range t x) {ti : TI} (hty : tyOf T t = some ti) {k e : TypeId} (hk : ti.kind = .map k e) {T' : TT} {kt : TypeId} {es : List (D × D)} {n nf : Nat}
    {ρ : Operand → Value} {w : World} {S : Stb} {hp : Hp} {β : Bet} (hr : HR w S hp β) (hv : VR w S hp β (.map n) (ρ x)) (hn : hp[n]? = some (.map T' kt es)) (hf : hp[nf]? = some .res) (hno : hp.all (fun b => !b.own) = true) :
    ∃ w' S' β' cv, (execOp ρ o).run P w = .ok (.value cv) w' ∧ HR w' S' ((hp.set n .gone).set nf (.miter T' kt es none)) β' ∧ VR w' S' ((hp.set n .gone).set nf (.miter T' kt es none)) β' (.ptr nf 0 0 0) cv ∧
      Evol w S hp β w' S' ((hp.set n .gone).set nf (.miter T' kt es none)) β' := by
  have hu := kind_map (tyOf_ok hT hty) hk
  have hnf : nf ≠ n := by rintro rfl; rw [hn] at hf; cases hf
  obtain ⟨mb, mes, clock, a1, a2, a3, a4, a5, a6⟩ := hr.blk n _ hn
  generalize hxx : ρ x = cx at hv
  cases hv with
  | map g1 g2 =>
    have hb := g2 (by simp [hn])
    rw [a1] at hb; simp at hb; subst hb
    obtain ⟨r0, e0, t0⟩ := gone_tail hr hn a1 (fun _ => .inl rfl)
    obtain ⟨h0, hh0⟩ : ∃ h0, h0 = hp.set n .gone := ⟨_, rfl⟩
    obtain ⟨β0, hβ0⟩ : ∃ β0, β0 = β.set n none ++ [some (mb, 0)] := ⟨_, rfl⟩
    rw [← hh0, ← hβ0] at r0 e0 t0
    rw [← hh0]
    have hf0 : h0[nf]? = some .res := by rw [hh0, List.getElem?_set_ne (Ne.symm hnf)]; exact hf
    have hfl : nf < h0.length := (List.getElem?_eq_some_iff.1 hf0).1
    have hnone : β0[nf]? = some none := by have := r0.blk nf _ hf0; simpa [BR] using this
    have hnb : nf < β0.length := (List.getElem?_eq_some_iff.1 hnone).1
    have hmlt : mb < w.heap.size := (Array.getElem?_eq_some_iff.1 a2).1
    have hset : (β0.set nf (some (w.heap.size, 0)))[nf]? = some (some (w.heap.size, 0)) := by simp [hnb]
    have hno0 : ∀ (m : Nat) (c : Blk), h0[m]? = some c → c.own = true → False := fun m c hm hc => by
      by_cases hmn : m = n
      · subst hmn
        rw [hh0, List.getElem?_set_self (List.getElem?_eq_some_iff.1 hn).1] at hm
        cases hm; cases hc
      · rw [hh0, List.getElem?_set_ne (Ne.symm hmn)] at hm
        have := List.all_eq_true.1 hno c (List.mem_of_getElem? hm)
        rw [hc] at this; cases this
    obtain ⟨r1, e1⟩ := updG r0 (w' := w.alloc (.mapIter (some mb) clock #[] clock)) hf0 (blk' := .miter T' kt es none) (some (w.heap.size, 0)) (by simp) (fun i hi _ => heap_alloc_old w _ hi) (fun i p c e f hp => by rw [hnone] at hp; simp at hp)
      (fun i p l hp => by rw [hnone] at hp; simp at hp) (fun a _ => frozen_alloc_obj w _ (fun _ _ _ h => by cases h) a) (fun i p o hp => by rw [hnone] at hp; simp at hp) (fun b p hb => .inr (by cases hb; exact Nat.le_refl _)) (by simp [BEv])
      (fun E => by
        refine ⟨w.heap.size, mb, _, mes, clock, #[], clock, clock, hset, heap_alloc_new w _, by rw [tl_set hfl]; exact t0, by rw [heap_alloc_old w _ hmlt]; exact a2, ⟨Nat.le_refl _, Nat.le_refl _, a5⟩, ?_, trivial, fun o ho => absurd (r0.old _ _ ho) (by omega), a6⟩
        rw [unseen_none]
        refine ⟨by rw [Array.length_toList]; exact a3.symm, fun i p m hi hm => ?_⟩
        obtain ⟨b1, b2, b3⟩ := a4 i p m hi (by simpa using hm)
        exact ⟨b1, b2.evol E.sub E.cell, b3.evol E.sub E.cell⟩)
      (hone := fun i j b c h1 h2 h3 h4 => by
        have key : ∀ {i : Nat} {c : Blk}, (h0.set nf (.miter T' kt es none))[i]? = some c → c.own = true → i = nf := fun {i c} hi hc => by
          by_cases hin : i = nf
          · exact hin
          · rw [List.getElem?_set_ne (Ne.symm hin)] at hi
            exact (hno0 i c hi hc).elim
        exact (key h1 h3).trans (key h2 h4).symm)
    refine ⟨_, S, _, _, ?_, r1, .ptr (v := .pointer (some ⟨w.heap.size, 0, none⟩)) rfl ?_, e0.trans e1⟩
    · simp [execOp, ho, hxx, Instr.range, run_underlying hu, MapKept.run_getObj_map a2]
    · unfold PR
      rw [List.getElem?_set_self hfl]
      exact ⟨_, hset, rfl, rfl, rfl⟩

theorem filter_erase {α : Type} (f : α → Nat) : ∀ {l : List α}, (l.map f).Nodup → ∀ {j : Nat} {e : α}, l[j]? = some e → (l.filter fun x => !(f x == f e)) = l.eraseIdx j
  | [], _, j, e, h => by simp at h
  | x :: l, hn, 0, e, h => by
    simp only [List.getElem?_cons_zero, Option.some.injEq] at h
    subst h
    have hn : f x ∉ l.map f ∧ (l.map f).Nodup := List.nodup_cons.1 hn
    rw [List.filter_cons_of_neg (by simp), List.eraseIdx_zero, List.tail_cons, List.filter_eq_self]
    intro a ha
    have : f a ≠ f x := fun e => hn.1 (e ▸ List.mem_map.2 ⟨a, ha, rfl⟩)
    simp [this]
  | x :: l, hn, j + 1, e, h => by
    have hn : f x ∉ l.map f ∧ (l.map f).Nodup := List.nodup_cons.1 hn
    have h : l[j]? = some e := by simpa using h
    have hne : f x ≠ f e := fun he => hn.1 (he ▸ List.mem_map.2 ⟨e, List.mem_of_getElem? h, rfl⟩)
    rw [List.filter_cons_of_pos (by simp only [Bool.not_eq_true', beq_eq_false_iff_ne, ne_eq]; exact hne), filter_erase f hn.2 h, List.eraseIdx_cons_succ]

/-- What comes next. -/
theorem next_sound {o : Oper} {x : Operand} (ho : o.op = .next x false) {kt : TypeId} {left : List (D × D)} {cur : Option (D × D)} {n : Nat}
    {ρ : Operand → Value} {w : World} {S : Stb} {hp : Hp} {β : Bet} (hr : HR w S hp β) (hv : VR w S hp β (.ptr n 0 0 0) (ρ x)) (hn : hp[n]? = some (.miter T kt left cur)) :
    (left = [] ∧ (execOp ρ o).run P w = .ok (.value (.tuple #[.bool false])) w) ∨
    ∃ (j : Nat) (p : D × D) (w' : World) (k v : Value), left[j]? = some p ∧ (execOp ρ o).run P w = .ok (.value (.tuple #[.bool true, k, v])) w' ∧ DR w' S p.1 k ∧ DR w' S p.2 v ∧
      HR w' S (hp.set n (.miter T kt (left.eraseIdx j) (some p))) β ∧ Evol w S hp β w' S (hp.set n (.miter T kt (left.eraseIdx j) (some p))) β := by
  obtain ⟨r, mb, q, mes, since, seen, last, clock, a1, a2, a3, a4, ⟨b1, b2, b3⟩, ⟨c1, c2⟩, _, d1, d2⟩ := hr.blk n _ hn
  have hnl : n < hp.length := (List.getElem?_eq_some_iff.1 hn).1
  generalize hxx : ρ x = cx at hv
  cases hv with
  | ptr g0 g =>
    simp only [PR, hn] at g
    obtain ⟨b', h1, _, _, rfl⟩ := g
    rw [a1] at h1; simp at h1; subst h1
    have hset : β.set n (some (r, 0)) = β := set_self a1
    rcases run_next_at (P := P) w o.type r mb since last seen mes clock a2 a4 b3.2 b1 with ⟨e1, e2⟩ | ⟨e, he, w1, hw1, hrun⟩
    · refine .inl ⟨List.eq_nil_of_length_eq_zero ?_, ?_⟩
      · rw [c1, Array.length_toList]; exact e1
      · simp [execOp, ho, hxx, e2]
    · have he : e ∈ (unseen mes seen).toList := he
      obtain ⟨j, hj, hje⟩ := List.getElem_of_mem he
      have hjg : (unseen mes seen).toList[j]? = some e := by rw [List.getElem?_eq_getElem hj]; exact congrArg some hje
      obtain ⟨p, hp'⟩ : ∃ p, left[j]? = some p := ⟨left[j]'(by rw [c1]; exact hj), List.getElem?_eq_getElem _⟩
      obtain ⟨k1, k2, k3⟩ := c2 j p e hp' hjg
      have hem : e ∈ mes.toList := by
        have : e ∈ (unseen mes seen).toList := he
        unfold unseen at this
        simp at this ⊢
        exact this.1
      have hw1' : HR w1 S hp β ∧ Evol w S hp β w1 S hp β := by
        rcases hw1 with rfl | rfl
        · exact ⟨hr, Evol.refl _ _ _ _⟩
        · exact drawn hr
      have ha2 : w1.heap[r]? = some (.mapIter (some mb) since seen last) := by rcases hw1 with rfl | rfl <;> exact a2
      have ha4 : w1.heap[mb]? = some (.map mes clock) := by rcases hw1 with rfl | rfl <;> exact a4
      have hlt : r < w1.heap.size := (Array.getElem?_eq_some_iff.1 ha2).1
      have hne : mb ≠ r := by rintro rfl; rw [ha2] at ha4; cases ha4
      have hnew : (setBlock w1 r (.mapIter (some mb) since (seen.push e.born) clock)).heap[r]? = some (.mapIter (some mb) since (seen.push e.born) clock) := by simp [setBlock, hlt]
      have hoth : ∀ i, i ≠ r → (setBlock w1 r (.mapIter (some mb) since (seen.push e.born) clock)).heap[i]? = w1.heap[i]? := fun i hi => by simp only [setBlock]; rw [Array.getElem?_setIfInBounds_ne (Ne.symm hi)]
      have hleft : (unseen mes (seen.push e.born)).toList = (unseen mes seen).toList.eraseIdx j := by
        have hnd : ((unseen mes seen).toList.map (·.born)).Nodup := by
          have : (unseen mes seen).toList.Sublist mes.toList := by unfold unseen; rw [Array.toList_filter]; exact List.filter_sublist
          exact b3.1.sublist (this.map _)
        rw [← filter_erase (·.born) hnd hjg]
        unfold unseen
        rw [Array.toList_filter, Array.toList_filter, List.filter_filter]
        refine List.filter_congr fun x _ => ?_
        rw [Array.contains_push, Bool.not_or, Bool.and_comm]
      obtain ⟨r1, r2⟩ := upd hw1'.1 hn (blk' := .miter T kt (left.eraseIdx j) (some p)) (w' := setBlock w1 r (.mapIter (some mb) since (seen.push e.born) clock)) (some (r, 0)) (by simp [setBlock]) (fun i _ hh => hoth i (fun e => hh 0 (by rw [e]; exact a1)))
        (fun i p c e f hp hi => by rw [a1] at hp; simp at hp; obtain ⟨rfl, _⟩ := hp; rw [ha2] at hi; simp at hi)
        (fun i p l hp hi => by rw [a1] at hp; simp at hp; obtain ⟨rfl, _⟩ := hp; rw [ha2] at hi; simp at hi)
        (fun a => by
          by_cases ha : a.block = r
          · unfold World.frozen?; simp only [ha, hnew, ha2]
          · exact World.frozen?_of_block (hoth _ ha))
        (fun i p o hp hs => by rw [a1] at hp; simp at hp; obtain ⟨rfl, _⟩ := hp; exact absurd hs (d1 o))
        (fun b' p hb' => .inl ⟨0, by cases hb'; exact a1⟩) (by rw [a1]; exact .inr ⟨⟨_, _, rfl⟩, rfl⟩)
        (fun E => by
          refine ⟨r, mb, q, mes, since, seen.push e.born, clock, clock, by rw [hset]; exact a1, hnew, by rw [tl_set hnl]; exact a3, by rw [hoth mb hne]; exact ha4, ⟨b2, b2, b3⟩, ?_, ⟨seen, e, rfl, rfl, hem, (k2.evol hw1'.2.sub hw1'.2.cell).evol E.sub E.cell, (k3.evol hw1'.2.sub hw1'.2.cell).evol E.sub E.cell⟩, d1, d2⟩
          rw [hleft]
          refine ⟨by rw [List.length_eraseIdx_of_lt (by rw [c1]; exact hj), List.length_eraseIdx_of_lt hj, c1], fun i p' m hi hm => ?_⟩
          rw [List.getElem?_eraseIdx] at hi hm
          have : ∃ i' : Nat, left[i']? = some p' ∧ (unseen mes seen).toList[i']? = some m := by
            by_cases hij : i < j
            · rw [if_pos hij] at hi hm; exact ⟨_, hi, hm⟩
            · rw [if_neg hij] at hi hm; exact ⟨_, hi, hm⟩
          obtain ⟨i', f1, f2⟩ := this
          obtain ⟨f3, f4, f5⟩ := c2 i' p' m f1 f2
          exact ⟨f3, (f4.evol hw1'.2.sub hw1'.2.cell).evol E.sub E.cell, (f5.evol hw1'.2.sub hw1'.2.cell).evol E.sub E.cell⟩) (hone := fun _ => rfl)
      rw [hset] at r1 r2
      refine .inr ⟨j, p, _, _, _, hp', ?_, (k2.evol hw1'.2.sub hw1'.2.cell).evol r2.sub r2.cell, (k3.evol hw1'.2.sub hw1'.2.cell).evol r2.sub r2.cell, r1, hw1'.2.trans r2⟩
      simp [execOp, ho, hxx, hrun]

/-- The entry that came. -/
theorem entry_sound {o : Oper} {x : Operand} (ho : o.op = .entry x) {kt : TypeId} {left : List (D × D)} {p : D × D} {n : Nat}
    {ρ : Operand → Value} {w : World} {S : Stb} {hp : Hp} {β : Bet} (hr : HR w S hp β) (hv : VR w S hp β (.ptr n 0 0 0) (ρ x)) (hn : hp[n]? = some (.miter T kt left (some p))) :
    ∃ k v : Value, (execOp ρ o).run P w = .ok (.value (.tuple #[k, v])) w ∧ DR w S p.1 k ∧ DR w S p.2 v := by
  obtain ⟨r, mb, q, mes, since, seen, last, clock, a1, a2, a3, a4, ⟨b1, b2, b3⟩, _, ⟨s0, e, rfl, rfl, he, k1, k2⟩, d1, d2⟩ := hr.blk n _ hn
  generalize hxx : ρ x = cx at hv
  cases hv with
  | ptr g0 g =>
    simp only [PR, hn] at g
    obtain ⟨b', h1, _, _, rfl⟩ := g
    rw [a1] at h1; simp at h1; subst h1
    have hrun := run_entry_at (P := P) w r mb since s0 mes last e a2 a4 he b3.1
    exact ⟨_, _, by simp [execOp, ho, hxx, hrun], k1, k2⟩

end Go.PM
