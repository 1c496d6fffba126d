/-
  PM, part 14: an entry of a map is set.
-/
import Derived.Test.YtfckliidjmeeaaaDoorPmOps9
import Derived.Laws.NewFold
import Derived.Laws.CopyRow
import Derived.Test.YtfckliidjmeeaaaDoorPmOps5toPmOps7
set_option linter.unusedSectionVars false
namespace Go.PM
variable [Glob]
variable {P : Program} {T : TT}
theorem run_keyStays (u v : Value) (w : World) : ∃ cv w', (Instr.keyThatStays u v).run P w = .ok cv w' ∧ (w' = w ∨ w' = w.drew) ∧ (cv = u ∨ cv = v) := by
  unfold Instr.keyThatStays
  by_cases h : Instr.sameBits 10000 u v = true
  · exact ⟨v, w, by simp [h], .inl rfl, .inr rfl⟩
  · simp only [h, if_false, Sem.run_bind, run_choose_drew]
    rw [if_neg (by simp)]
    simp only [Sem.run_bind, run_choose_drew]
    split
    · exact ⟨v, w, by simp [Result.andThen], .inl rfl, .inr rfl⟩
    · simp only [Result.andThen, Sem.run_pure]
      split
      · exact ⟨v, w.drew, rfl, .inr rfl, .inr rfl⟩
      · exact ⟨u, w.drew, rfl, .inr rfl, .inl rfl⟩
theorem map_set {w : World} {S : Stb} {h : Hp} {β : Bet} (hr : HR w S h β) {n b : Nat} {kt : TypeId} {es es' : List (D × D)} {mes : Array MapEntry} {clock : Nat} (hn : h[n]? = some (.map T kt es))
    (hb : β[n]? = some (some (b, 0))) (hw : w.heap[b]? = some (.map mes clock)) (mes' : Array MapEntry) (clock' : Nat) (hl : mes'.size = es'.length)
    (hes : ∀ (j : Nat) (p : D × D) (m : MapEntry), es'[j]? = some p → mes'[j]? = some m → keyOk T kt p.1 = true ∧ DR w S p.1 m.key ∧ DR w S p.2 m.val) (hbn : Born mes' clock') :
    HR { w with heap := w.heap.setIfInBounds b (.map mes' clock') } S (h.set n (.map T kt es')) β ∧ Evol w S h β { w with heap := w.heap.setIfInBounds b (.map mes' clock') } S (h.set n (.map T kt es')) β := by
  have hbs : ∀ o, ¬ S b o := by
    obtain ⟨b', _, _, h1, _, _, _, _, h5⟩ := hr.blk n _ hn
    rw [hb] at h1; simp at h1; subst h1; exact h5
  have hlt : b < w.heap.size := (Array.getElem?_eq_some_iff.1 hw).1
  have hnew : (w.heap.setIfInBounds b (.map mes' clock'))[b]? = some (.map mes' clock') := by simp [hlt]
  have hset : β.set n (some (b, 0)) = β := set_self hb
  have hoth : ∀ i, i ≠ b → (w.heap.setIfInBounds b (.map mes' clock'))[i]? = w.heap[i]? := fun i hi => by rw [Array.getElem?_setIfInBounds_ne (Ne.symm hi)]
  have := upd hr hn (blk' := .map T kt es') (w' := { w with heap := w.heap.setIfInBounds b (.map mes' clock') }) (some (b, 0)) (by simp) (fun i _ hne => hoth i (fun e => hne 0 (by rw [e]; exact hb)))
    (fun i p c e f hp hi => by rw [hb] at hp; simp at hp; obtain ⟨rfl, _⟩ := hp; rw [hw] at hi; simp at hi)
    (fun i p l hp hi => by rw [hb] at hp; simp at hp; obtain ⟨rfl, _⟩ := hp; rw [hw] at hi; simp at hi)
    (fun a => by
      by_cases ha : a.block = b
      · unfold World.frozen?; simp only [ha, hnew, hw]
      · exact World.frozen?_of_block (hoth _ ha))
    (fun i p o hp hs => by rw [hb] at hp; simp at hp; obtain ⟨rfl, _⟩ := hp; exact absurd hs (hbs o))
    (fun b' p hb' => .inl ⟨0, by cases hb'; exact hb⟩) (by rw [hb]; exact .inr ⟨.inl ⟨es', rfl⟩, rfl⟩)
    (fun E => ⟨b, mes', clock', by rw [hset]; exact hb, hnew, hl, fun j p m hp hm => by
      obtain ⟨a1, a2, a3⟩ := hes j p m hp hm
      exact ⟨a1, a2.evol E.sub E.cell, a3.evol E.sub E.cell⟩, hbn, hbs⟩)
  rw [hset] at this
  exact this
theorem mapo_set {w : World} {S : Stb} {h : Hp} {β : Bet} (hr : HR w S h β) {n b : Nat} {kt : TypeId} {sz : Nat} {es es' : List (D × Option (List D))} {lent lent' : Option (D × V × Option Nat)} {mes : Array MapEntry} {clock : Nat} (hn : h[n]? = some (.mapo T kt sz es lent))
    (hb : β[n]? = some (some (b, 0))) (hw : w.heap[b]? = some (.map mes clock)) (mes' : Array MapEntry) (clock' : Nat)
    (hbr : ∀ (w' : World) (h' : Hp), Evol w S h β w' S h' β → w'.heap[b]? = some (.map mes' clock') → h'.length = h.length → (∀ r b p, tl h β r = some (some (b, p)) → w'.heap[b]? = w.heap[b]?) → BR w' S h' β n (.mapo T kt sz es' lent')) :
    HR { w with heap := w.heap.setIfInBounds b (.map mes' clock') } S (h.set n (.mapo T kt sz es' lent')) β ∧ Evol w S h β { w with heap := w.heap.setIfInBounds b (.map mes' clock') } S (h.set n (.mapo T kt sz es' lent')) β := by
  have hbs : ∀ o, ¬ S b o := by
    obtain ⟨_, b', _, h1, _, _, _, _, _, h5⟩ := hr.blk n _ hn
    rw [hb] at h1; simp at h1; subst h1; exact h5
  have hnl : n < h.length := (List.getElem?_eq_some_iff.1 hn).1
  have hlt : b < w.heap.size := (Array.getElem?_eq_some_iff.1 hw).1
  have hnew : (w.heap.setIfInBounds b (.map mes' clock'))[b]? = some (.map mes' clock') := by simp [hlt]
  have hset : β.set n (some (b, 0)) = β := set_self hb
  have hoth : ∀ i, i ≠ b → (w.heap.setIfInBounds b (.map mes' clock'))[i]? = w.heap[i]? := fun i hi => by rw [Array.getElem?_setIfInBounds_ne (Ne.symm hi)]
  have := upd hr hn (blk' := .mapo T kt sz es' lent') (w' := { w with heap := w.heap.setIfInBounds b (.map mes' clock') }) (some (b, 0)) (by simp) (fun i _ hne => hoth i (fun e => hne 0 (by rw [e]; exact hb)))
    (fun i p c e f hp hi => by rw [hb] at hp; simp at hp; obtain ⟨rfl, _⟩ := hp; rw [hw] at hi; simp at hi)
    (fun i p l hp hi => by rw [hb] at hp; simp at hp; obtain ⟨rfl, _⟩ := hp; rw [hw] at hi; simp at hi)
    (fun a => by
      by_cases ha : a.block = b
      · unfold World.frozen?; simp only [ha, hnew, hw]
      · exact World.frozen?_of_block (hoth _ ha))
    (fun i p o hp hs => by rw [hb] at hp; simp at hp; obtain ⟨rfl, _⟩ := hp; exact absurd hs (hbs o))
    (fun b' p hb' => .inl ⟨0, by cases hb'; exact hb⟩) (by rw [hb]; exact .inr ⟨.inr ⟨_, _, _, rfl⟩, rfl⟩) (hone := fun _ => rfl)
    (hbr := fun E => by
      rw [hset] at E ⊢
      exact hbr _ _ E hnew (by simp) fun r b' p ht => hoth b' (hr.tne hnl hb ht))
  rw [hset] at this
  exact this
theorem OwnE.stay {w w' : World} {S : Stb} {h h' : Hp} {β : Bet} {kt : TypeId} {sz : Nat} {es : List (D × Option (List D))} {lent : Option (D × V × Option Nat)} {mes : Array MapEntry} {q : Nat → Nat} (ho : OwnE w S h β T kt sz es lent mes q) (E : Evol w S h β w' S h' β)
    (hl : h'.length = h.length) (ht : ∀ r b p, tl h β r = some (some (b, p)) → w'.heap[b]? = w.heap[b]?) : OwnE w' S h' β T kt sz es lent mes q := fun j p m hj hm => by
  obtain ⟨a1, a2, a3⟩ := ho j p m hj hm
  refine ⟨a1, a2.evol E.sub E.cell, ?_⟩
  obtain ⟨key, x⟩ := p
  cases x with
  | none =>
    obtain ⟨v, v1, v2⟩ := a3
    exact ⟨v, v1, v2.evol E⟩
  | some xs =>
    obtain ⟨b2, base, cells, elem, cap, g1, g2, g3, g4, g5, g6, g7⟩ := a3
    refine ⟨b2, base, cells, elem, cap, by unfold tl at g1 ⊢; rw [hl]; exact g1, by rw [ht _ _ _ g1]; exact g2, g3, g4, g5, fun i x hi => ?_, g7⟩
    obtain ⟨f1, f2⟩ := g6 i x hi
    refine ⟨f1, fun j c hj => ?_⟩
    obtain ⟨f3, u, f4, f5⟩ := f2 j c hj
    exact ⟨f3, u, f4, f5.evol E.sub E.cell⟩
theorem own_put (hT : tokB P T = true) {kt : TypeId} {kti : TI} (hkty : tyOf T kt = some kti) {k : D} (hkey : keyOk T kt k = true) {w : World} {S : Stb} {hp : Hp} {β : Bet} (hr : HR w S hp β) {n b : Nat} {sz : Nat} {es : List (D × Option (List D))} {v0 : V} {there : Option Nat}
    (hn : hp[n]? = some (.mapo T kt sz es (some (k, v0, there)))) (hb : β[n]? = some (some (b, 0))) {kv : Value} (hkv : DR w S k kv) :
    (∃ j mes me, there = some j ∧ es[j]? = some (k, none) ∧ w.heap[b]? = some (.map mes es.length) ∧ mes[j]? = some me ∧ (∀ (i : Nat) (m : MapEntry), mes[i]? = some m → m.born = i) ∧ (Instr.findKey kt kv mes.toList).run P w = .ok (some (j, me.val)) w ∧ VR w S hp β v0 me.val ∧ mes.size = es.length ∧
      ∀ (w' : World) (cv xv : Value) (x : V), HR w' S hp β → Evol w S hp β w' S hp β → w'.heap = w.heap → DR w S k cv → VR w S hp β x xv → x.flat = true →
        HR { w' with heap := w'.heap.setIfInBounds b (.map (mes.modify j fun e => { e with key := cv, val := xv }) es.length) } S (hp.set n (.mapo T kt sz es (some (k, x, some j)))) β ∧
        Evol w' S hp β { w' with heap := w'.heap.setIfInBounds b (.map (mes.modify j fun e => { e with key := cv, val := xv }) es.length) } S (hp.set n (.mapo T kt sz es (some (k, x, some j)))) β) ∨
    (∃ mes, there = none ∧ v0 = .d (.sl 0 true []) ∧ w.heap[b]? = some (.map mes es.length) ∧ mes.size = es.length ∧ (Instr.findKey kt kv mes.toList).run P w = .ok none w ∧
      ∀ (xv : Value) (x : V), VR w S hp β x xv → x.flat = true →
        HR { w with heap := w.heap.setIfInBounds b (.map (mes.push { key := kv, val := xv, born := es.length }) (es.length + 1)) } S (hp.set n (.mapo T kt sz (es ++ [(k, none)]) (some (k, x, some es.length)))) β ∧
        Evol w S hp β { w with heap := w.heap.setIfInBounds b (.map (mes.push { key := kv, val := xv, born := es.length }) (es.length + 1)) } S (hp.set n (.mapo T kt sz (es ++ [(k, none)]) (some (k, x, some es.length)))) β) := by
  obtain ⟨a0, b', mes, a1, a2, a3, aborn, ⟨q, a4, aq⟩, ⟨a5, a6, a7⟩, a8⟩ := hr.blk n _ hn
  rw [hb] at a1; simp at a1; subst a1
  rcases own_find (P := P) hT hkty hkey a7 a4 a3 a6 hkv with ⟨j, me, rfl, c1, c2, c3, c4⟩ | ⟨rfl, c0, c3⟩
  · refine .inl ⟨j, mes, me, rfl, c1, a2, c2, aborn, c3, c4, a3, fun w' cv xv x hr' hE hh hcv hxv hxf => ?_⟩
    have a2' : w'.heap[b]? = some (.map mes es.length) := by rw [hh]; exact a2
    have hjl : j < mes.size := (Array.getElem?_eq_some_iff.1 c2).1
    refine mapo_set hr' hn hb a2' (es' := es) (lent' := some (k, x, some j)) (mes.modify j fun e => { e with key := cv, val := xv }) es.length (fun w2 h2 E hh2 hl ht => ?_)
    refine ⟨a0, b, _, hb, hh2, by simp [a3], fun i m hm => ?_, ⟨q, fun i p m hi hm => ?_, aq⟩, ⟨hxf, a6, a7⟩, a8⟩
    · rw [Array.getElem?_modify] at hm
      by_cases hij : j = i
      · subst hij
        rw [if_pos rfl, c2] at hm
        cases hm; exact aborn j me c2
      · rw [if_neg hij] at hm; exact aborn i m hm
    · rw [Array.getElem?_modify] at hm
      by_cases hij : j = i
      · subst hij
        rw [if_pos rfl, c2] at hm
        rw [c1] at hi
        cases hi; cases hm
        exact ⟨hkey, hcv.evol (hE.trans E).sub (hE.trans E).cell, x, rfl, hxv.evol (hE.trans E)⟩
      · rw [if_neg hij] at hm
        obtain ⟨d1, d2, d3⟩ := (a4.stay hE rfl (fun _ _ _ _ => by rw [hh])).stay E hl ht i p m hi hm
        obtain ⟨k2, y⟩ := p
        cases y with
        | some xs => exact ⟨d1, d2, d3⟩
        | none =>
          obtain ⟨v, hv, _⟩ := d3
          simp only [Option.some.injEq, Prod.mk.injEq] at hv
          exact absurd hv.2.2 hij
  · refine .inr ⟨mes, rfl, c0, a2, a3, c3, fun xv x hxv hxf => ?_⟩
    refine mapo_set hr hn hb a2 (es' := es ++ [(k, none)]) (lent' := some (k, x, some es.length)) (mes.push { key := kv, val := xv, born := es.length }) (es.length + 1) (fun w2 h2 E hh hl ht => ?_)
    refine ⟨a0, b, _, hb, by rw [List.length_append]; exact hh, by simp [a3], fun i m hm => ?_, ⟨q, fun i p m hi hm => ?_, fun i j hi hj => ?_⟩, ⟨hxf, a6, by simp, fun i p hne hi => ?_⟩, a8⟩
    · rw [Array.getElem?_push] at hm
      split at hm
      · rename_i e; cases hm; simp only; omega
      · exact aborn i m hm
    · by_cases hil : i < es.length
      · rw [List.getElem?_append_left hil] at hi
        rw [Array.getElem?_push, if_neg (by omega)] at hm
        obtain ⟨d1, d2, d3⟩ := a4.stay E hl ht i p m hi hm
        obtain ⟨k2, y⟩ := p
        cases y with
        | some xs => exact ⟨d1, d2, d3⟩
        | none =>
          obtain ⟨v, hv, _⟩ := d3
          simp at hv
      · rw [List.getElem?_append_right (by omega)] at hi
        have hj0 : i - es.length = 0 := by
          have := (List.getElem?_eq_some_iff.1 hi).1
          simp at this; exact this
        rw [hj0] at hi
        rw [Array.getElem?_push, if_pos (by omega)] at hm
        simp at hi hm
        subst hi; subst hm
        have : i = es.length := by omega
        subst this
        exact ⟨hkey, hkv.evol E.sub E.cell, x, rfl, hxv.evol E⟩
    · have key2 : ∀ {i : Nat}, (∃ (k' : D) (xs : List D), (es ++ [(k, none)])[i]? = some (k', some xs)) → ∃ (k' : D) (xs : List D), es[i]? = some (k', some xs) := fun {i} ⟨k', xs, hi⟩ => by
        by_cases hil : i < es.length
        · rw [List.getElem?_append_left hil] at hi; exact ⟨k', xs, hi⟩
        · rw [List.getElem?_append_right (by omega)] at hi
          have hj0 : i - es.length = 0 := by
            have := (List.getElem?_eq_some_iff.1 hi).1
            simp at this; exact this
          rw [hj0] at hi; simp at hi
      exact aq i j (key2 hi) (key2 hj)
    · by_cases hil : i < es.length
      · rw [List.getElem?_append_left hil] at hi
        exact a7.2 p (List.mem_of_getElem? hi)
      · rw [List.getElem?_append_right (by omega)] at hi
        have := (List.getElem?_eq_some_iff.1 hi).1
        simp at this; omega
theorem aMapUpdateO_sound (hT : tokB P T = true) {o : Oper} {t : TypeId} {m k x : Operand} (ho : o.op = .mapUpdate t m k x) {mv xv v0 : V} {key : D} {ti : TI} {kt et : TypeId} {sz : Nat} {es : List (D × Option (List D))} {there : Option Nat}
    (hty : tyOf T t = some ti) (hk : ti.kind = .map kt et) (hkey : keyOk T kt key = true) (hxf : xv.flat = true) (hbs : [Blk.mapo T kt sz es (some (key, v0, there))].length = (lenN mv).length) :
    OpS P o [mv, .d key, xv] (lenN mv) [.mapo T kt sz es (some (key, v0, there))] [match there with | some j => .mapo T kt sz es (some (key, xv, some j)) | none => .mapo T kt sz (es ++ [(key, none)]) (some (key, xv, some es.length))] .u := by
  obtain ⟨kti, hkty⟩ := keyOk_ty hkey
  have hu := kind_map (tyOf_ok hT hty) hk
  intro ρ w S hp β hr hor hb
  obtain ⟨hm, hkk, hxx⟩ := (show OR w S hp β ρ [m, k, x] [mv, .d key, xv] by simpa [ho, opArgs] using hor).three
  have hkk : DR w S key (ρ k) := by cases hkk; assumption
  cases mv with
  | map n =>
    have hn : hp[n]? = some (.mapo T kt sz es (some (key, v0, there))) := by simpa [lenN] using hb 0 n rfl
    generalize hmm : ρ m = mm at hm
    cases hm with
    | @map _ b g1 g2 =>
      have hbb := g2 (by simp [hn])
      have f1 := run_checkKey_lit (P := P) hT (e := false) 4 10000 (by omega) kt _ (keyOk_lit hkey) w S kti hkty (ρ k) (hkk.kr hkty hkey)
      rcases own_put (P := P) hT hkty hkey hr hn hbb hkk with ⟨j, mes, me, rfl, c1, c2, c3, cb, c4, c5, c6, c7⟩ | ⟨mes, rfl, c0, c2, c6, c4, c7⟩
      · obtain ⟨cv, w', e1, e2, e3⟩ := run_keyStays (P := P) me.key (ρ k) w
        have hcv : DR w S key cv := by
          rcases e3 with rfl | rfl
          · obtain ⟨_, _, mes2, d1, d2, _, _, ⟨q, d4, _⟩, _⟩ := hr.blk n _ hn
            rw [hbb] at d1; simp at d1; subst d1
            rw [c2] at d2; simp at d2; subst d2
            exact (d4 j _ me c1 c3).2.1
          · exact hkk
        have hw' : HR w' S hp β ∧ Evol w S hp β w' S hp β := by
          rcases e2 with rfl | rfl
          · exact ⟨hr, Evol.refl _ _ _ _⟩
          · exact drawn hr
        have hh : w'.heap = w.heap := by rcases e2 with rfl | rfl <;> rfl
        have c2' : w'.heap[b]? = some (.map mes es.length) := by rw [hh]; exact c2
        obtain ⟨r1, r2⟩ := c7 w' cv (ρ x) xv hw'.1 hw'.2 hh hcv hxx hxf
        refine ⟨_, _, S, β, _, ?_, .inr ⟨rfl, rfl⟩, by simpa [setL, lenN] using r1, .u _, by simpa [setL, lenN] using hw'.2.trans r2⟩
        simp [execOp, ho, Instr.mapUpdate, hmm, run_underlying hu, MapKept.run_getObj_map c2, f1, c4, c3, e1, MapKept.run_setObj_map _ c2']
      · obtain ⟨r1, r2⟩ := c7 (ρ x) xv hxx hxf
        refine ⟨_, _, S, β, _, ?_, .inr ⟨rfl, rfl⟩, by simpa [setL, lenN] using r1, .u _, by simpa [setL, lenN] using r2⟩
        simp [execOp, ho, Instr.mapUpdate, hmm, run_underlying hu, MapKept.run_getObj_map c2, f1, c4, MapKept.run_setObj_map _ c2]
  | _ => simp [lenN] at hbs
theorem aMapEntry_sound (hT : tokB P T = true) {o : Oper} {t : TypeId} {m k : Operand} (ho : o.op = .mapEntry t m k) {mv kv : V} {bs : List Blk} {K : Kt} (h : aMapEntry T t kv bs K) (hbs : bs.length = (lenN mv).length) :
    ∃ v bs', K v bs' ∧ OpS P o [mv, kv] (lenN mv) bs bs' v := by
  unfold aMapEntry at h
  split at h
  case h_2 => exact h.elim
  rename_i ti key T' kt' sz es lent hty
  split at h
  case h_2 => exact h.elim
  rename_i kt et hk
  cases hte : tyOf T et with
  | none => simp [hte] at h
  | some te =>
    simp only [hte] at h
    split at h
    case h_2 => exact h.elim
    rename_i e z0 hki hze
    cases lent with
    | none => exact h.elim
    | some l =>
    obtain ⟨k', v0, there⟩ := l
    simp only [] at h
    obtain ⟨h1, h9⟩ := (chkB_iff _ _).1 h
    clear h
    simp only [Bool.and_eq_true] at h1
    obtain ⟨⟨hkey, hkt⟩, hz0⟩ := h1
    have hkt := Nat.eq_of_beq_eq_true hkt
    have hz0 := Nat.eq_of_beq_eq_true hz0
    subst hkt; subst hz0
    obtain ⟨⟨rfl, rfl⟩, h⟩ := h9.elim
    obtain ⟨kti, hkty⟩ := keyOk_ty hkey
    have hu := kind_map (tyOf_ok hT hty) hk
    obtain ⟨i, z, hi⟩ := tiOk_info (tyOf_ok hT hte)
    have hag : isAggT te = false := by simp [isAggT, hki]
    have hzr : ∀ w S, DR w S (.sl 0 true []) z := fun w S => by
      have hs1 : te.size = 1 := by have := hi.zlen; rw [hze] at this; exact this.symm
      have := zeroElem_rel hi (.inr hs1) w S
      simpa [zeroElem, hag, hze] using this
    have main : OpS P o [mv, .d key] (lenN mv) [.mapo T' kt sz es (some (key, v0, there))]
        [match there with | some j => .mapo T' kt sz es (some (key, v0, some j)) | none => .mapo T' kt sz (es ++ [(key, none)]) (some (key, .d (.sl 0 true []), some es.length))]
        (match there with | some j => .tup [v0, .d (.i .i64 j)] | none => .tup [.d (.sl 0 true []), .d (.i .i64 es.length)]) := by
      intro ρ w S hp β hr hor hb
      obtain ⟨hm, hkk⟩ := (show OR w S hp β ρ [m, k] [mv, .d key] by simpa [ho, opArgs] using hor).two
      have hkk : DR w S key (ρ k) := by cases hkk; assumption
      cases mv with
      | map n =>
        have hn : hp[n]? = some (.mapo T' kt sz es (some (key, v0, there))) := by simpa [lenN] using hb 0 n rfl
        generalize hmm : ρ m = mm at hm
        cases hm with
        | @map _ b g1 g2 =>
          have hbb := g2 (by simp [hn])
          have f1 := run_checkKey_lit (P := P) hT (e := false) 4 10000 (by omega) kt _ (keyOk_lit hkey) w S kti hkty (ρ k) (hkk.kr hkty hkey)
          have hvf : v0.flat = true := by
            obtain ⟨_, _, _, _, _, _, _, _, ⟨d, _⟩, _⟩ := hr.blk n _ hn
            exact d
          rcases own_put (P := P) hT hkty hkey hr hn hbb hkk with ⟨j, mes, me, rfl, c1, c2, c3, cb, c4, c5, c6, c7⟩ | ⟨mes, rfl, c0, c2, c6, c4, c7⟩
          · obtain ⟨cv, w', e1, e2, e3⟩ := run_keyStays (P := P) me.key (ρ k) w
            have hcv : DR w S key cv := by
              rcases e3 with rfl | rfl
              · obtain ⟨_, _, mes2, d1, d2, _, _, ⟨q, d4, _⟩, _⟩ := hr.blk n _ hn
                rw [hbb] at d1; simp at d1; subst d1
                rw [c2] at d2; simp at d2; subst d2
                exact (d4 j _ me c1 c3).2.1
              · exact hkk
            have hw' : HR w' S hp β ∧ Evol w S hp β w' S hp β := by
              rcases e2 with rfl | rfl
              · exact ⟨hr, Evol.refl _ _ _ _⟩
              · exact drawn hr
            have hh : w'.heap = w.heap := by rcases e2 with rfl | rfl <;> rfl
            have c2' : w'.heap[b]? = some (.map mes es.length) := by rw [hh]; exact c2
            obtain ⟨r1, r2⟩ := c7 w' cv me.val v0 hw'.1 hw'.2 hh hcv c5 hvf
            have hmod : (mes.modify j fun e => { e with key := cv, val := me.val }) = mes.modify j fun e => { e with key := cv } := by
              apply Array.ext (by simp)
              intro i hi1 hi2
              simp only [Array.getElem_modify]
              split
              · rename_i hij
                subst hij
                have := (Array.getElem?_eq_some_iff.1 c3).2
                rw [this]
              · rfl
            rw [hmod] at r1 r2
            have eT := hw'.2.trans r2
            refine ⟨_, _, S, β, .tuple #[me.val, goInt j], ?_, .inl rfl, by simpa [setL, lenN] using r1, ?_, by simpa [setL, lenN] using eT⟩
            · simp [execOp, ho, Instr.mapEntry, hmm, run_underlying hu, MapKept.run_getObj_map c2, f1, c4, c3, e1, MapKept.run_setObj_map _ c2', cb j me c3]
            · simp only [setL, lenN]
              refine .tup _ _ (by simp) fun i c u hi hj => ?_
              match i, hi with
              | 0, hi => simp at hi hj; subst hi; subst hj; exact c5.evol eT
              | 1, hi => simp at hi hj; subst hi; subst hj; exact .d (.i _ _)
          · obtain ⟨r1, r2⟩ := c7 z (.d (.sl 0 true [])) (.d (hzr w S)) rfl
            refine ⟨_, _, S, β, .tuple #[z, goInt es.length], ?_, .inl rfl, by simpa [setL, lenN] using r1, ?_, by simpa [setL, lenN] using r2⟩
            · simp [execOp, ho, Instr.mapEntry, hmm, run_underlying hu, MapKept.run_getObj_map c2, f1, c4, run_zeroValue' hi, MapKept.run_setObj_map _ c2]
            · simp only [setL, lenN]
              refine .tup _ _ (by simp) fun i c u hi hj => ?_
              match i, hi with
              | 0, hi => simp at hi hj; subst hi; subst hj; exact .d (hzr _ _)
              | 1, hi => simp at hi hj; subst hi; subst hj; exact .d (.i _ _)
      | _ => simp [lenN] at hbs
    cases there with
    | some j => exact ⟨_, _, h, main⟩
    | none => exact ⟨_, _, h, main⟩
theorem aEntryStore_sound {o : Oper} {t : TypeId} {m st x : Operand} (ho : o.op = .entryStore t m st x) {mv sv xv : V} {bs : List Blk} {K : Kt} (h : aEntryStore sv xv bs K) (hbs : bs.length = (lenN mv).length) :
    ∃ v bs', K v bs' ∧ OpS P o [mv, sv, xv] (lenN mv) bs bs' v := by
  unfold aEntryStore at h
  split at h
  case h_2 => exact h.elim
  rename_i i n0 ver lo len full T' kt sz es k v0 j
  obtain ⟨rfl, h9⟩ := h.elim
  refine ⟨_, _, h9, fun ρ w S hp β hr hor hb => ?_⟩
  obtain ⟨hm, hss, hxx⟩ := (show OR w S hp β ρ [m, st, x] [mv, .d (.i .i64 j), .sref n0 ver lo len full] by simpa [ho, opArgs] using hor).three
  have hss : ρ st = .int .i64 j := by
    generalize ρ st = s at hss
    cases hss with
    | d hd => cases hd; rfl
  cases mv with
  | map n =>
    have hn : hp[n]? = some (.mapo T' kt sz es (some (k, v0, some j))) := by simpa [lenN] using hb 0 n rfl
    generalize hmm : ρ m = mm at hm
    cases hm with
    | @map _ b g1 g2 =>
      have hbb := g2 (by simp [hn])
      obtain ⟨a0, b', mes, a1, a2, a3, aborn, ⟨q, a4, aq⟩, ⟨a5, a6, a7⟩, a8⟩ := hr.blk n _ hn
      rw [hbb] at a1; simp at a1; subst a1
      have hjl : j < mes.size := by rw [a3]; exact (List.getElem?_eq_some_iff.1 a7.1).1
      have hfind : mes.findIdx? (fun e => (e.born : Int) == (j : Int)) = some j := by
        rw [Array.findIdx?_eq_some_iff_getElem]
        refine ⟨hjl, by simp [aborn j _ (Array.getElem?_eq_getElem hjl)], fun i hi => ?_⟩
        have := aborn i _ (Array.getElem?_eq_getElem (show i < mes.size by omega))
        simp [this]; omega
      obtain ⟨r1, r2⟩ := mapo_set hr hn hbb a2 (es' := es) (lent' := some (k, .sref n0 ver lo len full, some j)) (mes.modify j fun e => { e with val := ρ x }) es.length (fun w2 h2 E hh2 hl ht => by
        refine ⟨a0, b, _, hbb, hh2, by simp [a3], fun i m hm => ?_, ⟨q, fun i p m hi hm => ?_, aq⟩, ⟨rfl, a6, a7⟩, a8⟩
        · rw [Array.getElem?_modify] at hm
          by_cases hij : j = i
          · subst hij
            rw [if_pos rfl, Array.getElem?_eq_getElem hjl] at hm
            cases hm
            have := aborn j _ (Array.getElem?_eq_getElem hjl)
            exact this
          · rw [if_neg hij] at hm; exact aborn i m hm
        · rw [Array.getElem?_modify] at hm
          by_cases hij : j = i
          · subst hij
            rw [if_pos rfl, Array.getElem?_eq_getElem hjl] at hm
            rw [a7.1] at hi
            obtain ⟨d1, d2, _⟩ := a4 j _ _ a7.1 (Array.getElem?_eq_getElem hjl)
            cases hi; cases hm
            exact ⟨d1, d2.evol E.sub E.cell, .sref n0 ver lo len full, rfl, hxx.evol E⟩
          · rw [if_neg hij] at hm
            obtain ⟨d1, d2, d3⟩ := a4.stay E hl ht i p m hi hm
            obtain ⟨k2, y⟩ := p
            cases y with
            | some xs => exact ⟨d1, d2, d3⟩
            | none =>
              obtain ⟨v, hv, _⟩ := d3
              simp only [Option.some.injEq, Prod.mk.injEq] at hv
              exact absurd hv.2.2 hij)
      refine ⟨_, _, S, β, _, ?_, .inr ⟨rfl, rfl⟩, by simpa [setL, lenN] using r1, .u _, by simpa [setL, lenN] using r2⟩
      simp [execOp, ho, Instr.entryStore, hmm, hss, asInt, run_asIntOf, MapKept.run_getObj_map a2, hfind, MapKept.run_setObj_map _ a2]
  | _ => simp [lenN] at hbs
theorem aMapUpdate_sound (hT : tokB P T = true) {o : Oper} {t : TypeId} {m k x : Operand} (ho : o.op = .mapUpdate t m k x) {mv kv xv : V} {bs : List Blk} {K : Kt} (h : aMapUpdate T t kv xv bs K) (hbs : bs.length = (lenN mv).length) :
    ∃ v bs', K v bs' ∧ OpS P o [mv, kv, xv] (lenN mv) bs bs' v := by
  unfold aMapUpdate at h
  split at h
  · rename_i ti key val T' kt' es hty
    split at h
    · rename_i kt et hk
      obtain ⟨h1, h⟩ := (chkB_iff _ _).1 h
      simp only [Bool.and_eq_true] at h1
      obtain ⟨hkey, hkt⟩ := h1
      have hkt := Nat.eq_of_beq_eq_true hkt
      subst hkt
      obtain ⟨rfl, h⟩ := h.elim
      obtain ⟨kti, hkty⟩ := keyOk_ty hkey
      have hu := kind_map (tyOf_ok hT hty) hk
      refine ⟨_, _, h, fun ρ w S hp β hr hor hb => ?_⟩
      obtain ⟨hm, hkk, hxx⟩ := (show OR w S hp β ρ [m, k, x] [mv, .d key, .d val] by simpa [ho, opArgs] using hor).three
      have hkk : DR w S key (ρ k) := by cases hkk; assumption
      have hxx : DR w S val (ρ x) := by cases hxx; assumption
      cases mv with
      | map n =>
        have hn : hp[n]? = some (.map T' kt es) := by simpa [lenN] using hb 0 n rfl
        generalize hmm : ρ m = mm at hm
        cases hm with
        | @map _ b g1 g2 =>
          obtain ⟨b', mes, clock, a1, a2, a3, a4, a5⟩ := hr.blk n _ hn
          have := g2 (by simp [hn])
          rw [a1] at this; simp at this; subst this
          have a4' : ∀ (j : Nat) (p : D × D) (m : MapEntry), es[j]? = some p → mes.toList[j]? = some m → keyOk T' kt p.1 = true ∧ DR w S p.1 m.key ∧ DR w S p.2 m.val := fun j p m hp hm => a4 j p m hp (by simpa using hm)
          have f1 := run_checkKey_lit (P := P) hT (e := false) 4 10000 (by omega) kt _ (keyOk_lit hkey) w S kti hkty (ρ k) (hkk.kr hkty hkey)
          have f2 := run_findKey (P := P) hT hkty (keyOk_lit hkey) (hkk.kr hkty hkey) es mes.toList (by simpa using a3) (entries_kr hkty a4')
          rcases findR_spec (T := T') (kt := kt) (k := key) es mes.toList 0 (by simpa using a3) with ⟨e1, e2, e3⟩ | ⟨j, p, me, c1, c2, c3, c4, c5, c6⟩
          · obtain ⟨r1, r2⟩ := map_set hr hn a1 a2 (es' := es ++ [(key, val)]) (mes.push { key := ρ k, val := ρ x, born := clock }) (clock + 1) (by simp [a3]) (fun j p m hj hm => by
              by_cases hjl : j < es.length
              · rw [List.getElem?_append_left hjl] at hj
                rw [Array.getElem?_push, if_neg (by omega)] at hm
                exact a4 j p m hj hm
              · rw [List.getElem?_append_right (by omega)] at hj
                have hj0 : j - es.length = 0 := by
                  have := (List.getElem?_eq_some_iff.1 hj).1
                  simp at this; exact this
                rw [hj0] at hj
                rw [Array.getElem?_push, if_pos (by omega)] at hm
                simp at hj hm
                subst hj; subst hm
                exact ⟨hkey, hkk, hxx⟩) (a5.1.push _ _)
            rw [e3]
            refine ⟨_, _, S, β, _, ?_, .inr ⟨rfl, rfl⟩, by simpa [setL, lenN] using r1, .u _, by simpa [setL, lenN] using r2⟩
            simp [execOp, ho, Instr.mapUpdate, hmm, run_underlying hu, MapKept.run_getObj_map a2, f1, f2, e1, MapKept.run_setObj_map _ a2]
          · simp only [Nat.zero_add] at c3
            obtain ⟨b1, b2, b3⟩ := a4' j p me c1 c2
            have hkp : key = p.1 := key_eq hkey b1 c5
            have c2' : mes[j]? = some me := by simpa using c2
            have hjl : j < mes.size := (Array.getElem?_eq_some_iff.1 c2').1
            obtain ⟨cv, w', e1, e2, e3⟩ := run_keyStays (P := P) me.key (ρ k) w
            have hcv : DR w S key cv := by
              rcases e3 with rfl | rfl
              · rw [hkp]; exact b2
              · exact hkk
            have hw' : HR w' S hp β ∧ Evol w S hp β w' S hp β := by
              rcases e2 with rfl | rfl
              · exact ⟨hr, Evol.refl _ _ _ _⟩
              · exact drawn hr
            have a2' : w'.heap[b']? = some (.map mes clock) := by rcases e2 with rfl | rfl <;> exact a2
            obtain ⟨r1, r2⟩ := map_set hw'.1 hn a1 a2' (es' := es.set j (key, val)) (mes.modify j fun e => { e with key := cv, val := ρ x }) clock (by simp [a3]) (fun i q m hi hm => by
              by_cases hij : j = i
              · subst hij
                rw [List.getElem?_set_self (by omega)] at hi
                rw [Array.getElem?_modify, if_pos rfl, c2'] at hm
                simp at hi hm
                subst hi; subst hm
                exact ⟨hkey, hcv.evol hw'.2.sub hw'.2.cell, hxx.evol hw'.2.sub hw'.2.cell⟩
              · rw [List.getElem?_set_ne hij] at hi
                rw [Array.getElem?_modify, if_neg hij] at hm
                obtain ⟨d1, d2, d3⟩ := a4 i q m hi hm
                exact ⟨d1, d2.evol hw'.2.sub hw'.2.cell, d3.evol hw'.2.sub hw'.2.cell⟩) (a5.1.modify _ _ fun _ => rfl)
            rw [c6]
            refine ⟨_, _, S, β, _, ?_, .inr ⟨rfl, rfl⟩, by simpa [setL, lenN] using r1, .u _, by simpa [setL, lenN] using hw'.2.trans r2⟩
            simp [execOp, ho, Instr.mapUpdate, hmm, run_underlying hu, MapKept.run_getObj_map a2, f1, f2, c3, c2', e1, MapKept.run_setObj_map _ a2']
      | _ => simp [lenN] at hbs
    · exact h.elim
  · rename_i ti key n ver lo len full T' kt' sz es lent hty
    split at h
    · rename_i kt et hk
      cases lent with
      | none => exact h.elim
      | some l =>
      obtain ⟨k', v0, there⟩ := l
      simp only [] at h
      obtain ⟨h1, h9⟩ := (chkB_iff _ _).1 h
      clear h
      simp only [Bool.and_eq_true] at h1
      obtain ⟨hkey, hkt⟩ := h1
      have hkt := Nat.eq_of_beq_eq_true hkt
      subst hkt
      obtain ⟨⟨rfl, rfl⟩, h⟩ := h9.elim
      have main := aMapUpdateO_sound (P := P) (xv := .sref n ver lo len full) (sz := sz) (es := es) (v0 := v0) (there := there) hT ho hty hk hkey rfl hbs
      cases there with
      | some j => exact ⟨_, _, h, main⟩
      | none => exact ⟨_, _, h, main⟩
    · exact h.elim
  · exact h.elim
theorem findR_del {kt : TypeId} {k : D} : ∀ (es : List (D × D)) (ms : List MapEntry) (i : Nat), ms.length = es.length →
    (findR T kt k es ms i = none ∧ mapDel T kt k es = es) ∨ (∃ j v, findR T kt k es ms i = some (i + j, v) ∧ j < es.length ∧ mapDel T kt k es = es.eraseIdx j)
  | [], [], i, _ => .inl ⟨rfl, rfl⟩
  | [], _ :: _, _, h => by simp at h
  | _ :: _, [], _, h => by simp at h
  | p :: es, m :: ms, i, hl => by
    by_cases he : eqD T 4 kt k.cells p.1.cells = true
    · exact .inr ⟨0, m.val, by simp [findR, he], by simp, by simp [mapDel, he]⟩
    · rcases findR_del (kt := kt) (k := k) es ms (i + 1) (by simpa using hl) with ⟨h1, h2⟩ | ⟨j, v, h1, h2, h3⟩
      · exact .inl ⟨by simp [findR, he, h1], by simp [mapDel, he, h2]⟩
      · exact .inr ⟨j + 1, v, by simp [findR, he, h1]; omega, by simp; omega, by simp [mapDel, he, h3]⟩
theorem flatMap_one : ∀ {ys : List D}, (∀ (i : Nat) (y : D), ys[i]? = some y → y.cells.length = 1) → (ys.flatMap D.cells).length = ys.length ∧ ∀ (i : Nat) (c : D), (ys.flatMap D.cells)[i]? = some c → ∃ y, ys[i]? = some y ∧ y.cells[0]? = some c
  | [], _ => ⟨rfl, fun i c h => by simp at h⟩
  | y :: ys, h => by
    obtain ⟨a, b⟩ := flatMap_one (ys := ys) (fun i z hz => h (i + 1) z (by simpa using hz))
    have h0 := h 0 y rfl
    match hc : y.cells, h0 with
    | [c], _ =>
      refine ⟨by simp [List.flatMap_cons, hc, a], fun i d hd => ?_⟩
      rw [List.flatMap_cons, hc] at hd
      cases i with
      | zero => simp at hd; exact ⟨y, rfl, by rw [hc]; simpa using hd⟩
      | succ i =>
        simp at hd
        obtain ⟨z, q1, q2⟩ := b i d hd
        exact ⟨z, by simpa using q1, q2⟩
theorem aCopy_sound (hT : tokB P T = true) {o : Oper} {c : Call} {t t2 : TypeId} (ho : o.op = .call c) (hc : c.callee = .builtin .copy) (ht : c.argTypes.toList = [t, t2]) {dv sv : V} {bs : List Blk} {K : Kt} (h : aCopy T t dv sv bs K) :
    ∃ v bs', K v bs' ∧ OpS P o [dv, sv] (idxN dv) bs bs' v := by
  unfold aCopy at h
  split at h
  · rename_i n ver lo len full sz f2 ys cs
    obtain ⟨h1, h⟩ := (chkB_iff _ _).1 h
    simp only [Bool.and_eq_true, Bool.or_eq_true] at h1
    have hes : elemSize T t = 1 := Nat.eq_of_beq_eq_true h1.1
    have hsz : sz = 1 ∨ sz = 0 := h1.2.imp Nat.eq_of_beq_eq_true Nat.eq_of_beq_eq_true
    obtain ⟨e, te, hu, hte, hte1⟩ := elemSize_pos hT (t := t) (by omega)
    obtain ⟨⟨hle, hyl⟩, h⟩ := h.elim
    replace h := h.elim
    refine ⟨_, _, h, fun ρ w S hp β hr hor hb => ?_⟩
    have hlen : c.args.toList.length = 2 := by have := hor.1; simp [ho, opArgs] at this; simp [this]
    obtain ⟨m, k, hmk⟩ : ∃ m k, c.args.toList = [m, k] := by
      match hh : c.args.toList, hlen with
      | [m, k], _ => exact ⟨m, k, rfl⟩
    obtain ⟨hm, hkk⟩ := (show OR w S hp β ρ [m, k] [.sref n ver lo len full, .d (.sl sz f2 ys)] by simpa [ho, opArgs, hmk] using hor).two
    have hargs : c.args = #[m, k] := by rw [← Array.toArray_toList (xs := c.args), hmk]
    have hct : c.argTypes = #[t, t2] := by rw [← Array.toArray_toList (xs := c.argTypes), ht]
    have hn : hp[n]? = some (.vard cs) := by simpa [idxN] using hb 0 n rfl
    obtain ⟨ax, capx, news, hs⟩ := ElK.src (P := P) (x := .d (.sl sz f2 ys)) (bx := []) (.inl ⟨f2, rfl, rfl⟩) (size := 1) (by omega) hsz hr (fun i m hi => by simp [srcN] at hi) hkk
    have hnl : news.length = ys.length := by rw [hs.len, Nat.mul_one]
    obtain ⟨fl, fg⟩ := flatMap_one hs.sizes
    generalize hmm : ρ m = mm at hm
    cases hm with
    | sref g0 g =>
      obtain ⟨a, cap, rfl, g1, g2, g3⟩ := g
      rw [hn] at g3
      obtain ⟨_, b, cells, el, fz, c1, c2, c3, c4⟩ := g3
      obtain ⟨b', cells', el', k1, k2, k3, k4, k5⟩ := hr.blk n _ hn
      rw [c1] at k1; simp at k1; subst k1
      rw [c3] at k2; simp at k2; obtain ⟨rfl, rfl, rfl⟩ := k2
      have hlc : lo + news.length ≤ cells.toList.length := by simp only [Array.length_toList]; omega
      have hol := ov_length hlc
      have hlen' : lo + (ys.flatMap D.cells).length ≤ cs.length := by omega
      have hset : β.set n (some (b, 0)) = β := set_self c1
      have hcs : cs.take lo ++ ys.flatMap D.cells ++ cs.drop (lo + ys.length) = ov cs lo (ys.flatMap D.cells) := by rw [ov, fl]
      obtain ⟨r1, r2⟩ := written hr (blk' := .vard (ov cs lo (ys.flatMap D.cells))) hn c1 c3 (cells' := (ov cells.toList lo news).toArray) (by simp only [List.size_toArray, hol, Array.length_toList]) 0 (fun o ho => absurd ho (k5 o)) (.inr (.inl ⟨.inr ⟨_, rfl⟩, rfl⟩))
        (fun E _ hh => by
          rw [hset] at E ⊢
          refine ⟨b, _, el, c1, hh, ?_, fun j d y hj hy => ?_, k5⟩
          · simp only [List.size_toArray, hol, Array.length_toList, k3, ov_length hlen']
          · have := ov_rel (R := fun (d : D) (y : Value) => d.flat = true ∧ DR w S d y) (xs := cs) (ys := ys.flatMap D.cells) (us := cells.toList) (vs := news) (o := lo) (o' := lo) hlen' hlc (by rw [fl, hnl])
              (fun j d y hj hy => k4 j d y hj (by simpa using hy)) (Nat.le_refl _) (fun j d y hj hy => by
                obtain ⟨z, q1, q2⟩ := fg j d hj
                obtain ⟨u, q3, q4, q5⟩ := hs.cells j z 0 d q1 q2
                rw [Nat.mul_one, Nat.add_zero, hy] at q3
                cases q3
                exact ⟨q5, q4⟩) j d y hj (by simpa using hy)
            exact ⟨this.1, this.2.evol E.sub E.cell⟩)
      rw [hset] at r1 r2
      rw [hcs]
      have hfin : setL hp (idxN (.sref n ver lo len full)) [.vard (ov cs lo (ys.flatMap D.cells))] = hp.set n (.vard (ov cs lo (ys.flatMap D.cells))) := by simp [setL, idxN]
      rw [hfin]
      refine ⟨_, _, S, β, goInt ys.length, ?_, .inl rfl, r1, .d (.i _ _), r2⟩
      have hmin : Nat.min ys.length len = ys.length := Nat.min_eq_left hyl
      have hfirst := hs.first w rfl
      have hval := hs.val
      have hcell : (match a with | some a => storeCells a news | none => pure ()).run P w = .ok () (w.setRow b (ov cells.toList lo news).toArray) := by
        by_cases h0 : 0 < cap
        · rw [c2 h0]
          have := run_storeCells_at P b lo el news 0 cells w c3 (by simpa using hlc) (fun y hy => by rw [← one_eq]; exact hs.one y hy)
          simpa [ov] using this
        · have : news = [] := List.eq_nil_of_length_eq_zero (by omega)
          subst this
          have hov : (ov cells.toList lo []).toArray = cells := by simp [ov]
          rw [hov, setRow_self w b cells el (0, 0) c3]
          cases a <;> simp [storeCells]
      rw [hval] at hfirst
      have hl : (Builtin.lenOf (.slice ax ys.length capx)).run P w = .ok ys.length w := by simp [Builtin.lenOf]
      have hts : te.size = 1 := by omega
      cases a with
      | none =>
        simp at hcell
        simp [execOp, ho, resolve, hc, invoke, hargs, hct, builtin, Builtin.copy_, hmm, run_underlying hu, hval, hl, hmin, run_sizeOf' hte, hts, hfirst, ← hcell]
      | some a =>
        simp only at hcell
        simp [execOp, ho, resolve, hc, invoke, hargs, hct, builtin, Builtin.copy_, hmm, run_underlying hu, hval, hl, hmin, run_sizeOf' hte, hts, hfirst, hcell]
  · rename_i n ver lo len full sz f2 ys ver' sz' ro xs
    cases ro with
    | true => exact h.elim
    | false =>
    simp only [] at h
    obtain ⟨h1, h⟩ := (chkB_iff _ _).1 h
    simp only [Bool.and_eq_true, Bool.or_eq_true] at h1
    have hes0 : 0 < elemSize T t := Nat.le_of_ble_eq_true h1.1.1
    have hes : sz' = elemSize T t := Nat.eq_of_beq_eq_true h1.1.2
    have hsz : sz = sz' ∨ sz = 0 := h1.2.imp Nat.eq_of_beq_eq_true Nat.eq_of_beq_eq_true
    obtain ⟨e, te, hu, hte, hte1⟩ := elemSize_pos hT (t := t) (by omega)
    have hts : te.size = sz' := by omega
    clear h1
    obtain ⟨⟨hver, hle, hyl⟩, h⟩ := h.elim
    subst hver
    replace h := h.elim
    refine ⟨_, _, h, fun ρ w S hp β hr hor hb => ?_⟩
    have hlen : c.args.toList.length = 2 := by have := hor.1; simp [ho, opArgs] at this; simp [this]
    obtain ⟨m, k, hmk⟩ : ∃ m k, c.args.toList = [m, k] := by
      match hh : c.args.toList, hlen with
      | [m, k], _ => exact ⟨m, k, rfl⟩
    obtain ⟨hm, hkk⟩ := (show OR w S hp β ρ [m, k] [.sref n ver lo len full, .d (.sl sz f2 ys)] by simpa [ho, opArgs, hmk] using hor).two
    have hargs : c.args = #[m, k] := by rw [← Array.toArray_toList (xs := c.args), hmk]
    have hct : c.argTypes = #[t, t2] := by rw [← Array.toArray_toList (xs := c.argTypes), ht]
    have hn : hp[n]? = some (.row ver sz' false xs) := by simpa [idxN] using hb 0 n rfl
    obtain ⟨ax, capx, news, hs⟩ := ElK.src (P := P) (x := .d (.sl sz f2 ys)) (bx := []) (.inl ⟨f2, rfl, rfl⟩) (size := sz') (by omega) hsz hr (fun i m hi => by simp [srcN] at hi) hkk
    have hcs : xs.take lo ++ ys ++ xs.drop (lo + ys.length) = ov xs lo ys := rfl
    have hlen' : lo + ys.length ≤ xs.length := by omega
    have hfin : ∀ b', setL hp (idxN (.sref n ver lo len full)) [b'] = hp.set n b' := fun b' => by simp [setL, idxN]
    have hmin : Nat.min ys.length len = ys.length := Nat.min_eq_left hyl
    have hfirst := hs.first w rfl
    have hval := hs.val
    have hl : (Builtin.lenOf (.slice ax ys.length capx)).run P w = .ok ys.length w := by simp [Builtin.lenOf]
    rw [hval] at hfirst
    rw [hcs, hfin]
    generalize hmm : ρ m = mm at hm
    cases hm with
    | sref g0 g =>
      obtain ⟨a, cap, rfl, g1, g2, g3⟩ := g
      rw [hn] at g3
      obtain ⟨_, g3⟩ := g3
      obtain ⟨k1, k2, k3⟩ := hr.blk n _ hn
      rcases g3 rfl with ⟨c1, c2⟩ | ⟨b, base, cells, el, fz, c1, c2, c3, c4⟩
      · have hy0 : ys = [] := List.eq_nil_of_length_eq_zero (by omega)
        subst hy0
        have hn0 : news = [] := List.eq_nil_of_length_eq_zero (by simpa using hs.len)
        subst hn0
        have hself : hp.set n (.row ver sz' false (ov xs lo [])) = hp := by rw [ov_nil]; exact set_self hn
        rw [hself]
        refine ⟨_, w, S, β, goInt 0, ?_, .inl rfl, hr, .d (.i _ _), Evol.refl _ _ _ _⟩
        simp only [List.length_nil] at hl hmin hfirst hval
        cases a with
        | none => simp [execOp, ho, resolve, hc, invoke, hargs, hct, builtin, Builtin.copy_, hmm, run_underlying hu, hval, hl, hmin, run_sizeOf' hte, hts, hfirst]
        | some a => simp [execOp, ho, resolve, hc, invoke, hargs, hct, builtin, Builtin.copy_, hmm, run_underlying hu, hval, hl, hmin, run_sizeOf' hte, hts, hfirst, storeCells]
      · rcases k3 with ⟨_, e2'⟩ | ⟨b', base', cells', el', e1', e2', e3', e4', e5'⟩
        · rw [c1] at e2'; simp at e2'
        · rw [c1] at e1'; simp at e1'; obtain ⟨rfl, rfl⟩ := e1'
          rw [c3] at e2'; simp at e2'; obtain ⟨rfl, rfl, rfl⟩ := e2'
          have hmul : (lo + ys.length) * sz' ≤ xs.length * sz' := Nat.mul_le_mul_right _ hlen'
          rw [Nat.add_mul] at hmul
          have hlc : base + lo * sz' + news.length ≤ cells.toList.length := by rw [hs.len]; simp only [Array.length_toList]; omega
          have hol := ov_length hlc
          have hset : β.set n (some (b, base)) = β := set_self c1
          have hnS : ∀ o, ¬ S b o := fun o ho => absurd (e5' o ho).1 (by simp)
          obtain ⟨r1, r2⟩ := written hr (blk' := .row ver sz' false (ov xs lo ys)) hn c1 c3 (cells' := (ov cells.toList (base + lo * sz') news).toArray) (by simp only [List.size_toArray, hol, Array.length_toList]) base (fun o ho => absurd ho (hnS o)) (by simp [BEv])
            (fun E _ hh => by
              rw [hset] at E ⊢
              refine ⟨k1, fun i z hz => ?_, .inr ⟨b, base, _, el, c1, hh, ?_, fun i z j d hz hj => ?_, fun o ho => absurd ho (hnS o)⟩⟩
              · rw [ov_get hlen'] at hz
                split at hz
                · exact k2 i z hz
                · split at hz
                  · exact hs.both _ z hz
                  · exact k2 i z hz
              · simp only [List.size_toArray, hol, Array.length_toList, ov_length hlen']; exact e3'
              · rw [ov_get hlen'] at hz
                simp only [List.getElem?_toArray]
                rw [ov_get hlc]
                by_cases i1 : i < lo
                · rw [if_pos i1] at hz
                  have hjz : j < sz' := by rw [← (k2 i z hz).1]; exact (List.getElem?_eq_some_iff.1 hj).1
                  have := Nat.mul_le_mul_right sz' (show i + 1 ≤ lo from i1)
                  rw [Nat.succ_mul] at this
                  obtain ⟨u, hu, hd⟩ := e4' i z j d hz hj
                  refine ⟨u, ?_, hd.evol E.sub E.cell⟩
                  rw [if_pos (by omega)]; simpa using hu
                · rw [if_neg i1] at hz
                  by_cases i2 : i < lo + ys.length
                  · rw [if_pos i2] at hz
                    obtain ⟨u, q1, q2, _⟩ := hs.cells _ z j d hz hj
                    have hm : lo * sz' ≤ i * sz' := Nat.mul_le_mul_right _ (by omega)
                    have hlt := (List.getElem?_eq_some_iff.1 q1).1
                    rw [Nat.sub_mul] at q1 hlt
                    refine ⟨u, ?_, q2.evol E.sub E.cell⟩
                    rw [if_neg (by omega), if_pos (by omega), show base + i * sz' + j - (base + lo * sz') = i * sz' - lo * sz' + j by omega]
                    exact q1
                  · rw [if_neg i2] at hz
                    have := Nat.mul_le_mul_right sz' (show lo + ys.length ≤ i by omega)
                    rw [Nat.add_mul] at this
                    obtain ⟨u, hu, hd⟩ := e4' i z j d hz hj
                    refine ⟨u, ?_, hd.evol E.sub E.cell⟩
                    rw [if_neg (by omega), if_neg (by rw [hs.len]; omega)]; simpa using hu)
          rw [hset] at r1 r2
          refine ⟨_, _, S, β, goInt ys.length, ?_, .inl rfl, r1, .d (.i _ _), r2⟩
          have hcell : (match a with | some a => storeCells a news | none => pure ()).run P w = .ok () (w.setRow b (ov cells.toList (base + lo * sz') news).toArray) := by
            by_cases h0 : 0 < cap
            · rw [c2 h0]
              have := run_storeCells_at P b (base + lo * sz') el news 0 cells w c3 (by simpa using hlc) (fun y hy => by rw [← one_eq]; exact hs.one y hy)
              simpa [ov] using this
            · have hy0 : ys.length = 0 := by omega
              have : news = [] := List.eq_nil_of_length_eq_zero (by rw [hs.len, hy0]; simp)
              subst this
              have hov : (ov cells.toList (base + lo * sz') []).toArray = cells := by simp [ov]
              rw [hov, setRow_self w b cells el (0, 0) c3]
              cases a <;> simp [storeCells]
          cases a with
          | none =>
            simp at hcell
            simp [execOp, ho, resolve, hc, invoke, hargs, hct, builtin, Builtin.copy_, hmm, run_underlying hu, hval, hl, hmin, run_sizeOf' hte, hts, hfirst, ← hcell]
          | some a =>
            simp only at hcell
            simp [execOp, ho, resolve, hc, invoke, hargs, hct, builtin, Builtin.copy_, hmm, run_underlying hu, hval, hl, hmin, run_sizeOf' hte, hts, hfirst, hcell]
  · exact h.elim
theorem aDelete_sound (hT : tokB P T = true) {o : Oper} {c : Call} {t : TypeId} {ts : List TypeId} (ho : o.op = .call c) (hc : c.callee = .builtin .delete) (ht : c.argTypes.toList = t :: ts) {mv kv : V} {bs : List Blk} {K : Kt} (h : aDelete T t kv bs K) (hbs : bs.length = (lenN mv).length) :
    ∃ v bs', K v bs' ∧ OpS P o [mv, kv] (lenN mv) bs bs' v := by
  unfold aDelete at h
  split at h
  · rename_i ti key T' kt' es hty
    split at h
    · rename_i kt et hk
      obtain ⟨h1, h⟩ := (chkB_iff _ _).1 h
      simp only [Bool.and_eq_true] at h1
      obtain ⟨hkey, hkt⟩ := h1
      have hkt := Nat.eq_of_beq_eq_true hkt
      subst hkt
      obtain ⟨rfl, h⟩ := h.elim
      obtain ⟨kti, hkty⟩ := keyOk_ty hkey
      have hu := kind_map (tyOf_ok hT hty) hk
      refine ⟨_, _, h, fun ρ w S hp β hr hor hb => ?_⟩
      have hlen : c.args.toList.length = 2 := by have := hor.1; simp [ho, opArgs] at this; simp [this]
      obtain ⟨m, k, hmk⟩ : ∃ m k, c.args.toList = [m, k] := by
        match hh : c.args.toList, hlen with
        | [m, k], _ => exact ⟨m, k, rfl⟩
      obtain ⟨hm, hkk⟩ := (show OR w S hp β ρ [m, k] [mv, .d key] by simpa [ho, opArgs, hmk] using hor).two
      have hkk : DR w S key (ρ k) := by cases hkk; assumption
      have hargs : c.args = #[m, k] := by rw [← Array.toArray_toList (xs := c.args), hmk]
      have h0 : c.argTypes[0]? = some t := by rw [← Array.getElem?_toList, ht]; rfl
      cases mv with
      | map n =>
        have hn : hp[n]? = some (.map T' kt es) := by simpa [lenN] using hb 0 n rfl
        generalize hmm : ρ m = mm at hm
        cases hm with
        | @map _ b g1 g2 =>
          obtain ⟨b', mes, clock, a1, a2, a3, a4, a5⟩ := hr.blk n _ hn
          have := g2 (by simp [hn])
          rw [a1] at this; simp at this; subst this
          have a4' : ∀ (j : Nat) (p : D × D) (m : MapEntry), es[j]? = some p → mes.toList[j]? = some m → keyOk T' kt p.1 = true ∧ DR w S p.1 m.key ∧ DR w S p.2 m.val := fun j p m hp hm => a4 j p m hp (by simpa using hm)
          have f1 := fun e => run_checkKey_lit (P := P) hT (e := e) 4 10000 (by omega) kt _ (keyOk_lit hkey) w S kti hkty (ρ k) (hkk.kr hkty hkey)
          have f2 := run_findKey (P := P) hT hkty (keyOk_lit hkey) (hkk.kr hkty hkey) es mes.toList (by simpa using a3) (entries_kr hkty a4')
          rcases findR_del (T := T') (kt := kt) (k := key) es mes.toList 0 (by simpa using a3) with ⟨e1, e2⟩ | ⟨j, v, c1, c2, c3⟩
          · obtain ⟨r1, r2⟩ := map_set hr hn a1 a2 (es' := es) mes clock a3 a4 a5.1
            rw [e2]
            refine ⟨_, _, S, β, .tuple #[], ?_, .inl rfl, by simpa [setL, lenN] using r1, .tup [] #[] rfl (by simp), by simpa [setL, lenN] using r2⟩
            simp [execOp, ho, resolve, hc, invoke, hargs, builtin, Builtin.delete_, h0, hmm, run_underlying hu, MapKept.run_getObj_map a2, f1, f2, e1, MapKept.run_setObj_map _ a2]
          · simp only [Nat.zero_add] at c1
            obtain ⟨r1, r2⟩ := map_set hr hn a1 a2 (es' := es.eraseIdx j) (mes.eraseIdxIfInBounds j) clock (by rw [← Array.length_toList, Array.toList_eraseIdxIfInBounds, List.length_eraseIdx, List.length_eraseIdx, Array.length_toList, a3]) (fun i q m hi hm => by
              rw [List.getElem?_eraseIdx] at hi
              rw [← Array.getElem?_toList, Array.toList_eraseIdxIfInBounds, List.getElem?_eraseIdx] at hm
              split at hi
              · rename_i hlt
                rw [if_pos hlt] at hm
                exact a4' i q m hi hm
              · rename_i hlt
                rw [if_neg hlt] at hm
                exact a4' (i + 1) q m hi hm) (a5.1.erase _)
            rw [c3]
            refine ⟨_, _, S, β, .tuple #[], ?_, .inl rfl, by simpa [setL, lenN] using r1, .tup [] #[] rfl (by simp), by simpa [setL, lenN] using r2⟩
            simp [execOp, ho, resolve, hc, invoke, hargs, builtin, Builtin.delete_, h0, hmm, run_underlying hu, MapKept.run_getObj_map a2, f1, f2, c1, MapKept.run_setObj_map _ a2]
      | _ => simp [lenN] at hbs
    · exact h.elim
  · exact h.elim
end Go.PM
/-
  PM, part 18b: values that carry their type.
-/
set_option linter.unusedSectionVars false
namespace Go.PM
variable [Glob]
variable {P : Program} {T : TT}
theorem conc_und (hT : tokB P T = true) {t : TypeId} (h : concT T t = true) : ∃ d, P.underlying t = some d ∧ ∀ l, d ≠ .interface l := by
  unfold concT at h
  cases hty : tyOf T t with
  | none => simp [hty] at h
  | some ti =>
    have hk := tiOk_kind (tyOf_ok hT hty)
    simp only [hty] at h
    cases hu : P.underlying t with
    | none => cases hkk : ti.kind <;> simp [hkk, kindOk, hu] at hk h
    | some d =>
      refine ⟨d, rfl, fun l hl => ?_⟩
      subst hl
      cases hkk : ti.kind <;> simp [hkk, kindOk, hu] at hk h
theorem aIface_sound (hT : tokB P T = true) {o : Oper} {xt : TypeId} {x : Operand} (ho : o.op = .makeInterface xt x) {xv : V} {bs : List Blk} {ns : List Nat} {K : V → Prop} (h : aIface T xt xv K) :
    ∃ v, K v ∧ OpS P o [xv] ns bs bs v := by
  unfold aIface at h
  have hargs : opArgs o.op = [x] := by simp [ho, opArgs]
  split at h
  · rename_i d
    obtain ⟨hc, h⟩ := (chkB_iff _ _).1 h
    obtain ⟨u, hu, hn⟩ := conc_und hT hc
    refine ⟨_, h, pure1 hargs fun ρ w S hp β hv => ⟨.iface xt (ρ x), ?_, ?_⟩⟩
    · cases u <;> first | exact absurd rfl (hn _) | simp [execOp, ho, Instr.makeInterface, run_underlying hu]
    · cases hv with
      | d hd => exact .d (.any xt d _ hd)
  · exact h.elim
theorem aAssert_sound (hT : tokB P T = true) {o : Oper} {xt want : TypeId} {ok : Bool} {x : Operand} (ho : o.op = .typeAssert x xt want ok) {xv : V} {bs : List Blk} {ns : List Nat} {K : V → Prop} (h : aAssert T want ok xv K) :
    ∃ v, K v ∧ OpS P o [xv] ns bs bs v := by
  unfold aAssert at h
  have hargs : opArgs o.op = [x] := by simp [ho, opArgs]
  split at h
  · rename_i t d
    cases hty : tyOf T want with
    | none => simp [hty] at h
    | some ti =>
      simp only [hty] at h
      replace h := (chkB_iff _ _).1 h
      obtain ⟨hc, h'⟩ := h
      obtain ⟨u, hu, hn⟩ := conc_und hT hc
      split at h'
      · rename_i hb
        have hb := Nat.eq_of_beq_eq_true hb
        subst hb
        refine ⟨_, h', pure1 hargs fun ρ w S hp β hv => ?_⟩
        generalize ha : ρ x = cv at hv
        cases hv with
        | d hd =>
          cases hd with
          | any _ _ v hd =>
            refine ⟨.tuple #[v, .bool true], ?_, .tup _ _ (by simp) fun j c u hj hu => ?_⟩
            · cases u <;> first | exact absurd rfl (hn _) | simp [execOp, ho, ha, Instr.typeAssert, run_underlying hu]
            · match j, hj with
              | 0, hj => simp at hj hu; subst hj; subst hu; exact .d hd
              | 1, hj => simp at hj hu; subst hj; subst hu; exact .d (.b _)
      · rename_i hb
        have hne : ¬ t = want := fun e => by subst e; simp at hb
        obtain ⟨hone, h2⟩ := (chkB_iff _ _).1 h'
        simp only [Bool.or_eq_true] at hone
        have hone : isAggT ti = true ∨ ti.size = 1 := hone.imp id Nat.eq_of_beq_eq_true
        obtain ⟨i, z, hi⟩ := tiOk_info (tyOf_ok hT hty)
        refine ⟨_, h2, pure1 hargs fun ρ w S hp β hv => ?_⟩
        generalize ha : ρ x = cv at hv
        cases hv with
        | d hd =>
          cases hd with
          | any _ _ v hd =>
            refine ⟨.tuple #[z, .bool false], ?_, .tup _ _ (by simp) fun j c u hj hu => ?_⟩
            · cases u <;> first | exact absurd rfl (hn _) | simp [execOp, ho, ha, Instr.typeAssert, run_underlying hu, hne, run_zeroValue' hi]
            · match j, hj with
              | 0, hj => simp at hj hu; subst hj; subst hu; exact .d (zeroElem_rel hi hone w S)
              | 1, hj => simp at hj hu; subst hj; subst hu; exact .d (.b _)
  · exact h.elim
theorem intTy_some {t : TypeId} (hT : tokB P T = true) (h : intTy T t = true) : ∃ k, P.underlying t = some (.int k) := by
  unfold intTy at h
  cases hh : tyOf T t with
  | none => simp [hh] at h
  | some ti =>
    simp only [hh] at h
    cases hk : ti.kind <;> simp [hk] at h
    exact ⟨_, kind_int (tyOf_ok hT hh) hk⟩
theorem aAppendZ_sound (hT : tokB P T = true) {o : Oper} {c : Call} {t t2 : TypeId} (ho : o.op = .call c) (hc : c.callee = .builtin .append) (hty : c.argTypes.toList = [t, t2]) (ht2 : intTy T t2 = true) {s x : V} {nf : Nat} {bs : List Blk} {K : Kt}
    (h : aAppendZ T t s x nf bs K) (hbs : ∀ b, bs[0]? = some b → (appendN s x nf)[0]? = some nf → b = .res) : ∃ v bs', K v bs' ∧ OpS P o [s, x] (appendN s x nf) bs bs' v := by
  obtain ⟨k2, hu2⟩ := intTy_some hT ht2
  have hct : c.argTypes = #[t, t2] := by cases hh : c.argTypes; simp_all
  unfold aAppendZ at h
  cases hh : tyOf T t with
  | none => simp [hh] at h
  | some ti =>
    simp only [hh] at h
    split at h
    · rename_i e hk
      have hu := kind_slice (tyOf_ok hT hh) hk
      cases hte : tyOf T e with
      | none => simp [hte] at h
      | some te =>
        simp only [hte] at h
        obtain ⟨i, z, hi⟩ := tiOk_info (tyOf_ok hT hte)
        replace h := (chkB_iff _ _).1 h
        obtain ⟨hchk, h⟩ := h
        simp only [Bool.and_eq_true] at hchk
        have hby := Nat.le_of_ble_eq_true hchk.1
        have hpos : 0 < te.size := Nat.le_of_ble_eq_true hchk.2
        split at h
        · rename_i szx n b0
          replace h := h.elim
          obtain ⟨⟨hn0, hroom⟩, h⟩ := h
          unfold room at hroom
          obtain ⟨m, rfl⟩ := Int.eq_ofNat_of_zero_le (show 0 ≤ n by omega)
          refine ⟨_, _, h, fun ρ w S hp β hr hor hb => ?_⟩
          have hb0 : b0 = .res := hbs b0 rfl rfl
          subst hb0
          have hn : hp[nf]? = some .res := by simpa [appendN, srcN] using hb 0 nf rfl
          have hor' : OR w S hp β ρ c.args.toList [.d (.sl szx true []), .d (.i .i64 m)] := by simpa [ho, opArgs] using hor
          obtain ⟨xs', xx, ha, hv1, hv2⟩ : ∃ xs xx, c.args.toList = [xs, xx] ∧ VR w S hp β (.d (.sl szx true [])) (ρ xs) ∧ VR w S hp β (.d (.i .i64 m)) (ρ xx) := by
            match hm : c.args.toList, hor'.1 with
            | [y, z], _ => exact ⟨y, z, rfl, by rw [hm] at hor'; exact hor'.two.1, by rw [hm] at hor'; exact hor'.two.2⟩
          have ha' : c.args = #[xs', xx] := by cases hh : c.args; simp_all
          have hx := int_inv hv2
          obtain ⟨base, hs⟩ : ∃ base, ρ xs' = .slice base 0 0 := by
            generalize ρ xs' = cw at hv1
            cases hv1 with
            | d hd =>
              cases hd with
              | sl _ _ _ a cap b off uf q1 q2 =>
                have : cap = 0 := q2 rfl
                subst this
                exact ⟨a, rfl⟩
          have hsize := hi.size
          have hbyt : i.bytes = te.bytes := hi.bytes
          have hmb : m * te.bytes ≤ 70368744177664 := by
            have h1 : m ≤ 1073741824 := by omega
            exact Nat.le_trans (Nat.mul_le_mul h1 hby) (by decide)
          have hmi : ((m : Int) * (te.bytes : Int)) ≤ 70368744177664 := by
            have : ((m * te.bytes : Nat) : Int) ≤ ((70368744177664 : Nat) : Int) := Int.ofNat_le.2 hmb
            simpa using this
          have h48 : ¬ (281474976710656 < Builtin.nextslicecap m 0 * te.bytes) := by
            have : Builtin.nextslicecap m 0 = m := by
              unfold Builtin.nextslicecap
              rw [if_pos (by omega)]
            rw [this]; omega
          have hw : IntKind.i64.wrap (m : Int) = m := wrap_id (by omega)
          have hzs : z.cells.size = te.size := by
            have := (zsEq_spec hi.zs).1
            rw [hi.zlen] at this
            simpa using this.symm
          have hge := grownCap_ge w m 0 e
          have hf0 : ∀ w', (Builtin.firstCells te.size 0 (.slice base 0 0)).run P w' = .ok #[] w' := fun w' => by
            cases base <;> simp [Builtin.firstCells, loadCells, loadCellsFrom]
          have hrun : (Builtin.append_ #[t, t2] o.type #[.slice base 0 0, .int .i64 (m : Int)]).run P w = .ok (.slice (some ⟨w.heap.size, 0, none⟩) m (grownCap w m 0 e))
              (w.drew.alloc (.cells (Builtin.zeroCells z.cells m ++ Builtin.zeroCells z.cells (grownCap w m 0 e - m)) e)) := by
            have e1 := hf0 w.drew
            have hm0 : ¬ m = 0 := by omega
            have hmt : ¬ (m * te.size = 0) := by
              rw [Nat.mul_eq_zero]; omega
            have h1 : ¬ ((m : Int) < 0) := by omega
            have h2 : ¬ (281474976710656 < (m : Int) * (te.bytes : Int)) := by omega
            have h3 : ¬ ((9223372036854775807 : Int) < (m : Int)) := by omega
            simp [Builtin.append_, run_underlying hu, run_underlying hu2, sizeOf, run_typeInfo' hi.info, hsize, hbyt, zeroValue, hi.zero, asInt, asIntOf, hw, h1, h2, h3, hm0, hmt, h48, Question.forced, e1, newRow, grownCap]
          obtain ⟨d1, d2⟩ := drawn hr
          obtain ⟨β', r1, r2, r3⟩ := alloc_row d1 hn e (Builtin.zeroCells z.cells m ++ Builtin.zeroCells z.cells (grownCap w m 0 e - m)) te.size m (grownCap w m 0 e) [] hpos (by simp) (by simp)
            (by rw [Array.size_append, size_zeroCells, size_zeroCells, hzs, ← Nat.add_mul]; exact Nat.mul_le_mul_right _ (by omega)) hge (by simp)
          have hset : setL hp (appendN (.d (.sl szx true [])) (.d (.i .i64 m)) nf) [.row 0 te.size false []] = hp.set nf (.row 0 te.size false []) := by simp [appendN, srcN, setL]
          rw [hset]
          refine ⟨_, _, S, β', _, ?_, .inl rfl, r1, r3, d2.trans r2⟩
          simp [execOp, ho, resolve, hc, invoke, builtin, ha', hct, hs, hx, hrun]
        · exact h.elim
    · exact h.elim
theorem aCap_sound (hT : tokB P T = true) {o : Oper} {c : Call} {t : TypeId} (ho : o.op = .call c) (hc : c.callee = .builtin .cap) (hty : c.argTypes.toList = [t]) (ht : sliceTy T t = true) {x : V} {bs : List Blk} {ns : List Nat} {K : V → Prop} (h : aCap x K) :
    ∃ v, K v ∧ OpS P o [x] ns bs bs v := by
  have hct : c.argTypes = #[t] := by cases hh : c.argTypes; simp_all
  have hu : ∃ e, P.underlying t = some (.slice e) := by
    unfold sliceTy at ht
    cases hh : tyOf T t with
    | none => simp [hh] at ht
    | some ti =>
      simp only [hh] at ht
      cases hk : ti.kind <;> simp [hk] at ht
      exact ⟨_, kind_slice (tyOf_ok hT hh) hk⟩
  obtain ⟨e, hu⟩ := hu
  unfold aCap at h
  split at h
  · rename_i sz xs
    refine ⟨_, h.elim, OpS.pure fun ρ w S hp β _ hor _ => ?_⟩
    have hor' : OR w S hp β ρ c.args.toList [.d (.sl sz true xs)] := by simpa [ho, opArgs] using hor
    obtain ⟨y, ha, hv⟩ : ∃ y, c.args.toList = [y] ∧ VR w S hp β (.d (.sl sz true xs)) (ρ y) := by
      match hm : c.args.toList, hor'.1 with
      | [y], _ => exact ⟨y, rfl, by rw [hm] at hor'; exact hor'.one⟩
    have ha' : c.args = #[y] := by cases hh : c.args; simp_all
    generalize hρ : ρ y = cw at hv
    cases hv with
    | d hd =>
      cases hd with
      | sl _ _ _ a cap b off uf q1 q2 =>
        have hcap : cap = xs.length := q2 rfl
        subst hcap
        exact ⟨_, _, by simp [execOp, ho, resolve, hc, invoke, builtin, ha', hct, hρ, Builtin.cap_, run_underlying hu, goInt], .inl rfl, .d (.i _ _)⟩
  · exact h.elim
end Go.PM
/-
  PM, part 15: every operation.
-/
set_option linter.unusedSectionVars false
namespace Go.PM
variable [Glob]
variable {P : Program} {T : TT}
theorem knownTy_some {t : TypeId} (h : knownTy T t = true) : ∃ ti, tyOf T t = some ti := by
  unfold knownTy at h
  cases hh : tyOf T t with
  | none => simp [hh] at h
  | some ti => exact ⟨ti, rfl⟩
theorem stringTy_some {t : TypeId} (h : stringTy T t = true) : ∃ ti, tyOf T t = some ti ∧ ti.kind = .string := by
  unfold stringTy at h
  cases hh : tyOf T t with
  | none => simp [hh] at h
  | some ti =>
    simp only [hh] at h
    split at h
    · exact ⟨ti, rfl, by assumption⟩
    · cases h
theorem lenTy_some {t : TypeId} {v : V} (h : lenTy T t v = true) : ∃ ti, tyOf T t = some ti ∧
    match v with | .d (.sl ..) => ∃ e, ti.kind = .slice e | .d (.s _) => ti.kind = .string | .sref .. => ∃ e, ti.kind = .slice e | .map _ => ∃ k e, ti.kind = .map k e | _ => False := by
  cases hh : tyOf T t with
  | none => simp [lenTy, hh] at h
  | some ti =>
    refine ⟨ti, rfl, ?_⟩
    have h' := h
    revert h'
    cases v with
    | d x => cases x <;> cases hk : ti.kind <;> simp [lenTy, hh, hk]
    | _ => cases hk : ti.kind <;> simp [lenTy, hh, hk]
theorem res1 {op : Op} {nf : Nat} {bs : List Blk} (hn : opNew op = true) (hl : bs.length = [nf].length) (hres : resB op [nf] nf bs = true) : bs = [Blk.res] := by
  match bs, hl with
  | [b], _ =>
    have hb : Nat.beq nf nf = true := Nat.beq_refl nf
    simp only [resB, hn, hb] at hres
    cases b <;> simp_all
theorem aOp_sound (hT : tokB P T = true) {o : Oper} {vs : List V} {nf : Nat} {bs : List Blk} {K : Kt} (h : aOp T o.op vs nf bs K) (hl : bs.length = (opN o.op vs nf).length)
    (hres : resB o.op (opN o.op vs nf) nf bs = true) : ∃ v bs', K v bs' ∧ (opRO o.op = true → bs' = bs) ∧ OpS P o vs (opN o.op vs nf) bs bs' v := by
  generalize hop : o.op = op at h hl hres ⊢
  have ex : ∀ {ns : List Nat} {K' : V → Prop}, (∃ v, K' v ∧ OpS P o vs ns bs bs v) → (∀ v, K' v → K v bs) → ∃ v bs', K v bs' ∧ (opRO op = true → bs' = bs) ∧ OpS P o vs ns bs bs' v := fun ⟨v, h1, h2⟩ hk => ⟨v, bs, hk v h1, fun _ => rfl, h2⟩
  have nw : ∀ {ns : List Nat}, opRO op = false → (∃ v bs', K v bs' ∧ OpS P o vs ns bs bs' v) → ∃ v bs', K v bs' ∧ (opRO op = true → bs' = bs) ∧ OpS P o vs ns bs bs' v := fun hr ⟨v, bs', h1, h2⟩ => ⟨v, bs', h1, fun (hh : opRO op = true) => absurd hh (by simp [hr]), h2⟩
  unfold aOp at h
  split at h
  · exact ⟨_, bs, h, fun _ => rfl, aMove_sound (.inl hop)⟩
  · exact ⟨_, bs, h, fun _ => rfl, aMove_sound (.inr hop)⟩
  · split at h
    · obtain ⟨v, h1, h2⟩ := aPick_sound (P := P) (ns := []) hop h
      exact ⟨v, bs, h1, fun _ => rfl, h2⟩
    · exact h.elim
  · obtain rfl := res1 rfl hl hres
    exact nw rfl (aAlloc_sound hT hop h)
  · obtain rfl := res1 rfl hl hres
    exact nw rfl (aBox_sound hop h)
  · exact ex (aBuild_sound (ns := []) hT hop h) fun _ h => h
  · obtain ⟨v, h1, h2⟩ := aBuildSlice_sound hT hop h
    exact ⟨v, bs, h1, fun _ => rfl, h2 _ _⟩
  · obtain ⟨v, h1, h2⟩ := aLoad_sound hT hop hl h
    exact ⟨v, bs, h1, fun _ => rfl, h2⟩
  · exact nw rfl (aStore_sound hT hop h)
  · exact ex (aBin_sound (ns := []) hT hop h) fun _ h => h
  · exact ex (aUn_sound (ns := []) hop h) fun _ h => h
  · obtain ⟨h1, h⟩ := (chkB_iff _ _).1 h
    exact ex (aConvert_sound (ns := []) hT hop (knownTy_some h1) h) fun _ h => h
  · split at h
    · rename_i hf
      exact ⟨_, bs, h, fun _ => rfl, aMakeFunc_sound hop hf⟩
    · exact h.elim
  · split at h
    · split at h
      · obtain rfl := res1 rfl hl hres
        split at h
        · split at h
          · exact nw rfl ⟨_, _, h, aMakeMapN_sound hop⟩
          · exact nw rfl ⟨_, _, h, aMakeMap_sound hop⟩
        · exact nw rfl ⟨_, _, h, aMakeMap_sound hop⟩
      · exact h.elim
    · exact h.elim
  · obtain rfl := res1 rfl hl hres
    exact nw rfl (aMakeSlice_sound hT hop h)
  · obtain ⟨v, h1, h2⟩ := aSlice_sound hT hop h
    exact ⟨v, bs, h1, fun _ => rfl, h2⟩
  · exact ex (aFieldAddr_sound (ns := []) hT hop h) fun _ h => h
  · exact ex (aField_sound (ns := []) hT hop h) fun _ h => h
  · obtain ⟨v, h1, h2⟩ := aIndexAddr_sound hT hop h
    exact ⟨v, bs, h1, fun _ => rfl, h2⟩
  · split at h
    · rename_i h1
      exact ex (aIndex_sound (ns := []) hT hop (stringTy_some h1) h) fun _ h => h
    · exact ex (aIndexArr_sound (ns := []) hT hop h) fun _ h => h
  · obtain ⟨v, h1, h2⟩ := aLookup_sound hT hop h hl
    exact ⟨v, bs, h1, fun _ => rfl, h2⟩
  · exact nw rfl (aMapUpdate_sound hT hop h hl)
  · exact nw rfl (aMapEntry_sound hT hop h hl)
  · exact nw rfl (aEntryStore_sound hop h hl)
  · exact ex (aExtract_sound (ns := []) hop h) fun _ h => h
  · exact ex (aNilCheck_sound (ns := []) hop h) fun _ h => h
  · exact ex (aIface_sound (ns := []) hT hop h) fun _ h => h
  · exact ex (aAssert_sound (ns := []) hT hop h) fun _ h => h
  · split at h
    · rename_i x t hc ht
      obtain ⟨h1, h⟩ := (chkB_iff _ _).1 h
      obtain ⟨ti, hty, hk⟩ := lenTy_some h1
      obtain ⟨v, h1, h2⟩ := aLen_sound hT hop hc (by rw [ht]; rfl) hty (by
        cases x with
        | d d => cases d <;> exact hk
        | _ => exact hk) h
      exact ⟨v, bs, h1, fun _ => rfl, by simpa [opN, hc] using h2⟩
    · rename_i hc ht
      have hN : ∀ (c : Call) (s x : V), c.callee = .builtin .append → opN (.call c) [s, x] nf = appendN s x nf := fun c s x hc => by simp [opN, hc]
      rw [hN _ _ _ hc] at hl hres ⊢
      have hfree : ∀ b, bs[0]? = some b → (appendN _ _ nf)[0]? = some nf → b = .res := fun b hb hn => by
        have hnew : ∀ c : Call, c.callee = .builtin .append → opNew (.call c) = true := fun c hc => by simp [opNew, hc]
        have hb' : Nat.beq nf nf = true := Nat.beq_refl nf
        generalize appendN _ _ nf = ns at hres hn
        match ns, bs, hn, hb with
        | m :: _, b' :: _, hn, hb =>
          simp at hn hb; subst hn; subst hb
          simp only [resB, hnew _ hc, hb'] at hres
          cases b' <;> simp_all
      split at h
      · rename_i h1
        exact nw (by simp [opRO, hc]) (aAppend_sound hT hop hc ht h1 h hfree)
      · obtain ⟨h1, h⟩ := (chkB_iff _ _).1 h
        exact nw (by simp [opRO, hc]) (aAppendZ_sound hT hop hc ht h1 h hfree)
    · rename_i hc ht
      obtain ⟨h1, h⟩ := (chkB_iff _ _).1 h
      exact ex (aCap_sound hT hop hc ht h1 h) fun _ h => h
    · rename_i hc
      exact ex (aMinMax_sound (mx := true) hop hc h) fun _ h => h
    · rename_i hc
      exact ex (aMinMax_sound (mx := false) hop hc h) fun _ h => h
    · rename_i hc ht
      have hN : ∀ (c : Call) (m x : V), c.callee = .builtin .delete → opN (.call c) [m, x] nf = lenN m := fun c m x hc => by simp [opN, hc]
      rw [hN _ _ _ hc] at hl ⊢
      exact nw (by simp [opRO, hc]) (aDelete_sound hT hop hc ht h hl)
    · rename_i hc ht
      have hN : ∀ (c : Call) (m x : V), c.callee = .builtin .copy → opN (.call c) [m, x] nf = idxN m := fun c m x hc => by simp [opN, hc]
      rw [hN _ _ _ hc] at hl ⊢
      exact nw (by simp [opRO, hc]) (aCopy_sound hT hop hc ht h)
    · exact h.elim
  · exact h.elim
end Go.PM
