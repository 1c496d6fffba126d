/-
  PM, part 14: an entry of a map is set.
-/
import Derived.Test.YtghlkcnmocgkaaaPmOps9
import Derived.Laws.NewFold
set_option linter.unusedSectionVars false
namespace Go.PM
variable [Glob]
variable {P : Program} {T : TT}

theorem run_keyStays (u v : Value) (w : World) : ∃ cv w', (Instr.keyThatStays u v).run P w = .ok cv w' ∧ (w' = w ∨ w' = w.drew) ∧ (cv = u ∨ cv = v) := by
  unfold Instr.keyThatStays
  by_cases h : Instr.sameBits 10000 u v = true
  · exact ⟨v, w, by simp [h], .inl rfl, .inr rfl⟩
  · simp only [h, if_false, Sem.run_bind, run_choose_drew]
    rw [if_neg (by simp)]
    simp only [Sem.run_bind, run_choose_drew]
    split
    · exact ⟨v, w, by simp [Result.andThen], .inl rfl, .inr rfl⟩
    · simp only [Result.andThen, Sem.run_pure]
      split
      · exact ⟨v, w.drew, rfl, .inr rfl, .inr rfl⟩
      · exact ⟨u, w.drew, rfl, .inr rfl, .inl rfl⟩

/-- A map's entries are written. -/
theorem map_set {w : World} {S : Stb} {h : Hp} {β : Bet} (hr : HR w S h β) {n b : Nat} {kt : TypeId} {es es' : List (D × D)} {mes : Array MapEntry} {clock : Nat} (hn : h[n]? = some (.map T kt es))
    (hb : β[n]? = some (some (b, 0))) (hw : w.heap[b]? = some (.map mes clock)) (mes' : Array MapEntry) (clock' : Nat) (hl : mes'.size = es'.length)
    (hes : ∀ (j : Nat) (p : D × D) (m : MapEntry), es'[j]? = some p → mes'[j]? = some m → keyOk T kt p.1 = true ∧ DR w S p.1 m.key ∧ DR w S p.2 m.val) :
    HR { w with heap := w.heap.setIfInBounds b (.map mes' clock') } S (h.set n (.map T kt es')) β ∧ Evol w S h β { w with heap := w.heap.setIfInBounds b (.map mes' clock') } S (h.set n (.map T kt es')) β := by
  have hbs : ∀ o, ¬ S b o := by
    obtain ⟨b', _, _, h1, _, _, _, h5⟩ := hr.blk n _ hn
    rw [hb] at h1; simp at h1; subst h1; exact h5
  have hlt : b < w.heap.size := (Array.getElem?_eq_some_iff.1 hw).1
  have hnew : (w.heap.setIfInBounds b (.map mes' clock'))[b]? = some (.map mes' clock') := by simp [hlt]
  have hset : β.set n (some (b, 0)) = β := set_self hb
  have hoth : ∀ i, i ≠ b → (w.heap.setIfInBounds b (.map mes' clock'))[i]? = w.heap[i]? := fun i hi => by rw [Array.getElem?_setIfInBounds_ne (Ne.symm hi)]
  have := upd hr hn (blk' := .map T kt es') (w' := { w with heap := w.heap.setIfInBounds b (.map mes' clock') }) (some (b, 0)) (by simp) (fun i _ hne => hoth i (fun e => hne 0 (by rw [e]; exact hb)))
    (fun i p c e f hp hi => by rw [hb] at hp; simp at hp; obtain ⟨rfl, _⟩ := hp; rw [hw] at hi; simp at hi)
    (fun i p l hp hi => by rw [hb] at hp; simp at hp; obtain ⟨rfl, _⟩ := hp; rw [hw] at hi; simp at hi)
    (fun a => by
      by_cases ha : a.block = b
      · unfold World.frozen?; simp only [ha, hnew, hw]
      · exact World.frozen?_of_block (hoth _ ha))
    (fun i p o hp hs => by rw [hb] at hp; simp at hp; obtain ⟨rfl, _⟩ := hp; exact absurd hs (hbs o))
    (fun b' p hb' => .inl ⟨0, by cases hb'; exact hb⟩) (by rw [hb]; exact .inr ⟨⟨es', rfl⟩, rfl⟩)
    (fun E => ⟨b, mes', clock', by rw [hset]; exact hb, hnew, hl, fun j p m hp hm => by
      obtain ⟨a1, a2, a3⟩ := hes j p m hp hm
      exact ⟨a1, a2.evol E.sub E.cell, a3.evol E.sub E.cell⟩, hbs⟩)
  rw [hset] at this
  exact this

theorem aMapUpdate_sound (hT : tokB P T = true) {o : Oper} {t : TypeId} {m k x : Operand} (ho : o.op = .mapUpdate t m k x) {mv kv xv : V} {bs : List Blk} {K : Kt} (h : aMapUpdate T t kv xv bs K) (hbs : bs.length = (lenN mv).length) :
    ∃ v bs', K v bs' ∧ OpS P o [mv, kv, xv] (lenN mv) bs bs' v := by
  unfold aMapUpdate at h
  split at h
  · rename_i ti key val T' kt' es hty
    split at h
    · rename_i kt et hk
      obtain ⟨h1, h⟩ := (chkB_iff _ _).1 h
      simp only [Bool.and_eq_true] at h1
      obtain ⟨hkey, hkt⟩ := h1
      have hkt := Nat.eq_of_beq_eq_true hkt
      subst hkt
      obtain ⟨rfl, h⟩ := h.elim
      obtain ⟨kti, hkty⟩ := keyOk_ty hkey
      have hu := kind_map (tyOf_ok hT hty) hk
      refine ⟨_, _, h, fun ρ w S hp β hr hor hb => ?_⟩
      obtain ⟨hm, hkk, hxx⟩ := (show OR w S hp β ρ [m, k, x] [mv, .d key, .d val] by simpa [ho, opArgs] using hor).three
      have hkk : DR w S key (ρ k) := by cases hkk; assumption
      have hxx : DR w S val (ρ x) := by cases hxx; assumption
      cases mv with
      | map n =>
        have hn : hp[n]? = some (.map T' kt es) := by simpa [lenN] using hb 0 n rfl
        generalize hmm : ρ m = mm at hm
        cases hm with
        | @map _ b g1 g2 =>
          obtain ⟨b', mes, clock, a1, a2, a3, a4, a5⟩ := hr.blk n _ hn
          have := g2 (by simp [hn])
          rw [a1] at this; simp at this; subst this
          have a4' : ∀ (j : Nat) (p : D × D) (m : MapEntry), es[j]? = some p → mes.toList[j]? = some m → keyOk T' kt p.1 = true ∧ DR w S p.1 m.key ∧ DR w S p.2 m.val := fun j p m hp hm => a4 j p m hp (by simpa using hm)
          have f1 := run_checkKey_lit (P := P) hT (e := false) 4 10000 (by omega) kt _ (keyOk_lit hkey) w S kti hkty (ρ k) (hkk.kr hkty hkey)
          have f2 := run_findKey (P := P) hT hkty (keyOk_lit hkey) (hkk.kr hkty hkey) es mes.toList (by simpa using a3) (entries_kr hkty a4')
          rcases findR_spec (T := T') (kt := kt) (k := key) es mes.toList 0 (by simpa using a3) with ⟨e1, e2, e3⟩ | ⟨j, p, me, c1, c2, c3, c4, c5, c6⟩
          · obtain ⟨r1, r2⟩ := map_set hr hn a1 a2 (es' := es ++ [(key, val)]) (mes.push { key := ρ k, val := ρ x, born := clock }) (clock + 1) (by simp [a3]) (fun j p m hj hm => by
              by_cases hjl : j < es.length
              · rw [List.getElem?_append_left hjl] at hj
                rw [Array.getElem?_push, if_neg (by omega)] at hm
                exact a4 j p m hj hm
              · rw [List.getElem?_append_right (by omega)] at hj
                have hj0 : j - es.length = 0 := by
                  have := (List.getElem?_eq_some_iff.1 hj).1
                  simp at this; exact this
                rw [hj0] at hj
                rw [Array.getElem?_push, if_pos (by omega)] at hm
                simp at hj hm
                subst hj; subst hm
                exact ⟨hkey, hkk, hxx⟩)
            rw [e3]
            refine ⟨_, _, S, β, _, ?_, .inr ⟨rfl, rfl⟩, by simpa [setL, lenN] using r1, .u _, by simpa [setL, lenN] using r2⟩
            simp [execOp, ho, Instr.mapUpdate, hmm, run_underlying hu, MapKept.run_getObj_map a2, f1, f2, e1, MapKept.run_setObj_map _ a2]
          · simp only [Nat.zero_add] at c3
            obtain ⟨b1, b2, b3⟩ := a4' j p me c1 c2
            have hkp : key = p.1 := key_eq hkey b1 c5
            have c2' : mes[j]? = some me := by simpa using c2
            have hjl : j < mes.size := (Array.getElem?_eq_some_iff.1 c2').1
            obtain ⟨cv, w', e1, e2, e3⟩ := run_keyStays (P := P) me.key (ρ k) w
            have hcv : DR w S key cv := by
              rcases e3 with rfl | rfl
              · rw [hkp]; exact b2
              · exact hkk
            have hw' : HR w' S hp β ∧ Evol w S hp β w' S hp β := by
              rcases e2 with rfl | rfl
              · exact ⟨hr, Evol.refl _ _ _ _⟩
              · exact drawn hr
            have a2' : w'.heap[b']? = some (.map mes clock) := by rcases e2 with rfl | rfl <;> exact a2
            obtain ⟨r1, r2⟩ := map_set hw'.1 hn a1 a2' (es' := es.set j (key, val)) (mes.modify j fun e => { e with key := cv, val := ρ x }) clock (by simp [a3]) (fun i q m hi hm => by
              by_cases hij : j = i
              · subst hij
                rw [List.getElem?_set_self (by omega)] at hi
                rw [Array.getElem?_modify, if_pos rfl, c2'] at hm
                simp at hi hm
                subst hi; subst hm
                exact ⟨hkey, hcv.evol hw'.2.sub hw'.2.cell, hxx.evol hw'.2.sub hw'.2.cell⟩
              · rw [List.getElem?_set_ne hij] at hi
                rw [Array.getElem?_modify, if_neg hij] at hm
                obtain ⟨d1, d2, d3⟩ := a4 i q m hi hm
                exact ⟨d1, d2.evol hw'.2.sub hw'.2.cell, d3.evol hw'.2.sub hw'.2.cell⟩)
            rw [c6]
            refine ⟨_, _, S, β, _, ?_, .inr ⟨rfl, rfl⟩, by simpa [setL, lenN] using r1, .u _, by simpa [setL, lenN] using hw'.2.trans r2⟩
            simp [execOp, ho, Instr.mapUpdate, hmm, run_underlying hu, MapKept.run_getObj_map a2, f1, f2, c3, c2', e1, MapKept.run_setObj_map _ a2']
      | _ => simp [lenN] at hbs
    · exact h.elim
  · exact h.elim

theorem findR_del {kt : TypeId} {k : D} : ∀ (es : List (D × D)) (ms : List MapEntry) (i : Nat), ms.length = es.length →
    (findR T kt k es ms i = none ∧ mapDel T kt k es = es) ∨ (∃ j v, findR T kt k es ms i = some (i + j, v) ∧ j < es.length ∧ mapDel T kt k es = es.eraseIdx j)
  | [], [], i, _ => .inl ⟨rfl, rfl⟩
  | [], _ :: _, _, h => by simp at h
  | _ :: _, [], _, h => by simp at h
  | p :: es, m :: ms, i, hl => by
    by_cases he : eqD T 4 kt k.cells p.1.cells = true
    · exact .inr ⟨0, m.val, by simp [findR, he], by simp, by simp [mapDel, he]⟩
    · rcases findR_del (kt := kt) (k := k) es ms (i + 1) (by simpa using hl) with ⟨h1, h2⟩ | ⟨j, v, h1, h2, h3⟩
      · exact .inl ⟨by simp [findR, he, h1], by simp [mapDel, he, h2]⟩
      · exact .inr ⟨j + 1, v, by simp [findR, he, h1]; omega, by simp; omega, by simp [mapDel, he, h3]⟩

theorem aDelete_sound (hT : tokB P T = true) {o : Oper} {c : Call} {t : TypeId} {ts : List TypeId} (ho : o.op = .call c) (hc : c.callee = .builtin .delete) (ht : c.argTypes.toList = t :: ts) {mv kv : V} {bs : List Blk} {K : Kt} (h : aDelete T t kv bs K) (hbs : bs.length = (lenN mv).length) :
    ∃ v bs', K v bs' ∧ OpS P o [mv, kv] (lenN mv) bs bs' v := by
  unfold aDelete at h
  split at h
  · rename_i ti key T' kt' es hty
    split at h
    · rename_i kt et hk
      obtain ⟨h1, h⟩ := (chkB_iff _ _).1 h
      simp only [Bool.and_eq_true] at h1
      obtain ⟨hkey, hkt⟩ := h1
      have hkt := Nat.eq_of_beq_eq_true hkt
      subst hkt
      obtain ⟨rfl, h⟩ := h.elim
      obtain ⟨kti, hkty⟩ := keyOk_ty hkey
      have hu := kind_map (tyOf_ok hT hty) hk
      refine ⟨_, _, h, fun ρ w S hp β hr hor hb => ?_⟩
      have hlen : c.args.toList.length = 2 := by have := hor.1; simp [ho, opArgs] at this; simp [this]
      obtain ⟨m, k, hmk⟩ : ∃ m k, c.args.toList = [m, k] := by
        match hh : c.args.toList, hlen with
        | [m, k], _ => exact ⟨m, k, rfl⟩
      obtain ⟨hm, hkk⟩ := (show OR w S hp β ρ [m, k] [mv, .d key] by simpa [ho, opArgs, hmk] using hor).two
      have hkk : DR w S key (ρ k) := by cases hkk; assumption
      have hargs : c.args = #[m, k] := by rw [← Array.toArray_toList (xs := c.args), hmk]
      have h0 : c.argTypes[0]? = some t := by rw [← Array.getElem?_toList, ht]; rfl
      cases mv with
      | map n =>
        have hn : hp[n]? = some (.map T' kt es) := by simpa [lenN] using hb 0 n rfl
        generalize hmm : ρ m = mm at hm
        cases hm with
        | @map _ b g1 g2 =>
          obtain ⟨b', mes, clock, a1, a2, a3, a4, a5⟩ := hr.blk n _ hn
          have := g2 (by simp [hn])
          rw [a1] at this; simp at this; subst this
          have a4' : ∀ (j : Nat) (p : D × D) (m : MapEntry), es[j]? = some p → mes.toList[j]? = some m → keyOk T' kt p.1 = true ∧ DR w S p.1 m.key ∧ DR w S p.2 m.val := fun j p m hp hm => a4 j p m hp (by simpa using hm)
          have f1 := fun e => run_checkKey_lit (P := P) hT (e := e) 4 10000 (by omega) kt _ (keyOk_lit hkey) w S kti hkty (ρ k) (hkk.kr hkty hkey)
          have f2 := run_findKey (P := P) hT hkty (keyOk_lit hkey) (hkk.kr hkty hkey) es mes.toList (by simpa using a3) (entries_kr hkty a4')
          rcases findR_del (T := T') (kt := kt) (k := key) es mes.toList 0 (by simpa using a3) with ⟨e1, e2⟩ | ⟨j, v, c1, c2, c3⟩
          · obtain ⟨r1, r2⟩ := map_set hr hn a1 a2 (es' := es) mes clock a3 a4
            rw [e2]
            refine ⟨_, _, S, β, .tuple #[], ?_, .inl rfl, by simpa [setL, lenN] using r1, .tup [] #[] rfl (by simp), by simpa [setL, lenN] using r2⟩
            simp [execOp, ho, resolve, hc, invoke, hargs, builtin, Builtin.delete_, h0, hmm, run_underlying hu, MapKept.run_getObj_map a2, f1, f2, e1, MapKept.run_setObj_map _ a2]
          · simp only [Nat.zero_add] at c1
            obtain ⟨r1, r2⟩ := map_set hr hn a1 a2 (es' := es.eraseIdx j) (mes.eraseIdxIfInBounds j) clock (by rw [← Array.length_toList, Array.toList_eraseIdxIfInBounds, List.length_eraseIdx, List.length_eraseIdx, Array.length_toList, a3]) (fun i q m hi hm => by
              rw [List.getElem?_eraseIdx] at hi
              rw [← Array.getElem?_toList, Array.toList_eraseIdxIfInBounds, List.getElem?_eraseIdx] at hm
              split at hi
              · rename_i hlt
                rw [if_pos hlt] at hm
                exact a4' i q m hi hm
              · rename_i hlt
                rw [if_neg hlt] at hm
                exact a4' (i + 1) q m hi hm)
            rw [c3]
            refine ⟨_, _, S, β, .tuple #[], ?_, .inl rfl, by simpa [setL, lenN] using r1, .tup [] #[] rfl (by simp), by simpa [setL, lenN] using r2⟩
            simp [execOp, ho, resolve, hc, invoke, hargs, builtin, Builtin.delete_, h0, hmm, run_underlying hu, MapKept.run_getObj_map a2, f1, f2, c1, MapKept.run_setObj_map _ a2]
      | _ => simp [lenN] at hbs
    · exact h.elim
  · exact h.elim

end Go.PM
