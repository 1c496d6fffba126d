/- Deltas: sets of entries, of names; what is not in a set. -/
import Derived.Test.YtfckliidjmeeaaaDoorD42a
import Derived.Test.YtfckliidjmeeaaaDoorPmRectoPmUpd
namespace Go.PM
open Go.Proofs
set_option maxRecDepth 10000
set_option maxHeartbeats 1000000
def keysM {α : Type} (kt : TypeId) (enc : α → D) (es : List (D × D)) (l : List α) : List (D × D) := l.foldl (fun es x => mapPut tt kt (enc x) (B true) es) es
theorem keysM_snoc {α : Type} {kt : TypeId} {enc : α → D} {es : List (D × D)} (l : List α) (x : α) : keysM kt enc es (l ++ [x]) = mapPut tt kt (enc x) (B true) (keysM kt enc es l) := by unfold keysM; rw [List.foldl_append]; rfl
def setE (l : List Ent) : List (D × D) := keysM 52 Ent.d [] l
def namE (l : List Ent) : List (D × D) := keysM 9 (fun e : Ent => D.s e.name) [] l
theorem put_find {α β : Type} {kt : TypeId} {enc : α → D} {kf : α → β} [DecidableEq β] (heq : ∀ a b, eqD tt 4 kt (enc a).cells (enc b).cells = decide (kf a = kf b)) (k x : α) : ∀ es : List (D × D), (∀ p ∈ es, ∃ a, p.1 = enc a) →
    mapFind tt kt (enc k) (mapPut tt kt (enc x) (B true) es) = if kf k = kf x then some (B true) else mapFind tt kt (enc k) es
  | [], _ => by simp [mapPut, mapFind, heq]
  | p :: r, h => by
    obtain ⟨k', y⟩ := p
    obtain ⟨a, ha⟩ := h _ (.head _)
    simp only at ha
    subst ha
    have ih := put_find heq k x r fun p hp => h p (.tail _ hp)
    simp only [mapPut, heq]
    by_cases hxa : kf x = kf a
    · rw [if_pos (by simpa using hxa)]
      simp only [mapFind, heq]
      by_cases hkx : kf k = kf x
      · simp [hkx]
      · rw [if_neg (by simpa using hkx), if_neg hkx, if_neg (by simpa [← hxa] using hkx)]
    · rw [if_neg (by simpa using hxa)]
      simp only [mapFind, heq, ih]
      by_cases hka : kf k = kf a
      · have : ¬ kf k = kf x := fun h => hxa (h.symm.trans hka)
        simp [hka, this, Ne.symm hxa]
      · simp [hka]
theorem put_keys {α : Type} {kt : TypeId} {enc : α → D} (x : α) : ∀ es : List (D × D), (∀ p ∈ es, ∃ a, p.1 = enc a) → ∀ p ∈ mapPut tt kt (enc x) (B true) es, ∃ a, p.1 = enc a
  | [], _, p, hp => by
    simp only [mapPut, List.mem_singleton] at hp
    subst hp; exact ⟨x, rfl⟩
  | q :: r, h, p, hp => by
    obtain ⟨k', y⟩ := q
    simp only [mapPut] at hp
    split at hp
    · rcases List.mem_cons.1 hp with rfl | hp
      · exact ⟨x, rfl⟩
      · exact h p (.tail _ hp)
    · rcases List.mem_cons.1 hp with rfl | hp
      · exact h _ (.head _)
      · exact put_keys x r (fun p hp => h p (.tail _ hp)) p hp
theorem keys_find {α β : Type} {kt : TypeId} {enc : α → D} {kf : α → β} [DecidableEq β] (heq : ∀ a b, eqD tt 4 kt (enc a).cells (enc b).cells = decide (kf a = kf b)) (k : α) : ∀ (l : List α) (es : List (D × D)), (∀ p ∈ es, ∃ a, p.1 = enc a) →
    mapFind tt kt (enc k) (keysM kt enc es l) = if ∃ x ∈ l, kf k = kf x then some (B true) else mapFind tt kt (enc k) es
  | [], es, _ => by simp [keysM]
  | x :: l, es, h => by
    have ih := keys_find heq k l (mapPut tt kt (enc x) (B true) es) (put_keys x es h)
    show mapFind tt kt (enc k) (keysM kt enc _ l) = _
    rw [ih, put_find heq k x es h]
    by_cases h1 : ∃ y ∈ l, kf k = kf y
    · rw [if_pos h1, if_pos]
      obtain ⟨y, hy, e⟩ := h1
      exact ⟨y, .tail _ hy, e⟩
    · rw [if_neg h1]
      by_cases h2 : kf k = kf x
      · rw [if_pos h2, if_pos ⟨x, .head _, h2⟩]
      · rw [if_neg h2, if_neg]
        rintro ⟨y, hy, e⟩
        rcases List.mem_cons.1 hy with rfl | hy
        · exact h2 e
        · exact h1 ⟨y, hy, e⟩
theorem eqStr (a b : ByteArray) : eqD tt 4 9 [D.s a] [D.s b] = decide (a = b) := by
  rw [show eqD tt 4 9 [D.s a] [D.s b] = (a.toList == b.toList) from rfl]
  rw [Bool.eq_iff_iff]
  simp [ba_eq]
theorem setE_find (l : List Ent) (x : Ent) : (mapFind tt 52 x.d (setE l)).getD (B false) = B (decide (x ∈ l)) := by
  unfold setE
  rw [keys_find (kf := id) (fun a b => eqEnt a b) x l [] (by simp)]
  by_cases h : x ∈ l
  · rw [if_pos ⟨x, h, rfl⟩, decide_eq_true h]; rfl
  · rw [if_neg (by rintro ⟨y, hy, e⟩; have e : x = y := e; exact h (e ▸ hy)), decide_eq_false h]; rfl
theorem namE_find (l : List Ent) (n : ByteArray) : (mapFind tt 9 (D.s n) (namE l)).getD (B false) = B (decide (hasN l n)) := by
  unfold namE
  have hk := keys_find (kt := 9) (enc := fun e : Ent => D.s e.name) (kf := Ent.name) (fun a b => eqStr a.name b.name) ⟨n, n⟩ l [] (by simp)
  simp only at hk
  rw [hk]
  by_cases h : hasN l n
  · obtain ⟨y, hy, e⟩ := h
    rw [if_pos ⟨y, hy, e.symm⟩, decide_eq_true ⟨y, hy, e⟩]; rfl
  · rw [if_neg (by rintro ⟨y, hy, e⟩; exact h ⟨y, hy, e.symm⟩), decide_eq_false h]; rfl
theorem deltas_set (l : List Ent) (hl : l.length < 2 ^ 40) : CallMap Tryd.prog 43 [.d (SL 2 (l.map Ent.d))] tt 52 (setE l) := by
  refine exMap_sound (E := envOf Tryd.prog tt Tryd.f43.ntmps) (envOf_ok ttok mixed) Tryd.func43 (by rfl) rfl rfl (Nat.le_of_ble_eq_true rfl) ?_
  repeat' ((conv => whnf); first | (with_reducible first | refine dT ?_ | refine dU ?_ | refine dF ?_ | refine dG ?_) | refine aT ?_ | refine aF ?_ | refine dS (fun _ => ?_) fun _ => ?_ | refine aW ?_ | refine aC ?_ | refine aL ?_ | refine Prep.skip ?_ | refine Eith.l ?_ | refine aD ?_ | refine aB (fun _ => ?_) fun _ => ?_ | fail)
  all_goals (conv => whnf)
  refine ALoop.at (E := envOf Tryd.prog tt Tryd.f43.ntmps) (envOf_ok ttok mixed) (X := Nat) (fun i => [(9, .d (I i))]) (fun i => [(0, .map tt 52 (setE (l.take i)))]) (fun i => i ≤ l.length) (fun i => l.length - i) 0 sam rfl (Nat.zero_le _) ?_
  intro i hi
  by_cases hlt : i < l.length
  · obtain ⟨x, hx, _⟩ := drop_get hlt
    repeat' ((conv => whnf); first | (with_reducible first | refine dT ?_ | refine dU ?_ | refine dF ?_ | refine dG ?_) | refine aT ?_ | refine aF ?_ | refine dS (fun _ => ?_) fun _ => ?_ | refine aW ?_ | refine aC ?_ | refine aL ?_ | refine Prep.skip ?_ | refine Eith.l ?_ | refine aD ?_ | refine aB (fun _ => ?_) fun _ => ?_ | refine nthK_mk (map_get hx) ?_ | fail)
    all_goals (conv => whnf)
    all_goals first
      | exact ⟨i + 1, Wm.end sam (show [Blk.map tt 52 (mapPut tt 52 x.d (B true) (setE (l.take i)))] = [Blk.map tt 52 (setE (l.take (i + 1)))] by unfold setE; rw [List.take_add_one, hx, Option.toList_some, keysM_snoc]) rfl rfl, hlt, by omega⟩
  · repeat' ((conv => whnf); first | (with_reducible first | refine dT ?_ | refine dU ?_ | refine dF ?_ | refine dG ?_) | refine aT ?_ | refine aF ?_ | refine dS (fun _ => ?_) fun _ => ?_ | refine aW ?_ | refine aC ?_ | refine aL ?_ | refine Prep.skip ?_ | refine Eith.l ?_ | refine aD ?_ | refine aB (fun _ => ?_) fun _ => ?_ | fail)
    all_goals (conv => whnf)
    all_goals first
      | (exfalso; omega)
      | exact ⟨rfl, rfl, by rw [List.take_of_length_le (by omega)]⟩
theorem deltas_names (l : List Ent) (hl : l.length < 2 ^ 40) : CallMap Tryd.prog 48 [.d (SL 2 (l.map Ent.d))] tt 9 (namE l) := by
  refine exMap_sound (E := envOf Tryd.prog tt Tryd.f48.ntmps) (envOf_ok ttok mixed) Tryd.func48 (by rfl) rfl rfl (Nat.le_of_ble_eq_true rfl) ?_
  repeat' ((conv => whnf); first | (with_reducible first | refine dT ?_ | refine dU ?_ | refine dF ?_ | refine dG ?_) | refine aT ?_ | refine aF ?_ | refine dS (fun _ => ?_) fun _ => ?_ | refine aW ?_ | refine aC ?_ | refine aL ?_ | refine Prep.skip ?_ | refine Eith.l ?_ | refine aD ?_ | refine aB (fun _ => ?_) fun _ => ?_ | fail)
  all_goals (conv => whnf)
  refine ALoop.at (E := envOf Tryd.prog tt Tryd.f48.ntmps) (envOf_ok ttok mixed) (X := Nat) (fun i => [(9, .d (I i))]) (fun i => [(0, .map tt 9 (namE (l.take i)))]) (fun i => i ≤ l.length) (fun i => l.length - i) 0 sam rfl (Nat.zero_le _) ?_
  intro i hi
  by_cases hlt : i < l.length
  · obtain ⟨x, hx, _⟩ := drop_get hlt
    repeat' ((conv => whnf); first | (with_reducible first | refine dT ?_ | refine dU ?_ | refine dF ?_ | refine dG ?_) | refine aT ?_ | refine aF ?_ | refine dS (fun _ => ?_) fun _ => ?_ | refine aW ?_ | refine aC ?_ | refine aL ?_ | refine Prep.skip ?_ | refine Eith.l ?_ | refine aD ?_ | refine aB (fun _ => ?_) fun _ => ?_ | refine nthK_mk (map_get hx) ?_ | fail)
    all_goals (conv => whnf)
    all_goals first
      | exact ⟨i + 1, Wm.end sam (show [Blk.map tt 9 (mapPut tt 9 (D.s x.name) (B true) (namE (l.take i)))] = [Blk.map tt 9 (namE (l.take (i + 1)))] by unfold namE; rw [List.take_add_one, hx, Option.toList_some, keysM_snoc]) rfl rfl, hlt, by omega⟩
  · repeat' ((conv => whnf); first | (with_reducible first | refine dT ?_ | refine dU ?_ | refine dF ?_ | refine dG ?_) | refine aT ?_ | refine aF ?_ | refine dS (fun _ => ?_) fun _ => ?_ | refine aW ?_ | refine aC ?_ | refine aL ?_ | refine Prep.skip ?_ | refine Eith.l ?_ | refine aD ?_ | refine aB (fun _ => ?_) fun _ => ?_ | fail)
    all_goals (conv => whnf)
    all_goals first
      | (exfalso; omega)
      | exact ⟨rfl, rfl, by rw [List.take_of_length_le (by omega)]⟩
structure XF where
  i : Nat
  v : Nat
theorem deltas_notIn (l b : List Ent) (hl : l.length < 2 ^ 29) (n : Nat) : CallK Tryd.prog 42 [.d (SL 2 (l.map Ent.d)), .map n] [n] [.map tt 52 (setE b)] (retD [SL 2 ((lessE l b).map Ent.d)]) := by
  refine exMapK_sound (E := envOf Tryd.prog tt Tryd.f42.ntmps) (envOf_ok ttok mixed) Tryd.func42 (by rfl) rfl (args := [.d (SL 2 (l.map Ent.d)), .map 0]) rfl (Nat.le_of_ble_eq_true rfl) ?_ n
  repeat' ((conv => whnf); first | (with_reducible first | refine dT ?_ | refine dU ?_ | refine dF ?_ | refine dG ?_) | refine aT ?_ | refine aF ?_ | refine dS (fun _ => ?_) fun _ => ?_ | refine aW ?_ | refine aC ?_ | refine aL ?_ | refine Prep.skip ?_ | refine Eith.l ?_ | refine aD ?_ | refine aB (fun _ => ?_) fun _ => ?_ | refine ACall.body (E := envOf Tryd.prog tt Tryd.f76.ntmps) (envOf_ok ttok mixed) Tryd.func76 (by rfl) rfl (Nat.le_of_ble_eq_true rfl) ?_ | fail)
  all_goals (conv => whnf)
  refine ALoop.virt 4 0 2 false (by decide) rfl ?_
  conv => whnf
  refine ALoop.at (E := envOf Tryd.prog tt Tryd.f76.ntmps) (envOf_ok ttok mixed) (X := XF) (fun x => [(9, .d (I x.i)), (4, .sref 2 x.v 0 (lessE (l.take x.i) b).length false)]) (fun x => [(2, .row x.v 2 false ((lessE (l.take x.i) b).map Ent.d))]) (fun x => x.i ≤ l.length) (fun x => l.length - x.i) ⟨0, 0⟩ sam rfl (Nat.zero_le _) ?_
  rintro ⟨i, v⟩ hi
  dsimp only at hi
  dsimp only
  have hlen : (lessE (l.take i) b).length ≤ l.length := by
    unfold lessE
    refine Nat.le_trans (List.length_filter_le _ _) ?_
    rw [List.length_take]; omega
  by_cases hlt : i < l.length
  · obtain ⟨x, hx, _⟩ := drop_get hlt
    have hnext : lessE (l.take (i + 1)) b = lessE (l.take i) b ++ lessE [x] b := by unfold lessE; rw [List.take_add_one, hx, Option.toList_some, List.filter_append]
    repeat' ((conv => whnf); first | (with_reducible first | refine dT ?_ | refine dU ?_ | refine dF ?_ | refine dG ?_) | refine aT ?_ | refine aF ?_ | refine dS (fun _ => ?_) fun _ => ?_ | refine aW ?_ | refine aC ?_ | refine aL ?_ | refine Prep.skip ?_ | refine Eith.l ?_ | refine aD ?_ | refine aB (fun _ => ?_) fun _ => ?_ | refine nthK_mk (map_get hx) ?_ | refine ACall.body (E := envOf Tryd.prog tt Tryd.f77.ntmps) (envOf_ok ttok mixed) Tryd.func77 (by rfl) rfl (Nat.le_of_ble_eq_true rfl) ?_ | refine Nam.mk (setE_find b x) ?_ | fail)
    all_goals (conv => whnf)
    · rename_i hb
      have hb : x ∉ b := by simpa using hb
      have hl2 : lessE (l.take (i + 1)) b = lessE (l.take i) b ++ [x] := by rw [hnext]; congr 1; simp [lessE, hb]
      refine ⟨⟨i + 1, v + 1⟩, ?_, hlt, by show l.length - (i + 1) < l.length - i; omega⟩
      dsimp only
      rw [hl2, List.length_append, List.map_append]
      exact Wm.end sam rfl rfl rfl
    · rename_i hb
      have hb : x ∈ b := by simpa using hb
      have hl2 : lessE (l.take (i + 1)) b = lessE (l.take i) b := by rw [hnext]; simp [lessE, hb]
      refine ⟨⟨i + 1, v⟩, ?_, hlt, by show l.length - (i + 1) < l.length - i; omega⟩
      dsimp only
      rw [hl2]
      exact Wm.end sam rfl rfl rfl
  · have hti : l.take i = l := List.take_of_length_le (by omega)
    rw [hti]
    repeat' ((conv => whnf); first | (with_reducible first | refine dT ?_ | refine dU ?_ | refine dF ?_ | refine dG ?_) | refine aT ?_ | refine aF ?_ | refine dS (fun _ => ?_) fun _ => ?_ | refine aW ?_ | refine aC ?_ | refine aL ?_ | refine Prep.skip ?_ | refine Eith.l ?_ | refine aD ?_ | refine aB (fun _ => ?_) fun _ => ?_ | refine Nam.mk (whole (List.length_map _).symm) ?_ | fail)
    all_goals (conv => whnf)
    exact ⟨DLe.refl _, rfl⟩
end Go.PM
