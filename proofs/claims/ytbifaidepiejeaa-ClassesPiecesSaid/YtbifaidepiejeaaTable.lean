/- classes.Table. -/
import Derived.Test.YtbifaidepiejeaaTableR
namespace Go.PM
open Go.Proofs
set_option maxRecDepth 10000
set_option maxHeartbeats 1000000

/-- The map of what was met. -/
def metM (w : AWorld) (known : Int) (rs : List Read) : List (D × D) := rs.map fun z => (z.d, B (decide (refusedM w z known)))

theorem metM_find (w : AWorld) (known : Int) (z : Read) : ∀ (rs : List Read), mapFind tt 68 z.d (metM w known rs) = if z ∈ rs then some (B (decide (refusedM w z known))) else none
  | [] => rfl
  | x :: rs => by
    have ih := metM_find w known z rs
    unfold metM at ih ⊢
    rw [List.map_cons, mapFind, eqRead]
    by_cases h : z = x
    · subst h; simp
    · simp only [h, decide_false, Bool.false_eq_true, if_false, List.mem_cons, false_or]
      exact ih

theorem metM_put (w : AWorld) (known : Int) (z : Read) : ∀ (rs : List Read), z ∉ rs → mapPut tt 68 z.d (B (decide (refusedM w z known))) (metM w known rs) = metM w known (rs ++ [z])
  | [], _ => rfl
  | x :: rs, h => by
    simp only [List.mem_cons, not_or] at h
    have ih := metM_put w known z rs h.2
    unfold metM at ih ⊢
    rw [List.map_cons, mapPut, eqRead]
    simp only [h.1, decide_false, Bool.false_eq_true, if_false]
    rw [ih]
    rfl

theorem rep_get {α β : Type} (f : α → β) (l : List α) (z : β) {j : Nat} (h : j < l.length) : ((l.take j).map f ++ List.replicate (l.length - j) z)[j]? = some z := by
  rw [List.getElem?_append_right (by simp; omega)]
  rw [List.getElem?_replicate, if_pos (by simp; omega)]
theorem set_get {α : Type} {l : List α} {i : Nat} {y : α} (h : i < l.length) : (l.set i y)[i]? = some y := by simp [h]
theorem rep_set {α β : Type} (f : α → β) (l : List α) (z : β) {j : Nat} {x : α} (h : l[j]? = some x) : ((l.take j).map f ++ List.replicate (l.length - j) z).set j (f x) = (l.take (j + 1)).map f ++ List.replicate (l.length - (j + 1)) z := by
  have hl : j < l.length := (List.getElem?_eq_some_iff.1 h).1
  rw [List.set_append_right _ _ (by simp; omega), take_map h, show l.length - j = (l.length - (j + 1)) + 1 by omega, List.replicate_succ]
  have : j - ((l.take j).map f).length = 0 := by simp; omega
  rw [this]
  simp
theorem rep_same {α β : Type} (f : α → β) (l : List α) (z : β) {j : Nat} {x : α} (h : l[j]? = some x) (hf : f x = z) : (l.take j).map f ++ List.replicate (l.length - j) z = (l.take (j + 1)).map f ++ List.replicate (l.length - (j + 1)) z := by
  rw [← rep_set f l z h, hf]
  refine List.ext_getElem? fun i => ?_
  rw [List.getElem?_set]
  split
  · rename_i e
    subst e
    rw [if_pos (by have := (List.getElem?_eq_some_iff.1 h).1; simp; omega), rep_get f l z (List.getElem?_eq_some_iff.1 h).1]
  · rfl
theorem fitsM_could {w : AWorld} {x : Supply} {y : Request} {known : Int} (hx : x.ok) (hy : y.ok) (h : couldM w x y) : fitsM w x y known = (!decide (refusedM w (lookM x y) known), [lookM x y]) := by unfold fitsM; rw [if_pos ⟨hx, hy, h⟩]
theorem fitsM_not {w : AWorld} {x : Supply} {y : Request} {known : Int} (h : ¬ couldM w x y) : fitsM w x y known = (false, []) := by unfold fitsM; rw [if_neg (fun h' => h h'.2.2)]

structure XT where
  i : Nat
  vr : Nat
  lr : Nat
  dr : List D
  es : List (D × D)
  df : List D
theorem table_1 (x : Supply) : CallP Try.prog 30 [.d x.d] (retD [.b (decide (¬ x.ok))]) := by
  refine exPure_sound (E := envOf Try.prog tt Try.f30.ntmps) (envOf_ok ttok mixed) Try.func30 (by rfl) rfl rfl (Nat.le_of_ble_eq_true rfl) ?_
  repeat' ((conv => whnf); first | with_reducible refine Dec.t (show true = true from rfl) ?_ | with_reducible refine Dec.t (show false = false from rfl) ?_ | with_reducible refine Dec.f (show ¬ (true = false) by decide) ?_ | with_reducible refine Dec.f (show ¬ (false = true) by decide) ?_ | refine Dec.t (by omega) ?_ | refine Dec.f (by omega) ?_ | refine Dec.split (fun _ => ?_) (fun _ => ?_) | refine Wr.id (by omega) ?_ | refine Chk.mk (by first | omega | exact rfl | (simp only [List.length_map]; omega) | (simp [room]; done) | (simp [room]; omega) | (simp [dropL, room]; done) | (simp [dropL, room]; omega)) ?_ | refine Nam.mk (List.length_map _) ?_ | refine Prep.skip ?_ | refine Eith.l ?_ | refine chk_t (x := D.flat _) (by assumption) ?_ | refine br_mk (fun _ => ?_) (fun _ => ?_) | refine ACall.ofB (classes_validSupply x) (fun _ => ?_) (fun _ => ?_))
  all_goals (conv => whnf)
  all_goals try simp only [decide_eq_true_eq, decide_eq_false_iff_not] at *
  · rw [decide_eq_false (by simpa using ‹x.ok›)]; exact DLe.refl _
  · rw [decide_eq_true (by assumption)]; exact DLe.refl _
theorem table_2 (x : Request) : CallP Try.prog 33 [.d x.d] (retD [.b (decide (¬ x.ok))]) := by
  refine exPure_sound (E := envOf Try.prog tt Try.f33.ntmps) (envOf_ok ttok mixed) Try.func33 (by rfl) rfl rfl (Nat.le_of_ble_eq_true rfl) ?_
  repeat' ((conv => whnf); first | with_reducible refine Dec.t (show true = true from rfl) ?_ | with_reducible refine Dec.t (show false = false from rfl) ?_ | with_reducible refine Dec.f (show ¬ (true = false) by decide) ?_ | with_reducible refine Dec.f (show ¬ (false = true) by decide) ?_ | refine Dec.t (by omega) ?_ | refine Dec.f (by omega) ?_ | refine Dec.split (fun _ => ?_) (fun _ => ?_) | refine Wr.id (by omega) ?_ | refine Chk.mk (by first | omega | exact rfl | (simp only [List.length_map]; omega) | (simp [room]; done) | (simp [room]; omega) | (simp [dropL, room]; done) | (simp [dropL, room]; omega)) ?_ | refine Nam.mk (List.length_map _) ?_ | refine Prep.skip ?_ | refine Eith.l ?_ | refine chk_t (x := D.flat _) (by assumption) ?_ | refine br_mk (fun _ => ?_) (fun _ => ?_) | refine ACall.ofB (classes_validRequest x) (fun _ => ?_) (fun _ => ?_))
  all_goals (conv => whnf)
  all_goals try simp only [decide_eq_true_eq, decide_eq_false_iff_not] at *
  · rw [decide_eq_false (by simpa using ‹x.ok›)]; exact DLe.refl _
  · rw [decide_eq_true (by assumption)]; exact DLe.refl _

theorem classes_Table (w : AWorld) (s : List Supply) (r : List Request) (known : Int) (hs : s.length < 2 ^ 20) (hr : r.length < 2 ^ 20) (hw : w.swaps.length < 2 ^ 40) (hf : w.facts.length < 2 ^ 40) :
    CallP Try.prog 12 [.d w.d, .d (SL 6 (s.map Supply.d)), .d (SL 6 (r.map Request.d)), .d (I known)] (tableM w s r known).d := by
  refine exPure_sound (E := envOf Try.prog tt Try.f12.ntmps) (envOf_ok ttok mixed) Try.func12 (by rfl) rfl rfl (Nat.le_of_ble_eq_true rfl) ?_
  unfold tableM
  by_cases h1 : s.length ≤ 64 ∧ r.length ≤ 64
  · obtain ⟨h1, h2⟩ := h1
    repeat' ((conv => whnf); first | with_reducible refine Dec.t (show true = true from rfl) ?_ | with_reducible refine Dec.t (show false = false from rfl) ?_ | with_reducible refine Dec.f (show ¬ (true = false) by decide) ?_ | with_reducible refine Dec.f (show ¬ (false = true) by decide) ?_ | refine Dec.t (by omega) ?_ | refine Dec.f (by omega) ?_ | refine Dec.split (fun _ => ?_) (fun _ => ?_) | refine Wr.id (by omega) ?_ | refine Chk.mk (by first | omega | exact rfl | (simp only [List.length_map]; omega) | (simp [room]; done) | (simp [room]; omega) | (simp [dropL, room]; done) | (simp [dropL, room]; omega)) ?_ | refine Nam.mk (List.length_map _) ?_ | refine Prep.skip ?_ | refine Eith.l ?_ | refine chk_t (x := D.flat _) (by assumption) ?_ | refine br_mk (fun _ => ?_) (fun _ => ?_))
    conv => whnf
    refine ACall.ofB (supply_ContainsFunc 30 s (fun x => ¬ x.ok) (by omega) (fun x _ => table_1 x)) (fun hb => ?_) (fun hb => ?_)
    · have hb : ∃ x ∈ s, ¬ x.ok := of_decide_eq_true hb
      rw [if_neg (fun h => by obtain ⟨x, hx, hn⟩ := hb; exact hn (h.2.1 x hx))]
      repeat' ((conv => whnf); first | with_reducible refine Dec.t (show true = true from rfl) ?_ | with_reducible refine Dec.t (show false = false from rfl) ?_ | with_reducible refine Dec.f (show ¬ (true = false) by decide) ?_ | with_reducible refine Dec.f (show ¬ (false = true) by decide) ?_ | refine Dec.t (by omega) ?_ | refine Dec.f (by omega) ?_ | refine Dec.split (fun _ => ?_) (fun _ => ?_) | refine Wr.id (by omega) ?_ | refine Chk.mk (by first | omega | exact rfl | (simp only [List.length_map]; omega) | (simp [room]; done) | (simp [room]; omega) | (simp [dropL, room]; done) | (simp [dropL, room]; omega)) ?_ | refine Nam.mk (List.length_map _) ?_ | refine Prep.skip ?_ | refine Eith.l ?_ | refine chk_t (x := D.flat _) (by assumption) ?_ | refine br_mk (fun _ => ?_) (fun _ => ?_))
      conv => whnf
      exact (by repeat (first | exact trivial | exact rfl | exact DLe.refl _ | exact DLe.full _ _ _ | exact DLe.nil _ _ _ | exact VLe.refl _ | refine And.intro ?_ ?_ | refine VLe.d ?_ | refine DLe.agg ?_))
    have hb : ¬ ∃ x ∈ s, ¬ x.ok := of_decide_eq_false hb
    have hsok : ∀ x ∈ s, x.ok := fun x hx => Classical.byContradiction fun hn => hb ⟨x, hx, hn⟩
    clear hb
    repeat' ((conv => whnf); first | with_reducible refine Dec.t (show true = true from rfl) ?_ | with_reducible refine Dec.t (show false = false from rfl) ?_ | with_reducible refine Dec.f (show ¬ (true = false) by decide) ?_ | with_reducible refine Dec.f (show ¬ (false = true) by decide) ?_ | refine Dec.t (by omega) ?_ | refine Dec.f (by omega) ?_ | refine Dec.split (fun _ => ?_) (fun _ => ?_) | refine Wr.id (by omega) ?_ | refine Chk.mk (by first | omega | exact rfl | (simp only [List.length_map]; omega) | (simp [room]; done) | (simp [room]; omega) | (simp [dropL, room]; done) | (simp [dropL, room]; omega)) ?_ | refine Nam.mk (List.length_map _) ?_ | refine Prep.skip ?_ | refine Eith.l ?_ | refine chk_t (x := D.flat _) (by assumption) ?_ | refine br_mk (fun _ => ?_) (fun _ => ?_))
    conv => whnf
    refine ACall.ofB (request_ContainsFunc 33 r (fun x => ¬ x.ok) (by omega) (fun x _ => table_2 x)) (fun hb => ?_) (fun hb => ?_)
    · have hb : ∃ x ∈ r, ¬ x.ok := of_decide_eq_true hb
      rw [if_neg (fun h => by obtain ⟨x, hx, hn⟩ := hb; exact hn (h.2.2 x hx))]
      repeat' ((conv => whnf); first | with_reducible refine Dec.t (show true = true from rfl) ?_ | with_reducible refine Dec.t (show false = false from rfl) ?_ | with_reducible refine Dec.f (show ¬ (true = false) by decide) ?_ | with_reducible refine Dec.f (show ¬ (false = true) by decide) ?_ | refine Dec.t (by omega) ?_ | refine Dec.f (by omega) ?_ | refine Dec.split (fun _ => ?_) (fun _ => ?_) | refine Wr.id (by omega) ?_ | refine Chk.mk (by first | omega | exact rfl | (simp only [List.length_map]; omega) | (simp [room]; done) | (simp [room]; omega) | (simp [dropL, room]; done) | (simp [dropL, room]; omega)) ?_ | refine Nam.mk (List.length_map _) ?_ | refine Prep.skip ?_ | refine Eith.l ?_ | refine chk_t (x := D.flat _) (by assumption) ?_ | refine br_mk (fun _ => ?_) (fun _ => ?_))
      conv => whnf
      exact (by repeat (first | exact trivial | exact rfl | exact DLe.refl _ | exact DLe.full _ _ _ | exact DLe.nil _ _ _ | exact VLe.refl _ | refine And.intro ?_ ?_ | refine VLe.d ?_ | refine DLe.agg ?_))
    have hb : ¬ ∃ x ∈ r, ¬ x.ok := of_decide_eq_false hb
    have hrok : ∀ x ∈ r, x.ok := fun x hx => Classical.byContradiction fun hn => hb ⟨x, hx, hn⟩
    clear hb
    rw [if_pos ⟨⟨h1, h2⟩, hsok, hrok⟩]
    repeat' ((conv => whnf); first | with_reducible refine Dec.t (show true = true from rfl) ?_ | with_reducible refine Dec.t (show false = false from rfl) ?_ | with_reducible refine Dec.f (show ¬ (true = false) by decide) ?_ | with_reducible refine Dec.f (show ¬ (false = true) by decide) ?_ | refine Dec.t (by omega) ?_ | refine Dec.f (by omega) ?_ | refine Dec.split (fun _ => ?_) (fun _ => ?_) | refine Wr.id (by omega) ?_ | refine Chk.mk (by first | omega | exact rfl | (simp only [List.length_map]; omega) | (simp [room]; done) | (simp [room]; omega) | (simp [dropL, room]; done) | (simp [dropL, room]; omega)) ?_ | refine Nam.mk (List.length_map _) ?_ | refine Prep.skip ?_ | refine Eith.l ?_ | refine chk_t (x := D.flat _) (by assumption) ?_ | refine br_mk (fun _ => ?_) (fun _ => ?_) | refine Alt.r ?_)
    conv => whnf
    refine ALoop.virt 9 0 5 false (by decide) rfl ?_
    conv => whnf
    refine ALoop.at (E := envOf Try.prog tt Try.f12.ntmps) (envOf_ok ttok mixed) (X := XT) (fun x => [(41, .d (I x.i)), (9, .sref 3 x.vr 0 x.lr false), (8, .sref 2 1 0 s.length true)]) (fun x => [(1, .map tt 68 x.es), (2, .vard x.df), (3, .row x.vr 5 false x.dr)])
      (fun x => x.i ≤ s.length ∧ ∃ rs, x.df = ((s.take x.i).map fun x => rowM w x r known).map rowD ++ List.replicate (s.length - x.i) (.sl 0 true []) ∧ x.es = metM w known rs ∧ x.dr = rs.map Read.d ∧ x.lr = rs.length ∧ rs.length ≤ x.i * 64 ∧ allReads w (s.drop x.i) r known rs = allReads w s r known [])
      (fun x => s.length - x.i) ⟨0, 0, 0, [], [], List.replicate s.length (.sl 0 true [])⟩ (by repeat (first | exact trivial | refine And.intro rfl ?_ | refine And.intro (congrArg (fun n => V.d (I n)) (wrap_nat _ (by omega))) ?_)) rfl ⟨Nat.zero_le _, [], rfl, rfl, rfl, rfl, by simp, rfl⟩ ?_
    rintro ⟨i, vr, lr, dr, es, df⟩ ⟨hi, rs, h3, h4, h5, h6, h7, hm⟩
    simp only at hi h3 h4 h5 h6 h7 hm
    have hdl : df.length = s.length := by rw [h3]; simp; omega
    subst h4 h5 h6
    dsimp only
    by_cases hlt : i < s.length
    · obtain ⟨x, hx, hxd⟩ := drop_get hlt
      rw [hxd, allReads, List.foldl_cons, ← allReads] at hm
      repeat' ((conv => whnf); first | with_reducible refine Dec.t (show true = true from rfl) ?_ | with_reducible refine Dec.t (show false = false from rfl) ?_ | with_reducible refine Dec.f (show ¬ (true = false) by decide) ?_ | with_reducible refine Dec.f (show ¬ (false = true) by decide) ?_ | refine Dec.t (by omega) ?_ | refine Dec.f (by omega) ?_ | refine Dec.split (fun _ => ?_) (fun _ => ?_) | refine Wr.id (by omega) ?_ | refine Chk.mk (by first | omega | exact rfl | (simp only [List.length_map]; omega) | (simp [room]; done) | (simp [room]; omega) | (simp [dropL, room]; done) | (simp [dropL, room]; omega)) ?_ | refine Nam.mk (List.length_map _) ?_ | refine Prep.skip ?_ | refine Eith.l ?_ | refine chk_t (x := D.flat _) (by assumption) ?_ | refine br_mk (fun _ => ?_) (fun _ => ?_) | refine nthK_mk (map_get hx) ?_ | refine setK_mk (by simp; omega) ?_)
      conv => whnf
      refine ALoop.at (E := envOf Try.prog tt Try.f12.ntmps) (envOf_ok ttok mixed) (X := XT) (fun x => [(54, .d (I x.i)), (9, .sref 3 x.vr 0 x.lr false)]) (fun x => [(1, .map tt 68 x.es), (5, .row 0 1 false x.df), (3, .row x.vr 5 false x.dr)])
        (fun z => z.i ≤ r.length ∧ ∃ qs, z.df = (r.take z.i).map (fun y => B (fitsM w x y known).1) ++ List.replicate (r.length - z.i) (B false) ∧ z.es = metM w known qs ∧ z.dr = qs.map Read.d ∧ z.lr = qs.length ∧ qs.length ≤ i * 64 + z.i ∧ rowReads w x (r.drop z.i) known qs = rowReads w x r known rs)
        (fun x => r.length - x.i) ⟨0, vr, rs.length, rs.map Read.d, metM w known rs, List.replicate r.length (B false)⟩ (by repeat (first | exact trivial | refine And.intro rfl ?_ | refine And.intro (congrArg (fun n => V.d (I n)) (wrap_nat _ (by omega))) ?_)) rfl ⟨Nat.zero_le _, rs, rfl, rfl, rfl, rfl, by simp only; omega, rfl⟩ ?_
      rintro ⟨j, vr2, lr, dr, es, dm⟩ ⟨hj, qs, g3, g4, g5, g6, g7, gm⟩
      simp only at hj g3 g4 g5 g6 g7 gm
      have hml : dm.length = r.length := by rw [g3]; simp; omega
      subst g4 g5 g6
      dsimp only
      by_cases hjl : j < r.length
      · obtain ⟨y, hy, hyd⟩ := drop_get hjl
        rw [hyd, rowReads, List.foldl_cons, ← rowReads] at gm
        have hxo := hsok x (List.mem_of_getElem? hx)
        have hyo := hrok y (List.mem_of_getElem? hy)
        have hget : dm[0 + ((j : Nat) : Int).toNat]? = some (B false) := by rw [Nat.zero_add, Int.toNat_natCast, g3]; exact rep_get _ _ _ hjl
        by_cases hc : couldM w x y
        · rw [fitsM_could hxo hyo hc, List.foldl_cons, List.foldl_nil] at gm
          by_cases hin : lookM x y ∈ qs
          · rw [addRead, if_pos hin] at gm
            have hfind := metM_find w known (lookM x y) qs
            rw [if_pos hin] at hfind
            repeat' ((conv => whnf); first | with_reducible refine Dec.t (show true = true from rfl) ?_ | with_reducible refine Dec.t (show false = false from rfl) ?_ | with_reducible refine Dec.f (show ¬ (true = false) by decide) ?_ | with_reducible refine Dec.f (show ¬ (false = true) by decide) ?_ | refine Dec.t (by omega) ?_ | refine Dec.f (by omega) ?_ | refine Dec.split (fun _ => ?_) (fun _ => ?_) | refine Wr.id (by omega) ?_ | refine Chk.mk (by first | omega | exact rfl | (simp only [List.length_map]; omega) | (simp [room]; done) | (simp [room]; omega) | (simp [dropL, room]; done) | (simp [dropL, room]; omega)) ?_ | refine Nam.mk (List.length_map _) ?_ | refine Prep.skip ?_ | refine Eith.l ?_ | refine chk_t (x := D.flat _) (by assumption) ?_ | refine br_mk (fun _ => ?_) (fun _ => ?_) | refine ACall.ofB (classes_couldFit w x y hw hyo) (fun _ => ?_) (fun h => absurd hc (of_decide_eq_false h)) | refine nthK_mk (map_get hx) ?_ | refine nthK_mk (map_get hy) ?_ | refine ACall.of (classes_look x y hyo) ?_ | refine Nam.mk (congrArg (fun o => Option.getD o _) hfind) ?_ | refine Nam.mk (congrArg Option.isSome hfind) ?_ | refine nthK_mk (set_get (by simp; omega)) ?_ | refine nthK_mk (x := B false) hget ?_ | refine setK_mk (by simp; omega) ?_ | refine ACall.ofB (classes_refused w (lookM x y) known hf) (fun _ => ?_) (fun _ => ?_))
            conv => whnf
            refine ⟨⟨j + 1, vr2, qs.length, qs.map Read.d, metM w known qs, dm.set (0 + ((j : Nat) : Int).toNat) (B (!decide (refusedM w (lookM x y) known)))⟩, Wm.end (by repeat (first | exact trivial | refine And.intro rfl ?_ | refine And.intro (congrArg (fun n => V.d (I n)) (wrap_nat _ (by omega))) ?_)) rfl rfl (by repeat (first | exact rfl | refine all_cons' (by first | exact rfl | exact all_nm rfl) ?_)), ⟨hjl, qs, ?_, rfl, rfl, rfl, by simp only; omega, gm⟩, by simp only; omega⟩
            simp only
            rw [Nat.zero_add, Int.toNat_natCast, g3, ← rep_set _ _ _ hy, fitsM_could hxo hyo hc]
          · have hfind := metM_find w known (lookM x y) qs
            rw [if_neg hin] at hfind
            rw [addRead, if_neg hin] at gm
            repeat' ((conv => whnf); first | with_reducible refine Dec.t (show true = true from rfl) ?_ | with_reducible refine Dec.t (show false = false from rfl) ?_ | with_reducible refine Dec.f (show ¬ (true = false) by decide) ?_ | with_reducible refine Dec.f (show ¬ (false = true) by decide) ?_ | refine Dec.t (by omega) ?_ | refine Dec.f (by omega) ?_ | refine Dec.split (fun _ => ?_) (fun _ => ?_) | refine Wr.id (by omega) ?_ | refine Chk.mk (by first | omega | exact rfl | (simp only [List.length_map]; omega) | (simp [room]; done) | (simp [room]; omega) | (simp [dropL, room]; done) | (simp [dropL, room]; omega)) ?_ | refine Nam.mk (List.length_map _) ?_ | refine Prep.skip ?_ | refine Eith.l ?_ | refine chk_t (x := D.flat _) (by assumption) ?_ | refine br_mk (fun _ => ?_) (fun _ => ?_) | refine ACall.ofB (classes_couldFit w x y hw hyo) (fun _ => ?_) (fun h => absurd hc (of_decide_eq_false h)) | refine nthK_mk (map_get hx) ?_ | refine nthK_mk (map_get hy) ?_ | refine ACall.of (classes_look x y hyo) ?_ | refine Nam.mk (congrArg (fun o => Option.getD o _) hfind) ?_ | refine Nam.mk (congrArg Option.isSome hfind) ?_ | refine nthK_mk (set_get (by simp; omega)) ?_ | refine nthK_mk (x := B false) hget ?_ | refine setK_mk (by simp; omega) ?_ | refine ACall.ofB (classes_refused w (lookM x y) known hf) (fun _ => ?_) (fun _ => ?_))
            all_goals (conv => whnf)
            all_goals (
              rename_i hrf
              refine ⟨⟨j + 1, vr2 + 1, qs.length + 1, qs.map Read.d ++ [(lookM x y).d], metM w known (qs ++ [lookM x y]), dm.set (0 + ((j : Nat) : Int).toNat) (B (!decide (refusedM w (lookM x y) known)))⟩, Wm.end (by repeat (first | exact trivial | refine And.intro rfl ?_ | refine And.intro (congrArg (fun n => V.d (I n)) (wrap_nat _ (by omega))) ?_)) (by rw [hrf, ← metM_put w known _ qs hin, hrf]; rfl) rfl (by repeat (first | exact rfl | refine all_cons' (by first | exact rfl | exact all_nm rfl) ?_)), ⟨hjl, qs ++ [lookM x y], ?_, rfl, by simp, by simp, by simp; omega, gm⟩, by simp only; omega⟩
              simp only
              rw [Nat.zero_add, Int.toNat_natCast, g3, ← rep_set _ _ _ hy, fitsM_could hxo hyo hc])
        · rw [fitsM_not hc, List.foldl_nil] at gm
          repeat' ((conv => whnf); first | with_reducible refine Dec.t (show true = true from rfl) ?_ | with_reducible refine Dec.t (show false = false from rfl) ?_ | with_reducible refine Dec.f (show ¬ (true = false) by decide) ?_ | with_reducible refine Dec.f (show ¬ (false = true) by decide) ?_ | refine Dec.t (by omega) ?_ | refine Dec.f (by omega) ?_ | refine Dec.split (fun _ => ?_) (fun _ => ?_) | refine Wr.id (by omega) ?_ | refine Chk.mk (by first | omega | exact rfl | (simp only [List.length_map]; omega) | (simp [room]; done) | (simp [room]; omega) | (simp [dropL, room]; done) | (simp [dropL, room]; omega)) ?_ | refine Nam.mk (List.length_map _) ?_ | refine Prep.skip ?_ | refine Eith.l ?_ | refine chk_t (x := D.flat _) (by assumption) ?_ | refine br_mk (fun _ => ?_) (fun _ => ?_) | refine ACall.ofB (classes_couldFit w x y hw hyo) (fun h => absurd (of_decide_eq_true h) hc) (fun _ => ?_) | refine nthK_mk (map_get hx) ?_ | refine nthK_mk (map_get hy) ?_ | refine ACall.of (classes_look x y hyo) ?_ | refine Nam.mk (congrArg (fun o => Option.getD o _) hfind) ?_ | refine Nam.mk (congrArg Option.isSome hfind) ?_ | refine nthK_mk (set_get (by simp; omega)) ?_ | refine nthK_mk (x := B false) hget ?_ | refine setK_mk (by simp; omega) ?_ | refine ACall.ofB (classes_refused w (lookM x y) known hf) (fun _ => ?_) (fun _ => ?_))
          conv => whnf
          refine ⟨⟨j + 1, vr2, qs.length, qs.map Read.d, metM w known qs, dm⟩, Wm.end (by repeat (first | exact trivial | refine And.intro rfl ?_ | refine And.intro (congrArg (fun n => V.d (I n)) (wrap_nat _ (by omega))) ?_)) rfl rfl (by repeat (first | exact rfl | refine all_cons' (by first | exact rfl | exact all_nm rfl) ?_)), ⟨hjl, qs, ?_, rfl, rfl, rfl, by simp only; omega, gm⟩, by simp only; omega⟩
          simp only
          rw [g3, rep_same _ _ _ hy]
          rw [fitsM_not hc]
      · have : j = r.length := by omega
        subst this
        rw [List.drop_length, rowReads, List.foldl_nil] at gm
        rw [← gm] at hm
        repeat' ((conv => whnf); first | with_reducible refine Dec.t (show true = true from rfl) ?_ | with_reducible refine Dec.t (show false = false from rfl) ?_ | with_reducible refine Dec.f (show ¬ (true = false) by decide) ?_ | with_reducible refine Dec.f (show ¬ (false = true) by decide) ?_ | refine Dec.t (by omega) ?_ | refine Dec.f (by omega) ?_ | refine Dec.split (fun _ => ?_) (fun _ => ?_) | refine Wr.id (by omega) ?_ | refine Chk.mk (by first | omega | exact rfl | (simp only [List.length_map]; omega) | (simp [room]; done) | (simp [room]; omega) | (simp [dropL, room]; done) | (simp [dropL, room]; omega)) ?_ | refine Nam.mk (List.length_map _) ?_ | refine Prep.skip ?_ | refine Eith.l ?_ | refine chk_t (x := D.flat _) (by assumption) ?_ | refine br_mk (fun _ => ?_) (fun _ => ?_))
        conv => whnf
        refine ⟨⟨i + 1, vr2, qs.length, qs.map Read.d, metM w known qs, df.set (0 + ((i : Nat) : Int).toNat) (.sl 1 false ((dm.drop 0).take ((r.length : Nat) : Int).toNat))⟩, Wm.trans (Wk.cell (n := 2) (m := 5) rfl rfl (by simp; omega) (by simp; omega)).wm (Wm.end (by repeat (first | exact trivial | refine And.intro rfl ?_ | refine And.intro (congrArg (fun n => V.d (I n)) (wrap_nat _ (by omega))) ?_)) rfl rfl rfl), ⟨hlt, qs, ?_, rfl, rfl, rfl, by simp only; omega, hm⟩, by simp only; omega⟩
        simp only [List.map_map] at h3 ⊢
        rw [h3, Nat.zero_add, Int.toNat_natCast, ← rep_set _ _ _ hx]
        congr 1
        rw [List.drop_zero, Int.toNat_natCast, g3, Nat.sub_self, List.replicate_zero, List.append_nil, List.take_length]
        simp only [rowD, rowM, Function.comp, List.map_map]
        rw [List.take_of_length_le (by simp)]
        try rfl
    · have : i = s.length := by omega
      subst this
      rw [List.drop_length, allReads, List.foldl_nil] at hm
      have hdf : (df.drop 0).take ((s.length : Nat) : Int).toNat = (s.map fun x => rowM w x r known).map rowD := by
        rw [Int.toNat_natCast, List.drop_zero, List.take_of_length_le (by omega), h3, List.take_length, Nat.sub_self]; simp
      repeat' ((conv => whnf); first | with_reducible refine Dec.t (show true = true from rfl) ?_ | with_reducible refine Dec.t (show false = false from rfl) ?_ | with_reducible refine Dec.f (show ¬ (true = false) by decide) ?_ | with_reducible refine Dec.f (show ¬ (false = true) by decide) ?_ | refine Dec.t (by omega) ?_ | refine Dec.f (by omega) ?_ | refine Dec.split (fun _ => ?_) (fun _ => ?_) | refine Wr.id (by omega) ?_ | refine Chk.mk (by first | omega | exact rfl | (simp only [List.length_map]; omega) | (simp [room]; done) | (simp [room]; omega) | (simp [dropL, room]; done) | (simp [dropL, room]; omega)) ?_ | refine Nam.mk (List.length_map _) ?_ | refine Prep.skip ?_ | refine Eith.l ?_ | refine chk_t (x := D.flat _) (by assumption) ?_ | refine br_mk (fun _ => ?_) (fun _ => ?_) | refine Nam.mk hdf ?_ | refine Nam.mk (take_all _ _) ?_)
      conv => whnf
      rw [← hm]
      exact (by repeat (first | exact trivial | exact rfl | exact DLe.refl _ | exact DLe.full _ _ _ | exact DLe.nil _ _ _ | exact VLe.refl _ | refine And.intro ?_ ?_ | refine VLe.d ?_ | refine DLe.agg ?_))
  · repeat' ((conv => whnf); first | with_reducible refine Dec.t (show true = true from rfl) ?_ | with_reducible refine Dec.t (show false = false from rfl) ?_ | with_reducible refine Dec.f (show ¬ (true = false) by decide) ?_ | with_reducible refine Dec.f (show ¬ (false = true) by decide) ?_ | refine Dec.t (by omega) ?_ | refine Dec.f (by omega) ?_ | refine Dec.split (fun _ => ?_) (fun _ => ?_) | refine Wr.id (by omega) ?_ | refine Chk.mk (by first | omega | exact rfl | (simp only [List.length_map]; omega) | (simp [room]; done) | (simp [room]; omega) | (simp [dropL, room]; done) | (simp [dropL, room]; omega)) ?_ | refine Nam.mk (List.length_map _) ?_ | refine Prep.skip ?_ | refine Eith.l ?_ | refine chk_t (x := D.flat _) (by assumption) ?_ | refine br_mk (fun _ => ?_) (fun _ => ?_))
    all_goals (conv => whnf)
    all_goals (rw [if_neg (fun h => h1 h.1)]; exact (by repeat (first | exact trivial | exact rfl | exact DLe.refl _ | exact DLe.full _ _ _ | exact DLe.nil _ _ _ | exact VLe.refl _ | refine And.intro ?_ ?_ | refine VLe.d ?_ | refine DLe.agg ?_)))
end Go.PM

