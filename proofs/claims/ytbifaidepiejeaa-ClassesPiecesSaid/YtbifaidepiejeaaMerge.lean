/- classes.Merge and its reference. -/
import Derived.Test.YtbifaidepiejeaaMerge0
namespace Go.PM
open Go.Proofs
set_option maxRecDepth 10000

structure MS where
  xs : List Supply
  ys : List (List Bool)
  of : List Int
def addAmount (n : Int) (s : Supply) : Supply := { s with amount := s.amount + n }
def mStep (m : MS) (s : Supply) (row : List Bool) : MS :=
  if idxM (· = row) m.ys < 0 then ⟨m.xs ++ [s], m.ys ++ [row], m.of ++ [(m.ys.length : Int)]⟩
  else ⟨m.xs.modify (0 + (idxM (· = row) m.ys).toNat) (addAmount s.amount), m.ys, m.of ++ [idxM (· = row) m.ys]⟩
def mLoop : List Supply → List (List Bool) → MS → MS
  | s :: ss, r :: rs, m => mLoop ss rs (mStep m s r)
  | _, _, m => m
def rowOk (fits : List (List Bool)) (s : Supply) (row : List Bool) : Prop := (0 ≤ s.amount ∧ s.amount ≤ 1048576) ∧ row.length = (fits.headD []).length ∧ row.length ≤ 64
instance (fits : List (List Bool)) (s : Supply) (row : List Bool) : Decidable (rowOk fits s row) := by unfold rowOk; infer_instance
def mergeOk (s : List Supply) (fits : List (List Bool)) : Prop := s.length ≤ 64 ∧ fits.length = s.length ∧ ∀ p ∈ s.zip fits, rowOk fits p.1 p.2
instance (s : List Supply) (fits : List (List Bool)) : Decidable (mergeOk s fits) := by unfold mergeOk; infer_instance
def mergeM (s : List Supply) (fits : List (List Bool)) : MS × Int := if mergeOk s fits then (mLoop s fits ⟨[], [], []⟩, 0) else (⟨[], [], []⟩, 290)
def mergeD (m : MS × Int) : V := retD [SL 6 (m.1.xs.map Supply.d), SL 1 (m.1.ys.map rowD), SL 1 (m.1.of.map I), I m.2]

structure MX where
  i : Nat
  vx : Nat
  vy : Nat
  vo : Nat
  lx : Nat
  ly : Nat
  lo : Nat
  dx : List D
  dy : List D
  dd : List D
def MInv (s : List Supply) (fits : List (List Bool)) (x : MX) : Prop := x.i ≤ s.length ∧ ∃ m : MS, x.dx = m.xs.map Supply.d ∧ x.dy = m.ys.map rowD ∧ x.dd = m.of.map I ∧ x.lx = m.xs.length ∧ x.ly = m.ys.length ∧ x.lo = m.of.length ∧
  m.xs.length = m.ys.length ∧ m.ys.length ≤ x.i ∧ m.of.length = x.i ∧ (∀ y ∈ m.xs, 0 ≤ y.amount ∧ y.amount ≤ x.i * 1048576) ∧ (∀ r ∈ m.ys, r.length ≤ 64) ∧ mLoop (s.drop x.i) (fits.drop x.i) m = mLoop s fits ⟨[], [], []⟩
theorem idxFrom_lt {α : Type} {p : α → Prop} [DecidablePred p] : ∀ (l : List α) (i : Nat), idxFrom p l i < i + l.length ∧ -1 ≤ idxFrom p l i
  | [], i => by simp [idxFrom]; omega
  | x :: r, i => by
    simp only [idxFrom]
    have := idxFrom_lt (p := p) r (i + 1)
    by_cases h : p x
    · simp [h]; omega
    · simp [h]; omega
theorem idxM_lt {α : Type} {p : α → Prop} [DecidablePred p] (l : List α) : idxM p l < l.length ∧ -1 ≤ idxM p l := by simpa [idxM] using idxFrom_lt (p := p) l 0

theorem modify_set {α : Type} {g : α → α} {z : α} : ∀ {xs : List α} {n : Nat}, xs[n]? = some z → xs.modify n g = xs.set n (g z)
  | x :: xs, 0, h => by simp at h; simp [List.modify, h]
  | x :: xs, n + 1, h => by
    simp only [List.getElem?_cons_succ] at h
    rw [List.modify_succ_cons, List.set_cons_succ, modify_set h]
theorem map_get0 {α β : Type} {f : α → β} {l : List α} {i : Nat} {x : α} (h : l[i]? = some x) : (l.map f)[0 + ((i : Nat) : Int).toNat]? = some (f x) := by simp [h]
theorem setK_map {α β : Type} {f : α → β} {x y : α} {w : β} {xs : List α} {n : Nat} {k : List β → Prop} (hx : xs[n]? = some x) (hw : w = f y) (hk : k ((xs.set n y).map f)) : setK (xs.map f) n w k := by
  refine setK_mk (by rw [List.length_map]; exact (List.getElem?_eq_some_iff.1 hx).1) ?_
  rw [hw, ← List.map_set]; exact hk

theorem classes_Merge (s : List Supply) (fits : List (List Bool)) (hs : s.length < 2 ^ 40) (hf : fits.length < 2 ^ 40) (hr : ∀ r ∈ fits, r.length < 2 ^ 20) : CallP Try.prog 19 [.d (SL 6 (s.map Supply.d)), .d (SL 1 (fits.map rowD))] (mergeD (mergeM s fits)) := by
  refine exPure_sound (E := envOf Try.prog tt Try.f19.ntmps) (envOf_ok ttok mixed) Try.func19 (by rfl) rfl rfl (Nat.le_of_ble_eq_true rfl) ?_
  unfold mergeM
  by_cases h1 : s.length ≤ 64 ∧ fits.length = s.length
  · obtain ⟨h1, h2⟩ := h1
    repeat' ((conv => whnf); first | with_reducible refine Dec.t (show true = true from rfl) ?_ | with_reducible refine Dec.t (show false = false from rfl) ?_ | with_reducible refine Dec.f (show ¬ (true = false) by decide) ?_ | with_reducible refine Dec.f (show ¬ (false = true) by decide) ?_ | refine Dec.t (by omega) ?_ | refine Dec.f (by omega) ?_ | refine Dec.split (fun _ => ?_) (fun _ => ?_) | refine Wr.id (by omega) ?_ | refine Chk.mk (by first | omega | exact rfl | (simp only [List.length_map]; omega) | (simp [room]; done) | (simp [room]; omega) | (simp [dropL, room]; done) | (simp [dropL, room]; omega)) ?_ | refine Nam.mk (List.length_map _) ?_ | refine Prep.skip ?_ | refine Eith.l ?_ | refine chk_t (x := D.flat _) (by assumption) ?_ | refine br_mk (fun _ => ?_) (fun _ => ?_))
    conv => whnf
    refine ALoop.at (E := envOf Try.prog tt Try.f19.ntmps) (envOf_ok ttok mixed) (X := Nat) (fun i => [(25, .d (I i))]) (fun _ => []) (fun i => i ≤ s.length ∧ ∀ p ∈ (s.zip fits).take i, rowOk fits p.1 p.2) (fun i => s.length - i) 0 (by repeat (first | exact trivial | refine And.intro rfl ?_ | refine And.intro (congrArg (fun n => V.d (I n)) (wrap_nat _ (by omega))) ?_)) rfl ⟨Nat.zero_le _, by simp⟩ ?_
    rintro i ⟨hi, hm⟩
    by_cases hlt : i < s.length
    · obtain ⟨x, hx, _⟩ := drop_get hlt
      obtain ⟨y, hy, _⟩ := drop_get (l := fits) (i := i) (by omega)
      obtain ⟨z, hz, hz2⟩ := drop_get (l := fits) (i := 0) (by omega)
      have hzip : (s.zip fits)[i]? = some (x, y) := by rw [List.getElem?_zip_eq_some]; exact ⟨hx, hy⟩
      have hhead : (fits.headD []).length = z.length := by rw [List.drop_zero] at hz2; rw [hz2]; rfl
      have no : ¬ rowOk fits x y → ¬ mergeOk s fits := fun h hh => h (hh.2.2 _ (List.mem_of_getElem? hzip))
      have yes : rowOk fits x y → ∀ p ∈ (s.zip fits).take (i + 1), rowOk fits p.1 p.2 := fun h p hp => by
        rw [List.take_add_one, hzip, List.mem_append] at hp
        rcases hp with hp | hp
        · exact hm p hp
        · simp at hp; subst hp; exact h
      repeat' ((conv => whnf); first | with_reducible refine Dec.t (show true = true from rfl) ?_ | with_reducible refine Dec.t (show false = false from rfl) ?_ | with_reducible refine Dec.f (show ¬ (true = false) by decide) ?_ | with_reducible refine Dec.f (show ¬ (false = true) by decide) ?_ | refine Dec.t (by omega) ?_ | refine Dec.f (by omega) ?_ | refine Dec.split (fun _ => ?_) (fun _ => ?_) | refine Wr.id (by omega) ?_ | refine Chk.mk (by first | omega | exact rfl | (simp only [List.length_map]; omega) | (simp [room]; done) | (simp [room]; omega) | (simp [dropL, room]; done) | (simp [dropL, room]; omega)) ?_ | refine Nam.mk (List.length_map _) ?_ | refine Prep.skip ?_ | refine Eith.l ?_ | refine chk_t (x := D.flat _) (by assumption) ?_ | refine br_mk (fun _ => ?_) (fun _ => ?_) | refine nthK_mk (map_get hx) ?_ | refine nthK_mk (map_get hy) ?_ | refine nthK_mk (map_get hz) ?_ | refine ACall.ofB (classes_between _ _ _) (fun _ => ?_) (fun _ => ?_))
      all_goals (conv => whnf)
      all_goals try simp only [decide_eq_true_eq, decide_eq_false_iff_not] at *
      all_goals first
        | (have h : rowOk fits x y := ⟨by assumption, by rw [hhead]; omega, by omega⟩
           exact ⟨i + 1, Wm.end (by repeat (first | exact trivial | refine And.intro rfl ?_ | refine And.intro (congrArg (fun n => V.d (I n)) (wrap_nat _ (by omega))) ?_)) rfl rfl rfl, ⟨hlt, yes h⟩, by omega⟩)
        | (have h : ¬ rowOk fits x y := by (rintro ⟨g1, g2, g3⟩; first | contradiction | omega)
           rw [if_neg (no h)]; exact (by repeat (first | exact trivial | exact rfl | exact DLe.refl _ | exact DLe.full _ _ _ | exact DLe.nil _ _ _ | exact VLe.refl _ | refine And.intro ?_ ?_ | refine VLe.d ?_ | refine DLe.agg ?_)))
    · have : i = s.length := by omega
      subst this
      have hok : mergeOk s fits := ⟨h1, h2, fun p hp => hm p (by rw [List.take_of_length_le (by simp; omega)]; exact hp)⟩
      rw [if_pos hok]
      repeat' ((conv => whnf); first | with_reducible refine Dec.t (show true = true from rfl) ?_ | with_reducible refine Dec.t (show false = false from rfl) ?_ | with_reducible refine Dec.f (show ¬ (true = false) by decide) ?_ | with_reducible refine Dec.f (show ¬ (false = true) by decide) ?_ | refine Dec.t (by omega) ?_ | refine Dec.f (by omega) ?_ | refine Dec.split (fun _ => ?_) (fun _ => ?_) | refine Wr.id (by omega) ?_ | refine Chk.mk (by first | omega | exact rfl | (simp only [List.length_map]; omega) | (simp [room]; done) | (simp [room]; omega) | (simp [dropL, room]; done) | (simp [dropL, room]; omega)) ?_ | refine Nam.mk (List.length_map _) ?_ | refine Prep.skip ?_ | refine Eith.l ?_ | refine chk_t (x := D.flat _) (by assumption) ?_ | refine br_mk (fun _ => ?_) (fun _ => ?_))
      conv => whnf
      refine ALoop.virt 4 0 6 false (by decide) rfl ?_
      conv => whnf
      refine ALoop.virt 5 0 1 true (by decide) rfl ?_
      conv => whnf
      refine ALoop.virt 6 0 1 false (by decide) rfl ?_
      conv => whnf
      refine ALoop.at (E := envOf Try.prog tt Try.f19.ntmps) (envOf_ok ttok mixed) (X := MX) (fun x => [(54, .d (I x.i)), (4, .sref 0 x.vx 0 x.lx false), (5, .sref 1 x.vy 0 x.ly false), (6, .sref 2 x.vo 0 x.lo false)])
        (fun x => [(0, .row x.vx 6 false x.dx), (1, .row x.vy 1 true x.dy), (2, .row x.vo 1 false x.dd)]) (MInv s fits) (fun x => s.length - x.i) ⟨0, 0, 0, 0, 0, 0, 0, [], [], []⟩ (by repeat (first | exact trivial | refine And.intro rfl ?_ | refine And.intro (congrArg (fun n => V.d (I n)) (wrap_nat _ (by omega))) ?_)) rfl
        ⟨Nat.zero_le _, ⟨[], [], []⟩, rfl, rfl, rfl, rfl, rfl, rfl, rfl, Nat.zero_le _, rfl, by simp, by simp, rfl⟩ ?_
      rintro ⟨i, vx, vy, vo, lx, ly, lo, dx, dy, dd⟩ ⟨hi2, m, h3, h4, h5, h6, h7, h8, h9, h10, h11, h12, h13, hloop⟩
      simp only at hi2 h3 h4 h5 h6 h7 h8 h10 h11 h12 hloop
      subst h3 h4 h5 h6 h7 h8
      clear hm hlt
      dsimp only
      by_cases hlt : i < s.length
      · obtain ⟨x, hx, hxd⟩ := drop_get hlt
        obtain ⟨y, hy, hyd⟩ := drop_get (l := fits) (i := i) (by omega)
        have hzip : (s.zip fits)[i]? = some (x, y) := by rw [List.getElem?_zip_eq_some]; exact ⟨hx, hy⟩
        have hrow := hok.2.2 _ (List.mem_of_getElem? hzip)
        obtain ⟨⟨ha1, ha2⟩, _, hy64⟩ := hrow
        simp only at ha1 ha2 hy64
        rw [hxd, hyd, mLoop] at hloop
        have hidx := idxM_lt (p := (· = y)) m.ys
        by_cases hneg : idxM (· = y) m.ys < 0
        · rw [mStep, if_pos hneg] at hloop
          repeat' ((conv => whnf); first | with_reducible refine Dec.t (show true = true from rfl) ?_ | with_reducible refine Dec.t (show false = false from rfl) ?_ | with_reducible refine Dec.f (show ¬ (true = false) by decide) ?_ | with_reducible refine Dec.f (show ¬ (false = true) by decide) ?_ | refine Dec.t (by omega) ?_ | refine Dec.f (by omega) ?_ | refine Dec.split (fun _ => ?_) (fun _ => ?_) | refine Wr.id (by omega) ?_ | refine Chk.mk (by first | omega | exact rfl | (simp only [List.length_map]; omega) | (simp [room]; done) | (simp [room]; omega) | (simp [dropL, room]; done) | (simp [dropL, room]; omega)) ?_ | refine Nam.mk (List.length_map _) ?_ | refine Prep.skip ?_ | refine Eith.l ?_ | refine chk_t (x := D.flat _) (by assumption) ?_ | refine br_mk (fun _ => ?_) (fun _ => ?_) | refine nthK_mk (map_get hx) ?_ | refine nthK_mk (map_get hy) ?_ | refine ACall.of (classes_index m.ys y (by omega) (fun r hr => by have := h13 r hr; omega)) ?_ | refine ACall.ofRow (slices_Clone_bool y (by omega)) ?_ | refine Nam.mk (take_all _ _) ?_ | refine Nam.mk (take_all' _) ?_ | refine ACall.lift ?_)
          conv => whnf
          refine ⟨⟨i + 1, vx + 1, vy + 1, vo + 1, m.xs.length + 1, m.ys.length + 1, m.of.length + 1, m.xs.map Supply.d ++ [x.d], m.ys.map rowD ++ [rowD y], m.of.map I ++ [I m.ys.length]⟩, Wm.end (by repeat (first | exact trivial | refine And.intro rfl ?_ | refine And.intro (congrArg (fun n => V.d (I n)) (wrap_nat _ (by omega))) ?_)) rfl rfl rfl, ⟨hlt, ⟨m.xs ++ [x], m.ys ++ [y], m.of ++ [(m.ys.length : Int)]⟩, ?_⟩, ?_⟩
          · refine ⟨by simp, by simp, by simp, by simp, by simp, by simp, by simp [h9], by simp; omega, by simp; omega, ?_, ?_, hloop⟩
            · intro z hz
              rw [List.mem_append] at hz
              rcases hz with hz | hz
              · have := h12 z hz; push_cast; omega
              · simp at hz; subst hz; push_cast; omega
            · intro z hz
              rw [List.mem_append] at hz
              rcases hz with hz | hz
              · exact h13 z hz
              · simp at hz; subst hz; exact hy64
          · simp only; omega
        · rw [mStep, if_neg hneg] at hloop
          obtain ⟨z, hz, _⟩ := drop_get (l := m.xs) (i := 0 + (idxM (· = y) m.ys).toNat) (by omega)
          have hz12 := h12 z (List.mem_of_getElem? hz)
          repeat' ((conv => whnf); first | with_reducible refine Dec.t (show true = true from rfl) ?_ | with_reducible refine Dec.t (show false = false from rfl) ?_ | with_reducible refine Dec.f (show ¬ (true = false) by decide) ?_ | with_reducible refine Dec.f (show ¬ (false = true) by decide) ?_ | refine Dec.t (by omega) ?_ | refine Dec.f (by omega) ?_ | refine Dec.split (fun _ => ?_) (fun _ => ?_) | refine Wr.id (by omega) ?_ | refine Chk.mk (by first | omega | exact rfl | (simp only [List.length_map]; omega) | (simp [room]; done) | (simp [room]; omega) | (simp [dropL, room]; done) | (simp [dropL, room]; omega)) ?_ | refine Nam.mk (List.length_map _) ?_ | refine Prep.skip ?_ | refine Eith.l ?_ | refine chk_t (x := D.flat _) (by assumption) ?_ | refine br_mk (fun _ => ?_) (fun _ => ?_) | refine nthK_mk (map_get hx) ?_ | refine nthK_mk (map_get hy) ?_ | refine nthK_mk (map_get hz) ?_ | refine ACall.of (classes_index m.ys y (by omega) (fun r hr => by have := h13 r hr; omega)) ?_ | refine Nam.mk (take_all _ _) ?_ | refine Nam.mk (take_all' _) ?_ | refine ACall.lift ?_ | refine setK_map (y := addAmount x.amount z) hz rfl ?_)
          all_goals (conv => whnf)
          rw [modify_set hz] at hloop
          refine ⟨⟨i + 1, vx, vy, vo + 1, m.xs.length, m.ys.length, m.of.length + 1, (m.xs.set (0 + (idxM (· = y) m.ys).toNat) (addAmount x.amount z)).map Supply.d, m.ys.map rowD, m.of.map I ++ [I (idxM (· = y) m.ys)]⟩, Wm.end (by repeat (first | exact trivial | refine And.intro rfl ?_ | refine And.intro (congrArg (fun n => V.d (I n)) (wrap_nat _ (by omega))) ?_)) rfl rfl rfl, ⟨hlt, ⟨m.xs.set (0 + (idxM (· = y) m.ys).toNat) (addAmount x.amount z), m.ys, m.of ++ [idxM (· = y) m.ys]⟩, ?_⟩, ?_⟩
          · refine ⟨rfl, rfl, by simp, by simp, rfl, by simp, by simp [h9], by simp only; omega, by simp; omega, ?_, h13, hloop⟩
            intro q hq
            rcases List.mem_or_eq_of_mem_set hq with hq | hq
            · have := h12 q hq; push_cast; omega
            · subst hq; simp only [addAmount]; push_cast; omega
          · simp only; omega
      · have : i = s.length := by omega
        subst this
        rw [List.drop_length, mLoop.eq_2 _ _ _ (by simp)] at hloop
        repeat' ((conv => whnf); first | with_reducible refine Dec.t (show true = true from rfl) ?_ | with_reducible refine Dec.t (show false = false from rfl) ?_ | with_reducible refine Dec.f (show ¬ (true = false) by decide) ?_ | with_reducible refine Dec.f (show ¬ (false = true) by decide) ?_ | refine Dec.t (by omega) ?_ | refine Dec.f (by omega) ?_ | refine Dec.split (fun _ => ?_) (fun _ => ?_) | refine Wr.id (by omega) ?_ | refine Chk.mk (by first | omega | exact rfl | (simp only [List.length_map]; omega) | (simp [room]; done) | (simp [room]; omega) | (simp [dropL, room]; done) | (simp [dropL, room]; omega)) ?_ | refine Nam.mk (List.length_map _) ?_ | refine Prep.skip ?_ | refine Eith.l ?_ | refine chk_t (x := D.flat _) (by assumption) ?_ | refine br_mk (fun _ => ?_) (fun _ => ?_) | refine Nam.mk (take_all _ _) ?_ | refine Nam.mk (take_all' _) ?_)
        all_goals (conv => whnf)
        rw [← hloop]
        exact (by repeat (first | exact trivial | exact rfl | exact DLe.refl _ | exact DLe.full _ _ _ | exact DLe.nil _ _ _ | exact VLe.refl _ | refine And.intro ?_ ?_ | refine VLe.d ?_ | refine DLe.agg ?_))
  · repeat' ((conv => whnf); first | with_reducible refine Dec.t (show true = true from rfl) ?_ | with_reducible refine Dec.t (show false = false from rfl) ?_ | with_reducible refine Dec.f (show ¬ (true = false) by decide) ?_ | with_reducible refine Dec.f (show ¬ (false = true) by decide) ?_ | refine Dec.t (by omega) ?_ | refine Dec.f (by omega) ?_ | refine Dec.split (fun _ => ?_) (fun _ => ?_) | refine Wr.id (by omega) ?_ | refine Chk.mk (by first | omega | exact rfl | (simp only [List.length_map]; omega) | (simp [room]; done) | (simp [room]; omega) | (simp [dropL, room]; done) | (simp [dropL, room]; omega)) ?_ | refine Nam.mk (List.length_map _) ?_ | refine Prep.skip ?_ | refine Eith.l ?_ | refine chk_t (x := D.flat _) (by assumption) ?_ | refine br_mk (fun _ => ?_) (fun _ => ?_))
    all_goals (conv => whnf)
    all_goals (rw [if_neg (fun h => h1 ⟨h.1, h.2.1⟩)]; exact (by repeat (first | exact trivial | exact rfl | exact DLe.refl _ | exact DLe.full _ _ _ | exact DLe.nil _ _ _ | exact VLe.refl _ | refine And.intro ?_ ?_ | refine VLe.d ?_ | refine DLe.agg ?_)))
end Go.PM

