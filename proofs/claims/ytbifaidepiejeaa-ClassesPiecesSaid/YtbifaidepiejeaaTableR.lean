/- The reference's Table. -/
import Derived.Test.YtbifaidepiejeaaMergeR
namespace Go.PM
open Go.Proofs
set_option maxRecDepth 10000
set_option maxHeartbeats 1000000

def addRead (l : List Read) (z : Read) : List Read := if z ∈ l then l else l ++ [z]
def rowReads (w : AWorld) (x : Supply) (r : List Request) (known : Int) (l : List Read) : List Read := r.foldl (fun l y => (fitsM w x y known).2.foldl addRead l) l
def allReads (w : AWorld) (s : List Supply) (r : List Request) (known : Int) (l : List Read) : List Read := s.foldl (fun l x => rowReads w x r known l) l
def rowM (w : AWorld) (x : Supply) (r : List Request) (known : Int) : List Bool := r.map fun y => (fitsM w x y known).1
def tableOk (s : List Supply) (r : List Request) : Prop := (s.length ≤ 64 ∧ r.length ≤ 64) ∧ (∀ x ∈ s, x.ok) ∧ ∀ y ∈ r, y.ok
instance (s : List Supply) (r : List Request) : Decidable (tableOk s r) := by unfold tableOk; infer_instance
structure TM where
  fits : List (List Bool)
  reads : List Read
  e : Int
def tableM (w : AWorld) (s : List Supply) (r : List Request) (known : Int) : TM := if tableOk s r then ⟨s.map fun x => rowM w x r known, allReads w s r known [], 0⟩ else ⟨[], [], 290⟩
def TM.d (m : TM) : V := retD [SL 1 (m.fits.map rowD), SL 5 (m.reads.map Read.d), I m.e]

structure X3 where
  i : Nat
  vf : Nat
  lf : Nat
  df : List D
  vr : Nat
  lr : Nat
  dr : List D
structure X5 where
  n : Nat
  vr : Nat
  lr : Nat
  dr : List D
theorem fitsM_few (w : AWorld) (x : Supply) (y : Request) (known : Int) : (fitsM w x y known).2.length ≤ 1 := by
  unfold fitsM; split <;> simp
theorem take_map {α β : Type} {f : α → β} {l : List α} {i : Nat} {x : α} (h : l[i]? = some x) : (l.take (i + 1)).map f = (l.take i).map f ++ [f x] := by rw [List.take_add_one, h]; simp

theorem ref29_Table (w : AWorld) (s : List Supply) (r : List Request) (known : Int) (hs : s.length < 2 ^ 40) (hr : r.length < 2 ^ 40) (hw : w.swaps.length < 2 ^ 40) (hf : w.facts.length < 2 ^ 40) : CallP Try.prog 13 [.d w.d, .d (SL 6 (s.map Supply.d)), .d (SL 6 (r.map Request.d)), .d (I known)] (tableM w s r known).d := by
  refine exPure_sound (E := envOf Try.prog tt Try.f13.ntmps) (envOf_ok ttok mixed) Try.func13 (by rfl) rfl rfl (Nat.le_of_ble_eq_true rfl) ?_
  unfold tableM
  by_cases h1 : s.length ≤ 64 ∧ r.length ≤ 64
  · obtain ⟨h1, h2⟩ := h1
    repeat' ((conv => whnf); first | with_reducible refine Dec.t (show true = true from rfl) ?_ | with_reducible refine Dec.t (show false = false from rfl) ?_ | with_reducible refine Dec.f (show ¬ (true = false) by decide) ?_ | with_reducible refine Dec.f (show ¬ (false = true) by decide) ?_ | refine Dec.t (by omega) ?_ | refine Dec.f (by omega) ?_ | refine Dec.split (fun _ => ?_) (fun _ => ?_) | refine Wr.id (by omega) ?_ | refine Chk.mk (by first | omega | exact rfl | (simp only [List.length_map]; omega) | (simp [room]; done) | (simp [room]; omega) | (simp [dropL, room]; done) | (simp [dropL, room]; omega)) ?_ | refine Nam.mk (List.length_map _) ?_ | refine Prep.skip ?_ | refine Eith.l ?_ | refine chk_t (x := D.flat _) (by assumption) ?_ | refine br_mk (fun _ => ?_) (fun _ => ?_))
    conv => whnf
    refine ALoop.at (E := envOf Try.prog tt Try.f13.ntmps) (envOf_ok ttok mixed) (X := Nat) (fun i => [(11, .d (I i))]) (fun _ => []) (fun i => i ≤ s.length ∧ ∀ x ∈ s.take i, x.ok) (fun i => s.length - i) 0 (by repeat (first | exact trivial | refine And.intro rfl ?_ | refine And.intro (congrArg (fun n => V.d (I n)) (wrap_nat _ (by omega))) ?_)) rfl ⟨Nat.zero_le _, by simp⟩ ?_
    rintro i ⟨hi, hm⟩
    by_cases hlt : i < s.length
    · obtain ⟨x, hx, _⟩ := drop_get hlt
      by_cases hok : x.ok
      · repeat' ((conv => whnf); first | with_reducible refine Dec.t (show true = true from rfl) ?_ | with_reducible refine Dec.t (show false = false from rfl) ?_ | with_reducible refine Dec.f (show ¬ (true = false) by decide) ?_ | with_reducible refine Dec.f (show ¬ (false = true) by decide) ?_ | refine Dec.t (by omega) ?_ | refine Dec.f (by omega) ?_ | refine Dec.split (fun _ => ?_) (fun _ => ?_) | refine Wr.id (by omega) ?_ | refine Chk.mk (by first | omega | exact rfl | (simp only [List.length_map]; omega) | (simp [room]; done) | (simp [room]; omega) | (simp [dropL, room]; done) | (simp [dropL, room]; omega)) ?_ | refine Nam.mk (List.length_map _) ?_ | refine Prep.skip ?_ | refine Eith.l ?_ | refine chk_t (x := D.flat _) (by assumption) ?_ | refine br_mk (fun _ => ?_) (fun _ => ?_) | refine nthK_mk (map_get hx) ?_ | refine ACall.ofB (ref29_Supply _) (fun _ => ?_) (fun h => absurd hok (of_decide_eq_false h)))
        conv => whnf
        refine ⟨i + 1, Wm.end (by repeat (first | exact trivial | refine And.intro rfl ?_ | refine And.intro (congrArg (fun n => V.d (I n)) (wrap_nat _ (by omega))) ?_)) rfl rfl rfl, ⟨hlt, fun z hz => ?_⟩, by omega⟩
        rw [List.take_add_one, hx, List.mem_append] at hz
        rcases hz with hz | hz
        · exact hm z hz
        · simp at hz; subst hz; exact hok
      · rw [if_neg (fun h => hok (h.2.1 x (List.mem_of_getElem? hx)))]
        repeat' ((conv => whnf); first | with_reducible refine Dec.t (show true = true from rfl) ?_ | with_reducible refine Dec.t (show false = false from rfl) ?_ | with_reducible refine Dec.f (show ¬ (true = false) by decide) ?_ | with_reducible refine Dec.f (show ¬ (false = true) by decide) ?_ | refine Dec.t (by omega) ?_ | refine Dec.f (by omega) ?_ | refine Dec.split (fun _ => ?_) (fun _ => ?_) | refine Wr.id (by omega) ?_ | refine Chk.mk (by first | omega | exact rfl | (simp only [List.length_map]; omega) | (simp [room]; done) | (simp [room]; omega) | (simp [dropL, room]; done) | (simp [dropL, room]; omega)) ?_ | refine Nam.mk (List.length_map _) ?_ | refine Prep.skip ?_ | refine Eith.l ?_ | refine chk_t (x := D.flat _) (by assumption) ?_ | refine br_mk (fun _ => ?_) (fun _ => ?_) | refine nthK_mk (map_get hx) ?_ | refine ACall.ofB (ref29_Supply _) (fun h => absurd (of_decide_eq_true h) hok) (fun _ => ?_))
        conv => whnf
        exact (by repeat (first | exact trivial | exact rfl | exact DLe.refl _ | exact DLe.full _ _ _ | exact DLe.nil _ _ _ | exact VLe.refl _ | refine And.intro ?_ ?_ | refine VLe.d ?_ | refine DLe.agg ?_))
    · have : i = s.length := by omega
      subst this
      have hsok : ∀ x ∈ s, x.ok := by rw [List.take_length] at hm; exact hm
      clear hm hlt hi
      repeat' ((conv => whnf); first | with_reducible refine Dec.t (show true = true from rfl) ?_ | with_reducible refine Dec.t (show false = false from rfl) ?_ | with_reducible refine Dec.f (show ¬ (true = false) by decide) ?_ | with_reducible refine Dec.f (show ¬ (false = true) by decide) ?_ | refine Dec.t (by omega) ?_ | refine Dec.f (by omega) ?_ | refine Dec.split (fun _ => ?_) (fun _ => ?_) | refine Wr.id (by omega) ?_ | refine Chk.mk (by first | omega | exact rfl | (simp only [List.length_map]; omega) | (simp [room]; done) | (simp [room]; omega) | (simp [dropL, room]; done) | (simp [dropL, room]; omega)) ?_ | refine Nam.mk (List.length_map _) ?_ | refine Prep.skip ?_ | refine Eith.l ?_ | refine chk_t (x := D.flat _) (by assumption) ?_ | refine br_mk (fun _ => ?_) (fun _ => ?_))
      conv => whnf
      refine ALoop.at (E := envOf Try.prog tt Try.f13.ntmps) (envOf_ok ttok mixed) (X := Nat) (fun i => [(12, .d (I i))]) (fun _ => []) (fun i => i ≤ r.length ∧ ∀ x ∈ r.take i, x.ok) (fun i => r.length - i) 0 (by repeat (first | exact trivial | refine And.intro rfl ?_ | refine And.intro (congrArg (fun n => V.d (I n)) (wrap_nat _ (by omega))) ?_)) rfl ⟨Nat.zero_le _, by simp⟩ ?_
      rintro i ⟨hi, hm⟩
      by_cases hlt : i < r.length
      · obtain ⟨x, hx, _⟩ := drop_get hlt
        by_cases hok : x.ok
        · repeat' ((conv => whnf); first | with_reducible refine Dec.t (show true = true from rfl) ?_ | with_reducible refine Dec.t (show false = false from rfl) ?_ | with_reducible refine Dec.f (show ¬ (true = false) by decide) ?_ | with_reducible refine Dec.f (show ¬ (false = true) by decide) ?_ | refine Dec.t (by omega) ?_ | refine Dec.f (by omega) ?_ | refine Dec.split (fun _ => ?_) (fun _ => ?_) | refine Wr.id (by omega) ?_ | refine Chk.mk (by first | omega | exact rfl | (simp only [List.length_map]; omega) | (simp [room]; done) | (simp [room]; omega) | (simp [dropL, room]; done) | (simp [dropL, room]; omega)) ?_ | refine Nam.mk (List.length_map _) ?_ | refine Prep.skip ?_ | refine Eith.l ?_ | refine chk_t (x := D.flat _) (by assumption) ?_ | refine br_mk (fun _ => ?_) (fun _ => ?_) | refine nthK_mk (map_get hx) ?_ | refine ACall.ofB (ref29_Request _) (fun _ => ?_) (fun h => absurd hok (of_decide_eq_false h)))
          conv => whnf
          refine ⟨i + 1, Wm.end (by repeat (first | exact trivial | refine And.intro rfl ?_ | refine And.intro (congrArg (fun n => V.d (I n)) (wrap_nat _ (by omega))) ?_)) rfl rfl rfl, ⟨hlt, fun z hz => ?_⟩, by omega⟩
          rw [List.take_add_one, hx, List.mem_append] at hz
          rcases hz with hz | hz
          · exact hm z hz
          · simp at hz; subst hz; exact hok
        · rw [if_neg (fun h => hok (h.2.2 x (List.mem_of_getElem? hx)))]
          repeat' ((conv => whnf); first | with_reducible refine Dec.t (show true = true from rfl) ?_ | with_reducible refine Dec.t (show false = false from rfl) ?_ | with_reducible refine Dec.f (show ¬ (true = false) by decide) ?_ | with_reducible refine Dec.f (show ¬ (false = true) by decide) ?_ | refine Dec.t (by omega) ?_ | refine Dec.f (by omega) ?_ | refine Dec.split (fun _ => ?_) (fun _ => ?_) | refine Wr.id (by omega) ?_ | refine Chk.mk (by first | omega | exact rfl | (simp only [List.length_map]; omega) | (simp [room]; done) | (simp [room]; omega) | (simp [dropL, room]; done) | (simp [dropL, room]; omega)) ?_ | refine Nam.mk (List.length_map _) ?_ | refine Prep.skip ?_ | refine Eith.l ?_ | refine chk_t (x := D.flat _) (by assumption) ?_ | refine br_mk (fun _ => ?_) (fun _ => ?_) | refine nthK_mk (map_get hx) ?_ | refine ACall.ofB (ref29_Request _) (fun h => absurd (of_decide_eq_true h) hok) (fun _ => ?_))
          conv => whnf
          exact (by repeat (first | exact trivial | exact rfl | exact DLe.refl _ | exact DLe.full _ _ _ | exact DLe.nil _ _ _ | exact VLe.refl _ | refine And.intro ?_ ?_ | refine VLe.d ?_ | refine DLe.agg ?_))
      · have : i = r.length := by omega
        subst this
        have hrok : ∀ x ∈ r, x.ok := by rw [List.take_length] at hm; exact hm
        clear hm hlt hi
        rw [if_pos ⟨⟨h1, h2⟩, hsok, hrok⟩]
        repeat' ((conv => whnf); first | with_reducible refine Dec.t (show true = true from rfl) ?_ | with_reducible refine Dec.t (show false = false from rfl) ?_ | with_reducible refine Dec.f (show ¬ (true = false) by decide) ?_ | with_reducible refine Dec.f (show ¬ (false = true) by decide) ?_ | refine Dec.t (by omega) ?_ | refine Dec.f (by omega) ?_ | refine Dec.split (fun _ => ?_) (fun _ => ?_) | refine Wr.id (by omega) ?_ | refine Chk.mk (by first | omega | exact rfl | (simp only [List.length_map]; omega) | (simp [room]; done) | (simp [room]; omega) | (simp [dropL, room]; done) | (simp [dropL, room]; omega)) ?_ | refine Nam.mk (List.length_map _) ?_ | refine Prep.skip ?_ | refine Eith.l ?_ | refine chk_t (x := D.flat _) (by assumption) ?_ | refine br_mk (fun _ => ?_) (fun _ => ?_))
        conv => whnf
        refine ALoop.virt 13 1 1 true (by decide) rfl ?_
        conv => whnf
        refine ALoop.virt 14 5 5 true (by decide) rfl ?_
        conv => whnf
        refine ALoop.at (E := envOf Try.prog tt Try.f13.ntmps) (envOf_ok ttok mixed) (X := X3) (fun x => [(15, .d (I x.i)), (13, .sref 1 x.vf 0 x.lf false), (14, .sref 2 x.vr 0 x.lr false)]) (fun x => [(1, .row x.vf 1 true x.df), (2, .row x.vr 5 true x.dr)])
          (fun x => x.i ≤ s.length ∧ ∃ rs, x.df = ((s.take x.i).map fun x => rowM w x r known).map rowD ∧ x.i = x.lf ∧ x.dr = rs.map Read.d ∧ x.lr = rs.length ∧ rs.length ≤ x.i * 64 ∧ allReads w (s.drop x.i) r known rs = allReads w s r known [])
          (fun x => s.length - x.i) ⟨0, 0, 0, [], 0, 0, []⟩ (by repeat (first | exact trivial | refine And.intro rfl ?_ | refine And.intro (congrArg (fun n => V.d (I n)) (wrap_nat _ (by omega))) ?_)) rfl ⟨Nat.zero_le _, [], rfl, rfl, rfl, rfl, by simp, rfl⟩ ?_
        rintro ⟨i, vf, lf, df, vr, lr, dr⟩ ⟨hi, rs, h3, h4, h5, h6, h7, hm⟩
        simp only at hi h3 h4 h5 h6 h7 hm
        subst h3 h4 h5 h6
        dsimp only
        by_cases hlt : i < s.length
        · obtain ⟨x, hx, hxd⟩ := drop_get hlt
          rw [hxd, allReads, List.foldl_cons, ← allReads] at hm
          repeat' ((conv => whnf); first | with_reducible refine Dec.t (show true = true from rfl) ?_ | with_reducible refine Dec.t (show false = false from rfl) ?_ | with_reducible refine Dec.f (show ¬ (true = false) by decide) ?_ | with_reducible refine Dec.f (show ¬ (false = true) by decide) ?_ | refine Dec.t (by omega) ?_ | refine Dec.f (by omega) ?_ | refine Dec.split (fun _ => ?_) (fun _ => ?_) | refine Wr.id (by omega) ?_ | refine Chk.mk (by first | omega | exact rfl | (simp only [List.length_map]; omega) | (simp [room]; done) | (simp [room]; omega) | (simp [dropL, room]; done) | (simp [dropL, room]; omega)) ?_ | refine Nam.mk (List.length_map _) ?_ | refine Prep.skip ?_ | refine Eith.l ?_ | refine chk_t (x := D.flat _) (by assumption) ?_ | refine br_mk (fun _ => ?_) (fun _ => ?_))
          conv => whnf
          refine ALoop.virt 16 1 1 false (by decide) rfl ?_
          conv => whnf
          refine ALoop.at (E := envOf Try.prog tt Try.f13.ntmps) (envOf_ok ttok mixed) (X := X3) (fun x => [(17, .d (I x.i)), (16, .sref 3 x.vf 0 x.lf false), (14, .sref 2 x.vr 0 x.lr false)]) (fun x => [(3, .row x.vf 1 false x.df), (2, .row x.vr 5 true x.dr)])
            (fun z => z.i ≤ r.length ∧ ∃ qs, z.df = ((r.take z.i).map fun y => (fitsM w x y known).1).map B ∧ z.i = z.lf ∧ z.dr = qs.map Read.d ∧ z.lr = qs.length ∧ qs.length ≤ i * 64 + z.i ∧ rowReads w x (r.drop z.i) known qs = rowReads w x r known rs)
            (fun x => r.length - x.i) ⟨0, 0, 0, [], vr, rs.length, rs.map Read.d⟩ (by repeat (first | exact trivial | refine And.intro rfl ?_ | refine And.intro (congrArg (fun n => V.d (I n)) (wrap_nat _ (by omega))) ?_)) rfl ⟨Nat.zero_le _, rs, rfl, rfl, rfl, rfl, by simp only; omega, rfl⟩ ?_
          rintro ⟨k, vw, lw, dw, vr2, lr, dr⟩ ⟨hk, qs, g3, g4, g5, g6, g7, gm⟩
          simp only at hk g3 g4 g5 g6 g7 gm
          subst g3 g4 g5 g6
          dsimp only
          by_cases hkl : k < r.length
          · obtain ⟨y, hy, hyd⟩ := drop_get hkl
            rw [hyd, rowReads, List.foldl_cons, ← rowReads] at gm
            repeat' ((conv => whnf); first | with_reducible refine Dec.t (show true = true from rfl) ?_ | with_reducible refine Dec.t (show false = false from rfl) ?_ | with_reducible refine Dec.f (show ¬ (true = false) by decide) ?_ | with_reducible refine Dec.f (show ¬ (false = true) by decide) ?_ | refine Dec.t (by omega) ?_ | refine Dec.f (by omega) ?_ | refine Dec.split (fun _ => ?_) (fun _ => ?_) | refine Wr.id (by omega) ?_ | refine Chk.mk (by first | omega | exact rfl | (simp only [List.length_map]; omega) | (simp [room]; done) | (simp [room]; omega) | (simp [dropL, room]; done) | (simp [dropL, room]; omega)) ?_ | refine Nam.mk (List.length_map _) ?_ | refine Prep.skip ?_ | refine Eith.l ?_ | refine chk_t (x := D.flat _) (by assumption) ?_ | refine br_mk (fun _ => ?_) (fun _ => ?_) | refine nthK_mk (map_get hx) ?_ | refine nthK_mk (map_get hy) ?_ | refine APCall.of (ref29_Fits w x y known hw hf) ?_)
            conv => whnf
            have hlen := fitsM_few w x y known
            refine ALoop.at (E := envOf Try.prog tt Try.f13.ntmps) (envOf_ok ttok mixed) (X := X5) (fun x => [(20, .d (I x.n)), (14, .sref 2 x.vr 0 x.lr false), (16, .sref 3 (vw + 1) 0 (k + 1) false)]) (fun x => [(2, .row x.vr 5 true x.dr)])
              (fun z => z.n ≤ (fitsM w x y known).2.length ∧ ∃ q2, z.dr = q2.map Read.d ∧ z.lr = q2.length ∧ q2.length ≤ i * 64 + k + z.n ∧ ((fitsM w x y known).2.drop z.n).foldl addRead q2 = (fitsM w x y known).2.foldl addRead qs)
              (fun x => 1 - x.n) ⟨0, vr2, qs.length, qs.map Read.d⟩ (by repeat (first | exact trivial | refine And.intro rfl ?_ | refine And.intro (congrArg (fun n => V.d (I n)) (wrap_nat _ (by omega))) ?_)) rfl ⟨Nat.zero_le _, qs, rfl, rfl, g7, rfl⟩ ?_
            rintro ⟨n, vr3, lr, dr⟩ ⟨hn, q2, e3, e4, e5, em⟩
            simp only at hn e3 e4 e5 em
            subst e3 e4
            dsimp only
            by_cases hnl : n < (fitsM w x y known).2.length
            · obtain ⟨z, hz, hzd⟩ := drop_get hnl
              rw [hzd, List.foldl_cons] at em
              repeat' ((conv => whnf); first | with_reducible refine Dec.t (show true = true from rfl) ?_ | with_reducible refine Dec.t (show false = false from rfl) ?_ | with_reducible refine Dec.f (show ¬ (true = false) by decide) ?_ | with_reducible refine Dec.f (show ¬ (false = true) by decide) ?_ | refine Dec.t (by omega) ?_ | refine Dec.f (by omega) ?_ | refine Dec.split (fun _ => ?_) (fun _ => ?_) | refine Wr.id (by omega) ?_ | refine Chk.mk (by first | omega | exact rfl | (simp only [List.length_map]; omega) | (simp [room]; done) | (simp [room]; omega) | (simp [dropL, room]; done) | (simp [dropL, room]; omega)) ?_ | refine Nam.mk (List.length_map _) ?_ | refine Prep.skip ?_ | refine Eith.l ?_ | refine chk_t (x := D.flat _) (by assumption) ?_ | refine br_mk (fun _ => ?_) (fun _ => ?_) | refine nthK_mk (map_get hz) ?_ | refine Nam.mk (take_all _ _) ?_ | refine Nam.mk (take_all' _) ?_ | refine ACall.ofB (ref29_has q2 z (by omega)) (fun _ => ?_) (fun _ => ?_) | refine ACall.lift ?_)
              all_goals (conv => whnf)
              all_goals try simp only [decide_eq_true_eq, decide_eq_false_iff_not] at *
              · rename_i hin
                rw [addRead, if_pos hin] at em
                exact ⟨⟨n + 1, vr3, q2.length, q2.map Read.d⟩, Wm.end (by repeat (first | exact trivial | refine And.intro rfl ?_ | refine And.intro (congrArg (fun n => V.d (I n)) (wrap_nat _ (by omega))) ?_)) rfl rfl rfl, ⟨hnl, q2, rfl, rfl, by simp only; omega, em⟩, by simp only; omega⟩
              · rename_i hin
                rw [addRead, if_neg hin] at em
                exact ⟨⟨n + 1, vr3 + 1, q2.length + 1, q2.map Read.d ++ [z.d]⟩, Wm.end (by repeat (first | exact trivial | refine And.intro rfl ?_ | refine And.intro (congrArg (fun n => V.d (I n)) (wrap_nat _ (by omega))) ?_)) rfl rfl rfl, ⟨hnl, q2 ++ [z], by simp, by simp, by simp; omega, em⟩, by simp only; omega⟩
            · have : n = (fitsM w x y known).2.length := by omega
              subst this
              rw [List.drop_length, List.foldl_nil] at em
              rw [← em] at gm
              repeat' ((conv => whnf); first | with_reducible refine Dec.t (show true = true from rfl) ?_ | with_reducible refine Dec.t (show false = false from rfl) ?_ | with_reducible refine Dec.f (show ¬ (true = false) by decide) ?_ | with_reducible refine Dec.f (show ¬ (false = true) by decide) ?_ | refine Dec.t (by omega) ?_ | refine Dec.f (by omega) ?_ | refine Dec.split (fun _ => ?_) (fun _ => ?_) | refine Wr.id (by omega) ?_ | refine Chk.mk (by first | omega | exact rfl | (simp only [List.length_map]; omega) | (simp [room]; done) | (simp [room]; omega) | (simp [dropL, room]; done) | (simp [dropL, room]; omega)) ?_ | refine Nam.mk (List.length_map _) ?_ | refine Prep.skip ?_ | refine Eith.l ?_ | refine chk_t (x := D.flat _) (by assumption) ?_ | refine br_mk (fun _ => ?_) (fun _ => ?_))
              conv => whnf
              exact ⟨⟨k + 1, vw + 1, k + 1, ((r.take k).map fun y => (fitsM w x y known).1).map B ++ [B (fitsM w x y known).1], vr3, q2.length, q2.map Read.d⟩, Wm.end (by repeat (first | exact trivial | refine And.intro rfl ?_ | refine And.intro (congrArg (fun n => V.d (I n)) (wrap_nat _ (by omega))) ?_)) rfl rfl rfl, ⟨hkl, q2, by simp only; rw [take_map hy, List.map_append]; rfl, rfl, rfl, rfl, by simp only; omega, gm⟩, by simp only; omega⟩
          · have : k = r.length := by omega
            subst this
            rw [List.drop_length, rowReads, List.foldl_nil] at gm
            rw [← gm] at hm
            repeat' ((conv => whnf); first | with_reducible refine Dec.t (show true = true from rfl) ?_ | with_reducible refine Dec.t (show false = false from rfl) ?_ | with_reducible refine Dec.f (show ¬ (true = false) by decide) ?_ | with_reducible refine Dec.f (show ¬ (false = true) by decide) ?_ | refine Dec.t (by omega) ?_ | refine Dec.f (by omega) ?_ | refine Dec.split (fun _ => ?_) (fun _ => ?_) | refine Wr.id (by omega) ?_ | refine Chk.mk (by first | omega | exact rfl | (simp only [List.length_map]; omega) | (simp [room]; done) | (simp [room]; omega) | (simp [dropL, room]; done) | (simp [dropL, room]; omega)) ?_ | refine Nam.mk (List.length_map _) ?_ | refine Prep.skip ?_ | refine Eith.l ?_ | refine chk_t (x := D.flat _) (by assumption) ?_ | refine br_mk (fun _ => ?_) (fun _ => ?_) | refine Nam.mk (y := (rowM w x r known).map B) (by rw [List.take_length, List.drop_zero]; exact List.take_of_length_le (by simp)) ?_)
            conv => whnf
            exact ⟨⟨i + 1, vf + 1, i + 1, ((s.take i).map fun x => rowM w x r known).map rowD ++ [rowD (rowM w x r known)], vr2, qs.length, qs.map Read.d⟩, Wm.end (by repeat (first | exact trivial | refine And.intro rfl ?_ | refine And.intro (congrArg (fun n => V.d (I n)) (wrap_nat _ (by omega))) ?_)) rfl rfl rfl, ⟨hlt, qs, by simp only; rw [take_map hx, List.map_append]; rfl, rfl, rfl, rfl, by simp only; omega, hm⟩, by simp only; omega⟩
        · have : i = s.length := by omega
          subst this
          rw [List.drop_length, allReads, List.foldl_nil] at hm
          repeat' ((conv => whnf); first | with_reducible refine Dec.t (show true = true from rfl) ?_ | with_reducible refine Dec.t (show false = false from rfl) ?_ | with_reducible refine Dec.f (show ¬ (true = false) by decide) ?_ | with_reducible refine Dec.f (show ¬ (false = true) by decide) ?_ | refine Dec.t (by omega) ?_ | refine Dec.f (by omega) ?_ | refine Dec.split (fun _ => ?_) (fun _ => ?_) | refine Wr.id (by omega) ?_ | refine Chk.mk (by first | omega | exact rfl | (simp only [List.length_map]; omega) | (simp [room]; done) | (simp [room]; omega) | (simp [dropL, room]; done) | (simp [dropL, room]; omega)) ?_ | refine Nam.mk (List.length_map _) ?_ | refine Prep.skip ?_ | refine Eith.l ?_ | refine chk_t (x := D.flat _) (by assumption) ?_ | refine br_mk (fun _ => ?_) (fun _ => ?_) | refine Nam.mk (y := (s.map fun x => rowM w x r known).map rowD) (by rw [List.take_length, List.drop_zero]; exact List.take_of_length_le (by simp)) ?_ | refine Nam.mk (take_all _ _) ?_)
          conv => whnf
          rw [← hm]
          exact (by repeat (first | exact trivial | exact rfl | exact DLe.refl _ | exact DLe.full _ _ _ | exact DLe.nil _ _ _ | exact VLe.refl _ | refine And.intro ?_ ?_ | refine VLe.d ?_ | refine DLe.agg ?_))
  · repeat' ((conv => whnf); first | with_reducible refine Dec.t (show true = true from rfl) ?_ | with_reducible refine Dec.t (show false = false from rfl) ?_ | with_reducible refine Dec.f (show ¬ (true = false) by decide) ?_ | with_reducible refine Dec.f (show ¬ (false = true) by decide) ?_ | refine Dec.t (by omega) ?_ | refine Dec.f (by omega) ?_ | refine Dec.split (fun _ => ?_) (fun _ => ?_) | refine Wr.id (by omega) ?_ | refine Chk.mk (by first | omega | exact rfl | (simp only [List.length_map]; omega) | (simp [room]; done) | (simp [room]; omega) | (simp [dropL, room]; done) | (simp [dropL, room]; omega)) ?_ | refine Nam.mk (List.length_map _) ?_ | refine Prep.skip ?_ | refine Eith.l ?_ | refine chk_t (x := D.flat _) (by assumption) ?_ | refine br_mk (fun _ => ?_) (fun _ => ?_))
    all_goals (conv => whnf)
    all_goals (rw [if_neg (fun h => h1 h.1)]; exact (by repeat (first | exact trivial | exact rfl | exact DLe.refl _ | exact DLe.full _ _ _ | exact DLe.nil _ _ _ | exact VLe.refl _ | refine And.intro ?_ ?_ | refine VLe.d ?_ | refine DLe.agg ?_)))
end Go.PM

