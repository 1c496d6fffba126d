/- ClassesPieces, its walk. -/
import Derived.Test.YtbifaidepiejeaaP29
namespace Go.PM
open Go.Proofs
set_option maxRecDepth 10000
set_option maxHeartbeats 4000000

structure XB where
  r : Nat
  l : Int
  g : List Int
  t : List Int
structure XO where
  i : Nat
  G : List (List Int)
  t : List Int
theorem law29_PiecesOk (s : List Supply) (fits : List (List Bool)) (want : List Int) (hs : s.length ≤ 12) (hp : 0 < s.length) (h1 : ∀ r ∈ fits, r.length ≤ 12) (h2 : fits.length ≤ 12) (hw : want.length ≤ 144) (hwb : ∀ v ∈ want, 0 ≤ v ∧ v ≤ 255) (hok : mergeOk s fits)
    (xs : List Supply) (ys : List (List Bool)) (of : List Int) (hm : mergeM s fits = (⟨xs, ys, of⟩, 0)) :
    CallP Try.prog 8 [.d (SL 6 (s.map Supply.d)), .d (SL 1 (fits.map rowD)), .d (wD want)] (retD [.b true]) := by
  have hM := classes_Merge s fits (by omega) (by omega) (fun r hr => by have := h1 r hr; omega)
  have g := merge_good s fits hok
  have hln := mergeM_len s fits
  rw [hm] at hM g hln
  simp only [mergeD] at hM
  have hfl := hok.2.1
  obtain ⟨f0, hf0, hf0'⟩ := drop_get (l := fits) (i := 0) (by omega)
  have hfo := formed_of hok
  have hhd : fits.headD [] = f0 := by rw [List.drop_zero] at hf0'; rw [hf0']; rfl
  have hofl := g.ofl
  have hxy := g.xy
  have hxl := hln.1
  simp only at hofl hxy hxl
  obtain ⟨m, hme⟩ : ∃ m, m = f0.length := ⟨_, rfl⟩
  have hm12 : m ≤ 12 := by rw [hme]; exact h1 f0 (List.mem_of_getElem? hf0)
  have hyl : ∀ y ∈ ys, y.length = m := fun y hy => by
    rw [hme, ← hhd]
    exact hfo.2 _ (g.sub _ hy)
  have hxa : ∀ (k : Nat) (x : Supply), xs[k]? = some x → 0 ≤ x.amount ∧ x.amount ≤ 12582912 := fun k x hx => class_bound hok hs g hx
  have hz : List.replicate ((f0.length : Nat) : Int).toNat (I 0) = (List.replicate m 0).map I := by rw [Int.toNat_natCast, List.map_replicate, hme]
  have hml : f0.length = m := hme.symm
  refine exPure_sound (E := envOf Try.prog tt Try.f8.ntmps) (envOf_ok ttok mixed) Try.func8 (by rfl) rfl rfl (Nat.le_of_ble_eq_true rfl) ?_
  repeat' ((conv => whnf); first | refine Dec.t (of_decide_eq_true (Eq.refl true)) ?_ | refine Dec.f (of_decide_eq_false (Eq.refl false)) ?_ | with_reducible refine Dec.t (show true = true from rfl) ?_ | with_reducible refine Dec.t (show false = false from rfl) ?_ | with_reducible refine Dec.f (show ¬ (true = false) by decide) ?_ | with_reducible refine Dec.f (show ¬ (false = true) by decide) ?_ | refine Dec.t (by omega) ?_ | refine Dec.f (by omega) ?_ | refine Dec.split (fun _ => ?_) (fun _ => ?_) | refine Wr.id (by omega) ?_ | refine Chk.mk (by first | omega | exact rfl | (simp only [List.length_map]; omega) | (simp [room]; done) | (simp [room]; omega) | (simp [dropL, room]; done) | (simp [dropL, room]; omega)) ?_ | refine Nam.mk (List.length_map _) ?_ | refine Prep.skip ?_ | refine Eith.l ?_ | refine chk_t (x := D.flat _) (by assumption) ?_ | refine br_mk (fun _ => ?_) (fun _ => ?_) | refine ACall.of law29_sane ?_ | refine ACall.ofB (ref29_FewTable fits (by omega)) (fun _ => ?_) (fun h => absurd ⟨h1, h2⟩ (of_decide_eq_false h)) | refine ACall.of hM ?_ | refine ACall.ofB (law29_formed s fits (by omega)) (fun _ => ?_) (fun h => absurd hfo (of_decide_eq_false h)) | refine nthK_mk (map_get hf0) ?_ | refine Alt.r ?_ | fail)
  all_goals first | (exfalso; omega) | skip
  all_goals (conv => whnf)
  refine ALoop.weak (Wk.asVar (n := 0) rfl) ?_
  obtain ⟨z, hzz⟩ : ∃ z : Nat, z = 0 := ⟨0, rfl⟩
  refine ALoop.atH (E := (envOf Try.prog tt Try.f8.ntmps)) (envOf_ok ttok mixed) (X := XK) (fun x => [(83, .d (I x.k)), (14, .d (I x.a))]) (fun x => H0 z xs.length m x.k x.t x.G) (InvK xs ys m want.length) (fun x => xs.length - x.k) ⟨0, 0, [], List.replicate m 0⟩ (by repeat (first | exact trivial | refine And.intro rfl ?_ | refine And.intro (congrArg (fun n => V.d (I n)) (wrap_nat _ (by omega))) ?_))
    (by rw [H0_eq]; show [Blk.var ((List.replicate ((xs.length : Nat) : Int).toNat (D.sl 0 true [])).map V.d), Blk.row 0 1 false (List.replicate ((f0.length : Nat) : Int).toNat (I 0))] = [Blk.var (cellsV xs.length m 0), Blk.row 0 1 false ((List.replicate m 0).map I)]; rw [cellsV_zero, hz, Int.toNat_natCast]) ⟨Nat.zero_le _, rfl, Nat.zero_le _, fun j g y s hj => by simp at hj, TotIs.zero m⟩ ?_
  rintro ⟨k, a, G, t⟩ ⟨hk, hG, ha, hR, hT⟩
  simp only at hk hG ha hR hT
  dsimp only
  by_cases hkl : k < xs.length
  · obtain ⟨x, hx, _⟩ := drop_get hkl
    obtain ⟨y, hy, _⟩ := drop_get (l := ys) (i := k) (by omega)
    have hyl1 := hyl y (List.mem_of_getElem? hy)
    have hx0 : (xs.map Supply.d)[((k : Nat) : Int).toNat]? = some x.d := map_get hx
    have hy0 : (ys.map rowD)[((k : Nat) : Int).toNat]? = some (rowD y) := map_get hy
    have hkk : ∀ g' : List Int, (G ++ [g'])[k]? = some g' := fun g' => by rw [List.getElem?_append_right (by omega), hG]; simp
    have hks : ∀ g' g'' : List Int, (G ++ [g']).set k g'' = G ++ [g''] := fun g' g'' => by rw [List.set_append_right _ _ (by omega), hG]; simp
    have hkl' : ∀ g' : List Int, k < (G ++ [g']).length := fun g' => by rw [List.length_append, hG]; simp
    repeat' ((conv => whnf); first | refine chk_t (x := resB _ _ _ _) (by simp [resB, opNew, opN]; done) ?_ | with_reducible refine Dec.t (show true = true from rfl) ?_ | with_reducible refine Dec.t (show false = false from rfl) ?_ | with_reducible refine Dec.f (show ¬ (true = false) by decide) ?_ | with_reducible refine Dec.f (show ¬ (false = true) by decide) ?_ | refine Dec.t (by omega) ?_ | refine Dec.f (by omega) ?_ | refine Dec.split (fun _ => ?_) (fun _ => ?_) | refine Wr.id (by omega) ?_ | refine Chk.mk (by first | omega | exact rfl | (simp only [List.length_map]; omega) | (simp [room]; done) | (simp [room]; omega) | (simp [dropL, room]; done) | (simp [dropL, room]; omega)) ?_ | refine Nam.mk (List.length_map _) ?_ | refine Prep.skip ?_ | refine Eith.l ?_ | refine chk_t (x := D.flat _) (by assumption) ?_ | refine br_mk (fun _ => ?_) (fun _ => ?_) | refine nthK_mk hx0 ?_ | refine nthK_mk hy0 ?_ | (refine lenOfK_to (n := k + 1 + 1) (by rw [H0_len, hG]) ?_; refine padK_to (H1_pad _ _ _ _ _ _) ?_) | refine nthK_mk (H1_j _ _ _ _ _ hG) ?_ | refine H1_setj hG (congrArg (fun l => Blk.row 0 1 false l) hz) ?_ | refine nthK_mk (H0_0 _ _ _ _ _ _) ?_ | refine setK_to (zs := cellsV xs.length m (k + 1)) (by rw [cellsV_len]; omega) (by simp only [Nat.zero_add, Int.toNat_natCast, hml]; exact cellsV_set hkl) ?_ | refine setK_same (H0_0 _ _ _ _ _ _) ?_ | refine H0_set0 ?_ | fail)
    all_goals first | (exfalso; omega) | skip
    all_goals (conv => whnf)
    have hcell : (cellsV xs.length m (k + 1))[0 + ((k : Nat) : Int).toNat]? = some (.sref (k + 1 + 1) 0 0 m false) := by rw [Nat.zero_add, Int.toNat_natCast]; exact cellsV_get (by omega) (by omega)
    have hxb := hxa k x hx
    have hGb : ∀ z ∈ G, ∀ v ∈ z, 0 ≤ v ∧ v ≤ 255 := fun z hz => by
      obtain ⟨j, hj⟩ := List.mem_iff_getElem?.1 hz
      have hjl := (List.getElem?_eq_some_iff.1 hj).1
      exact (hR j z _ _ hj (List.getElem?_eq_getElem (by omega)) (List.getElem?_eq_getElem (by omega))).1.bnd
    refine ALoop.cutH (Y := XP) 2 (fun p => [(17, .d (I p.r)), (14, .d (I p.a)), (16, .d (I p.l))]) (fun p => H0 z xs.length m (k + 1) p.t (G ++ [p.g])) (fun z => z.a ≤ want.length ∧ RowG y z.g ∧ TotIs (G ++ [z.g]) m z.t ∧ z.g.sum ≤ x.amount) ?_ ?_
    · refine ALoop.atH (E := (envOf Try.prog tt Try.f8.ntmps)) (envOf_ok ttok mixed) (X := XP) (fun p => [(17, .d (I p.r)), (14, .d (I p.a)), (16, .d (I p.l))]) (fun p => H0 z xs.length m (k + 1) p.t (G ++ [p.g])) (fun z => z.r ≤ m ∧ z.a ≤ want.length ∧ InvA y G m x.amount z.r z.l z.g z.t) (fun z => m - z.r) ⟨0, a, x.amount, List.replicate m 0, t⟩ (by repeat (first | exact trivial | refine And.intro rfl ?_ | refine And.intro (congrArg (fun n => V.d (I n)) (wrap_nat _ (by omega))) ?_)) rfl ⟨Nat.zero_le _, ha, InvA.init hT hyl1 hxb.1⟩ ?_
      rintro ⟨r, a, l, g', t⟩ ⟨hr, ha, hI⟩
      simp only at hr ha hI
      dsimp only
      have hgl : g'.length = m := hI.1.1.trans hyl1
      have hlb : 0 ≤ l ∧ l ≤ x.amount := ⟨hI.2.2.2.1, by have := hI.2.2.1; have := sum_nonneg _ hI.1.pos; omega⟩
      by_cases hlt : r < m ∧ a < want.length
      · obtain ⟨hrm, ham⟩ := hlt
        obtain ⟨b, hb, _⟩ := drop_get (l := y) (i := r) (by omega)
        have hb0 : (y.map B)[((r : Nat) : Int).toNat]? = some (B b) := map_get hb
        cases b
        · repeat' ((conv => whnf); first | with_reducible refine Dec.t (show true = true from rfl) ?_ | with_reducible refine Dec.t (show false = false from rfl) ?_ | with_reducible refine Dec.f (show ¬ (true = false) by decide) ?_ | with_reducible refine Dec.f (show ¬ (false = true) by decide) ?_ | refine Dec.t (by omega) ?_ | refine Dec.f (by omega) ?_ | refine Dec.split (fun _ => ?_) (fun _ => ?_) | refine Wr.id (by omega) ?_ | refine Chk.mk (by first | omega | exact rfl | (simp only [List.length_map]; omega) | (simp [room]; done) | (simp [room]; omega) | (simp [dropL, room]; done) | (simp [dropL, room]; omega)) ?_ | refine Nam.mk (List.length_map _) ?_ | refine Prep.skip ?_ | refine Eith.l ?_ | refine chk_t (x := D.flat _) (by assumption) ?_ | refine br_mk (fun _ => ?_) (fun _ => ?_) | refine nthK_mk hy0 ?_ | refine nthK_mk hb0 ?_ | refine nthK_mk hcell ?_ | refine nthK_mk (H0_0 _ _ _ _ _ _) ?_ | refine nthK_mk (H0_1 _ _ _ _ _ _) ?_ | refine nthK_mk (H0_j _ _ _ _ _ (hkk _)) ?_ | refine setK_same (H0_0 _ _ _ _ _ _) ?_ | refine setK_same (H0_1 _ _ _ _ _ _) ?_ | refine setK_same (H0_j _ _ _ _ _ (hkk _)) ?_ | refine H0_set1 ?_ | refine H0_setj (hkl' _) (hks _ _) ?_ | fail)
          all_goals first | (exfalso; omega) | skip
          all_goals (conv => whnf)
          all_goals first
            | exact ⟨⟨r + 1, a + 1, l, g', t⟩, Wk.wm (Wk.tmps (SameT.mem (by repeat (first | exact trivial | refine And.intro rfl ?_ | refine And.intro (congrArg (fun n => V.d (I n)) (wrap_nat _ (by omega))) ?_)))), ⟨hrm, ham, hI.skip⟩, by show m - (r + 1) < m - r; omega⟩
        · obtain ⟨u, hu, _⟩ := drop_get (l := want) (i := a) ham
          have hu0 : (want.map (D.i .u8))[((a : Nat) : Int).toNat]? = some (.i .u8 u) := by rw [Int.toNat_natCast, List.getElem?_map, hu]; rfl
          have hub := hwb u (List.mem_of_getElem? hu)
          obtain ⟨q, hq, hq0, hq1⟩ := hI.tot hGb hrm
          have hq2 : q ≤ 4000 := by omega
          obtain ⟨v, hv⟩ : ∃ v, v = if u < l then u else l := ⟨_, rfl⟩
          have hvm : v = min l u := by rw [hv]; split <;> omega
          have hS := hI.step (by omega) hb hub hvm hq
          have hg0 : g'[((r : Nat) : Int).toNat]? = some 0 := by
            have h3 : r < g'.length := by omega
            rw [Int.toNat_natCast, List.getElem?_eq_getElem h3, hI.2.2.2.2 r g'[r] (Nat.le_refl _) (List.getElem?_eq_getElem h3)]
          have hq' : (t.map I)[0 + ((r : Nat) : Int).toNat]? = some (I q) := map_get0 hq
          have hgv : ((g'.set (0 + ((r : Nat) : Int).toNat) v).map I)[0 + ((r : Nat) : Int).toNat]? = some (I v) := by
            rw [Nat.zero_add, Int.toNat_natCast, List.getElem?_map, List.getElem?_set_self (by omega)]; rfl
          have hvb : 0 ≤ v ∧ v ≤ 255 ∧ v ≤ l := by omega
          repeat' ((conv => whnf); first | with_reducible refine Dec.t (show true = true from rfl) ?_ | with_reducible refine Dec.t (show false = false from rfl) ?_ | with_reducible refine Dec.f (show ¬ (true = false) by decide) ?_ | with_reducible refine Dec.f (show ¬ (false = true) by decide) ?_ | refine Dec.t (by omega) ?_ | refine Dec.f (by omega) ?_ | refine Dec.split (fun _ => ?_) (fun _ => ?_) | refine Wr.id (by omega) ?_ | refine Chk.mk (by first | omega | exact rfl | (simp only [List.length_map]; omega) | (simp [room]; done) | (simp [room]; omega) | (simp [dropL, room]; done) | (simp [dropL, room]; omega)) ?_ | refine Nam.mk (List.length_map _) ?_ | refine Prep.skip ?_ | refine Eith.l ?_ | refine chk_t (x := D.flat _) (by assumption) ?_ | refine br_mk (fun _ => ?_) (fun _ => ?_) | refine nthK_mk hy0 ?_ | refine nthK_mk hb0 ?_ | refine nthK_mk hu0 ?_ | refine nthK_mk hcell ?_ | refine nthK_mk (H0_0 _ _ _ _ _ _) ?_ | refine nthK_mk (H0_1 _ _ _ _ _ _) ?_ | refine nthK_mk (H0_j _ _ _ _ _ (hkk _)) ?_ | refine setK_same (H0_0 _ _ _ _ _ _) ?_ | refine setK_same (H0_1 _ _ _ _ _ _) ?_ | refine setK_same (H0_j _ _ _ _ _ (hkk _)) ?_ | refine H0_set1 ?_ | refine H0_setj (hkl' _) (hks _ _) ?_ | refine nthK_mk (map_get0' hg0) ?_ | refine setK_map (f := I) (x := 0) (y := v) (by simpa using hg0) (by rw [hv]; rfl) ?_ | refine nthK_mk hgv ?_ | refine nthK_mk hq' ?_ | refine setK_map (f := I) (x := q) (y := q + v) (by simpa using hq) rfl ?_ | fail)
          all_goals first | (exfalso; omega) | skip
          all_goals (conv => whnf)
          all_goals first
            | exact ⟨⟨r + 1, a + 1, l - v, g'.set (0 + ((r : Nat) : Int).toNat) v, t.set (0 + ((r : Nat) : Int).toNat) (q + v)⟩, Wk.wm (Wk.tmps (SameT.mem (by repeat (first | exact trivial | refine And.intro rfl ?_ | refine And.intro (congrArg (fun n => V.d (I n)) (wrap_nat _ (by omega))) ?_)))), ⟨hrm, ham, by simp only [Nat.zero_add, Int.toNat_natCast]; exact hS⟩, by show m - (r + 1) < m - r; omega⟩
      · repeat' ((conv => whnf); first | with_reducible refine Dec.t (show true = true from rfl) ?_ | with_reducible refine Dec.t (show false = false from rfl) ?_ | with_reducible refine Dec.f (show ¬ (true = false) by decide) ?_ | with_reducible refine Dec.f (show ¬ (false = true) by decide) ?_ | refine Dec.t (by omega) ?_ | refine Dec.f (by omega) ?_ | refine Dec.split (fun _ => ?_) (fun _ => ?_) | refine Wr.id (by omega) ?_ | refine Chk.mk (by first | omega | exact rfl | (simp only [List.length_map]; omega) | (simp [room]; done) | (simp [room]; omega) | (simp [dropL, room]; done) | (simp [dropL, room]; omega)) ?_ | refine Nam.mk (List.length_map _) ?_ | refine Prep.skip ?_ | refine Eith.l ?_ | refine chk_t (x := D.flat _) (by assumption) ?_ | refine br_mk (fun _ => ?_) (fun _ => ?_) | fail)
        all_goals first | (exfalso; omega) | skip
        all_goals (conv => whnf)
        all_goals first
          | exact ⟨rfl, ⟨r, a, l, g', t⟩, ⟨ha, hI.1, hI.2.1, by have h3 := hI.2.2.1; have h4 := hI.2.2.2.1; show g'.sum ≤ x.amount; omega⟩, Wk.wm (Wk.tmps (SameT.mem (by repeat (first | exact trivial | refine And.intro rfl ?_ | refine And.intro (congrArg (fun n => V.d (I n)) (wrap_nat _ (by omega))) ?_))))⟩
    · rintro ⟨r, a', l, g', t'⟩ ⟨ha', hR', hT', hs'⟩
      simp only at ha' hR' hT' hs'
      repeat' ((conv => whnf); first | with_reducible refine Dec.t (show true = true from rfl) ?_ | with_reducible refine Dec.t (show false = false from rfl) ?_ | with_reducible refine Dec.f (show ¬ (true = false) by decide) ?_ | with_reducible refine Dec.f (show ¬ (false = true) by decide) ?_ | refine Dec.t (by omega) ?_ | refine Dec.f (by omega) ?_ | refine Dec.split (fun _ => ?_) (fun _ => ?_) | refine Wr.id (by omega) ?_ | refine Chk.mk (by first | omega | exact rfl | (simp only [List.length_map]; omega) | (simp [room]; done) | (simp [room]; omega) | (simp [dropL, room]; done) | (simp [dropL, room]; omega)) ?_ | refine Nam.mk (List.length_map _) ?_ | refine Prep.skip ?_ | refine Eith.l ?_ | refine chk_t (x := D.flat _) (by assumption) ?_ | refine br_mk (fun _ => ?_) (fun _ => ?_) | fail)
      all_goals first | (exfalso; omega) | skip
      all_goals (conv => whnf)
      refine ⟨⟨k + 1, a', G ++ [g'], t'⟩, ?_, ⟨hkl, by simp [hG], ha', fun j z w s hj hw hs => ?_, hT'⟩, by show xs.length - (k + 1) < xs.length - k; omega⟩
      · exact Wk.wm (Wk.tmps (SameT.mem (by repeat (first | exact trivial | refine And.intro rfl ?_ | refine And.intro (congrArg (fun n => V.d (I n)) (wrap_nat _ (by omega))) ?_))))
      · by_cases hjl : j < G.length
        · rw [List.getElem?_append_left hjl] at hj
          exact hR j z w s hj hw hs
        · have hj2 := (List.getElem?_eq_some_iff.1 hj).1
          simp only [List.length_append, List.length_cons, List.length_nil] at hj2
          have : j = k := by omega
          subst this
          rw [List.getElem?_append_right (by omega), hG] at hj
          simp at hj
          subst hj
          rw [hy] at hw
          rw [hx] at hs
          cases hw; cases hs
          exact ⟨hR', hs'⟩
  · have hkK : k = xs.length := by omega
    subst hkK
    have hd0 : ∀ q : Nat, restF (of.drop 0) ((s.map Supply.amount).drop 0) q = restF of (s.map Supply.amount) q := fun q => by rw [List.drop_zero, List.drop_zero]
    have hO : InvO ys of (s.map Supply.amount) m 0 G t := ⟨fun k g' y h1 h2 => by
      have hkl' := (List.getElem?_eq_some_iff.1 h1).1
      have hkl2 : k < xs.length := by omega
      exact (hR k g' y xs[k] h1 h2 (List.getElem?_eq_getElem hkl2)).1, hT, fun k g' h1 => by
      have hkl' := (List.getElem?_eq_some_iff.1 h1).1
      have hkl2 : k < xs.length := by omega
      have hkl3 : k < ys.length := by omega
      have h2 := (hR k g' ys[k] xs[k] h1 (List.getElem?_eq_getElem (by omega)) (List.getElem?_eq_getElem (by omega))).2
      rw [hd0, ← class_rest g (List.getElem?_eq_getElem (show k < xs.length by omega))]
      exact h2⟩
    repeat' ((conv => whnf); first | with_reducible refine Dec.t (show true = true from rfl) ?_ | with_reducible refine Dec.t (show false = false from rfl) ?_ | with_reducible refine Dec.f (show ¬ (true = false) by decide) ?_ | with_reducible refine Dec.f (show ¬ (false = true) by decide) ?_ | refine Dec.t (by omega) ?_ | refine Dec.f (by omega) ?_ | refine Dec.split (fun _ => ?_) (fun _ => ?_) | refine Wr.id (by omega) ?_ | refine Chk.mk (by first | omega | exact rfl | (simp only [List.length_map]; omega) | (simp [room]; done) | (simp [room]; omega) | (simp [dropL, room]; done) | (simp [dropL, room]; omega)) ?_ | refine Nam.mk (List.length_map _) ?_ | refine Prep.skip ?_ | refine Eith.l ?_ | refine chk_t (x := D.flat _) (by assumption) ?_ | refine br_mk (fun _ => ?_) (fun _ => ?_) | fail)
    all_goals first | (exfalso; omega) | skip
    all_goals (conv => whnf)
    refine ALoop.atH (E := (envOf Try.prog tt Try.f8.ntmps)) (envOf_ok ttok mixed) (X := XO) (fun x => [(161, .d (I x.i))]) (fun x => H0 z xs.length m xs.length x.t x.G) (fun x => x.i ≤ of.length ∧ x.G.length = xs.length ∧ InvO ys of (s.map Supply.amount) m x.i x.G x.t) (fun x => of.length - x.i) ⟨0, G, t⟩ (by repeat (first | exact trivial | refine And.intro rfl ?_ | refine And.intro (congrArg (fun n => V.d (I n)) (wrap_nat _ (by omega))) ?_)) rfl ⟨Nat.zero_le _, hG, hO⟩ ?_
    rintro ⟨i, G, t⟩ ⟨hi, hG, hO⟩
    simp only at hi hG hO
    dsimp only
    by_cases hil : i < of.length
    · obtain ⟨q, hq, _⟩ := drop_get hil
      obtain ⟨s1, hs1, _⟩ := drop_get (l := s) (i := i) (by omega)
      obtain ⟨f1, hf1, _⟩ := drop_get (l := fits) (i := i) (by omega)
      obtain ⟨hq0, hq1, hq2⟩ := g.row i q f1 hq hf1
      simp only at hq0 hq1 hq2
      obtain ⟨k, rfl⟩ := Int.eq_ofNat_of_zero_le hq0
      rw [Int.toNat_natCast] at hq2
      have hkx : k < xs.length := by omega
      obtain ⟨g', hg', _⟩ := drop_get (l := G) (i := k) (by omega)
      repeat' ((conv => whnf); first | with_reducible refine Dec.t (show true = true from rfl) ?_ | with_reducible refine Dec.t (show false = false from rfl) ?_ | with_reducible refine Dec.f (show ¬ (true = false) by decide) ?_ | with_reducible refine Dec.f (show ¬ (false = true) by decide) ?_ | refine Dec.t (by omega) ?_ | refine Dec.f (by omega) ?_ | refine Dec.split (fun _ => ?_) (fun _ => ?_) | refine Wr.id (by omega) ?_ | refine Chk.mk (by first | omega | exact rfl | (simp only [List.length_map]; omega) | (simp [room]; done) | (simp [room]; omega) | (simp [dropL, room]; done) | (simp [dropL, room]; omega)) ?_ | refine Nam.mk (List.length_map _) ?_ | refine Prep.skip ?_ | refine Eith.l ?_ | refine chk_t (x := D.flat _) (by assumption) ?_ | refine br_mk (fun _ => ?_) (fun _ => ?_) | refine nthK_mk (map_get (f := I) hq) ?_ | refine nthK_mk (map_get hs1) ?_ | fail)
      all_goals first | (exfalso; omega) | skip
      all_goals (conv => whnf)
      have ham := amounts_of hok
      have hsa : (s.map Supply.amount)[i]? = some s1.amount := by rw [List.getElem?_map, hs1]; rfl
      have hs1b := ham _ (List.mem_of_getElem? hsa)
      have hf1l : f1.length = m := hyl f1 (List.mem_of_getElem? hq2)
      have hGk : k < G.length := by omega
      have hGg : G.set k g' = G := by
        refine List.ext_getElem? fun j => ?_
        by_cases hj : k = j
        · subst hj; rw [List.getElem?_set_self hGk, hg']
        · rw [List.getElem?_set_ne hj]
      have hrows : ∀ gg : List Int, RowG f1 gg → ∀ x ∈ G.set k gg, ∀ v ∈ x, 0 ≤ v ∧ v ≤ 255 := fun gg hgg x hx => by
        obtain ⟨j, hj⟩ := List.mem_iff_getElem?.1 hx
        by_cases hjk : k = j
        · subst hjk; rw [List.getElem?_set_self hGk] at hj; cases hj; exact hgg.bnd
        · rw [List.getElem?_set_ne hjk] at hj
          have hjl := (List.getElem?_eq_some_iff.1 hj).1
          have hjy : j < ys.length := by omega
          exact (hO.1 j x _ hj (List.getElem?_eq_getElem hjy)).bnd
      have hcell : (cellsV xs.length m xs.length)[0 + ((k : Nat) : Int).toNat]? = some (.sref (k + 1 + 1) 0 0 m false) := by rw [Nat.zero_add, Int.toNat_natCast]; exact cellsV_get (by omega) (by omega)
      have hkk : ∀ gg : List Int, (G.set k gg)[k]? = some gg := fun gg => List.getElem?_set_self hGk
      have hks : ∀ gg g2 : List Int, (G.set k gg).set k g2 = G.set k g2 := fun gg g2 => List.set_set ..
      have hkl' : ∀ gg : List Int, k < (G.set k gg).length := fun gg => by rw [List.length_set]; exact hGk
      refine ALoop.atH (E := (envOf Try.prog tt Try.f8.ntmps)) (envOf_ok ttok mixed) (X := XB) (fun p => [(180, .d (I p.r)), (20, .d (I p.l))]) (fun p => H0 z xs.length m xs.length p.t (G.set k p.g)) (fun p => p.r ≤ m ∧ InvB f1 G k m s1.amount p.r p.l p.g p.t) (fun p => m - p.r) ⟨0, s1.amount, g', t⟩ (by repeat (first | exact trivial | refine And.intro rfl ?_ | refine And.intro (congrArg (fun n => V.d (I n)) (wrap_nat _ (by omega))) ?_)) (by simp only [hGg]) ⟨Nat.zero_le _, InvB.init hg' (hO.1 k g' f1 hg' hq2) hO.2.1 hs1b.1⟩ ?_
      rintro ⟨r, l, gg, t'⟩ ⟨hr, hB⟩
      simp only at hr hB
      dsimp only
      have hlb := hB.2.2.1
      by_cases hrm : r < m
      · have hgl : gg.length = m := hB.1.1.trans hf1l
        obtain ⟨u, hu, _⟩ := drop_get (l := gg) (i := r) (by omega)
        have hub := hB.1.2 r u hu
        obtain ⟨b, hb, _⟩ := drop_get (l := f1) (i := r) (by omega)
        obtain ⟨q, hqq⟩ : ∃ q, q = colS (G.set k gg) r := ⟨_, rfl⟩
        have htq : t'[r]? = some q := by rw [hqq]; exact hB.2.1.2 r hrm
        have hqb := colS_bound (G.set k gg) r (hrows gg hB.1)
        rw [← hqq, List.length_set, hG] at hqb
        have hqb2 : 0 ≤ q ∧ q ≤ 4000 := by omega
        obtain ⟨v, hv⟩ : ∃ v, v = if u < l then u else l := ⟨_, rfl⟩
        have hvm : v = min l u := by rw [hv]; split <;> omega
        have hvb : 0 ≤ v ∧ v ≤ u ∧ v ≤ l := by omega
        have hS := hB.step hGk hu hvm htq
        have hbt : 0 < u → b = true := fun h => by have := hub.2.2 h; rw [hb] at this; exact Option.some.inj this
        have hb0 : (f1.map B)[((r : Nat) : Int).toNat]? = some (B b) := map_get hb
        have hf0 : (fits.map rowD)[((i : Nat) : Int).toNat]? = some (rowD f1) := map_get hf1
        have hq' : (t'.map I)[0 + ((r : Nat) : Int).toNat]? = some (I q) := map_get0 htq
        have hu' : (gg.map I)[0 + ((r : Nat) : Int).toNat]? = some (I u) := map_get0 hu
        rw [hv] at hvb hS
        cases b
        · have hu0 : u = 0 := by
            by_cases h : 0 < u
            · exact absurd (hbt h) (by simp)
            · omega
          repeat' ((conv => whnf); first | with_reducible refine Dec.t (show true = true from rfl) ?_ | with_reducible refine Dec.t (show false = false from rfl) ?_ | with_reducible refine Dec.f (show ¬ (true = false) by decide) ?_ | with_reducible refine Dec.f (show ¬ (false = true) by decide) ?_ | refine Dec.t (by omega) ?_ | refine Dec.f (by omega) ?_ | refine Dec.split (fun _ => ?_) (fun _ => ?_) | refine Wr.id (by omega) ?_ | refine Chk.mk (by first | omega | exact rfl | (simp only [List.length_map]; omega) | (simp [room]; done) | (simp [room]; omega) | (simp [dropL, room]; done) | (simp [dropL, room]; omega)) ?_ | refine Nam.mk (List.length_map _) ?_ | refine Prep.skip ?_ | refine Eith.l ?_ | refine chk_t (x := D.flat _) (by assumption) ?_ | refine br_mk (fun _ => ?_) (fun _ => ?_) | refine nthK_mk hf0 ?_ | refine nthK_mk hb0 ?_ | refine nthK_mk hcell ?_ | refine nthK_mk (H0_0 _ _ _ _ _ _) ?_ | refine nthK_mk (H0_1 _ _ _ _ _ _) ?_ | refine nthK_mk (H0_j _ _ _ _ _ (hkk _)) ?_ | refine setK_same (H0_0 _ _ _ _ _ _) ?_ | refine setK_same (H0_1 _ _ _ _ _ _) ?_ | refine setK_same (H0_j _ _ _ _ _ (hkk _)) ?_ | refine H0_set1 ?_ | refine H0_setj (hkl' _) (hks _ _) ?_ | refine nthK_mk hu' ?_ | refine nthK_mk hq' ?_ | refine setK_map (f := I) (x := u) (y := u - (if u < l then u else l)) (by simpa using hu) rfl ?_ | refine setK_map (f := I) (x := q) (y := q - (if u < l then u else l)) (by simpa using htq) rfl ?_ | fail)
          all_goals first | (exfalso; omega) | skip
          all_goals (conv => whnf)
          all_goals first
            | exact ⟨⟨r + 1, l - (if u < l then u else l), gg.set (0 + ((r : Nat) : Int).toNat) (u - (if u < l then u else l)), t'.set (0 + ((r : Nat) : Int).toNat) (q - (if u < l then u else l))⟩, Wk.wm (Wk.tmps (SameT.mem (by repeat (first | exact trivial | refine And.intro rfl ?_ | refine And.intro (congrArg (fun n => V.d (I n)) (wrap_nat _ (by omega))) ?_)))), ⟨hrm, by simp only [Nat.zero_add, Int.toNat_natCast]; exact hS⟩, by show m - (r + 1) < m - r; omega⟩
        · clear hbt
          repeat' ((conv => whnf); first | with_reducible refine Dec.t (show true = true from rfl) ?_ | with_reducible refine Dec.t (show false = false from rfl) ?_ | with_reducible refine Dec.f (show ¬ (true = false) by decide) ?_ | with_reducible refine Dec.f (show ¬ (false = true) by decide) ?_ | refine Dec.t (by omega) ?_ | refine Dec.f (by omega) ?_ | refine Dec.split (fun _ => ?_) (fun _ => ?_) | refine Wr.id (by omega) ?_ | refine Chk.mk (by first | omega | exact rfl | (simp only [List.length_map]; omega) | (simp [room]; done) | (simp [room]; omega) | (simp [dropL, room]; done) | (simp [dropL, room]; omega)) ?_ | refine Nam.mk (List.length_map _) ?_ | refine Prep.skip ?_ | refine Eith.l ?_ | refine chk_t (x := D.flat _) (by assumption) ?_ | refine br_mk (fun _ => ?_) (fun _ => ?_) | refine nthK_mk hf0 ?_ | refine nthK_mk hb0 ?_ | refine nthK_mk hcell ?_ | refine nthK_mk (H0_0 _ _ _ _ _ _) ?_ | refine nthK_mk (H0_1 _ _ _ _ _ _) ?_ | refine nthK_mk (H0_j _ _ _ _ _ (hkk _)) ?_ | refine setK_same (H0_0 _ _ _ _ _ _) ?_ | refine setK_same (H0_1 _ _ _ _ _ _) ?_ | refine setK_same (H0_j _ _ _ _ _ (hkk _)) ?_ | refine H0_set1 ?_ | refine H0_setj (hkl' _) (hks _ _) ?_ | refine nthK_mk hu' ?_ | refine nthK_mk hq' ?_ | refine setK_map (f := I) (x := u) (y := u - (if u < l then u else l)) (by simpa using hu) rfl ?_ | refine setK_map (f := I) (x := q) (y := q - (if u < l then u else l)) (by simpa using htq) rfl ?_ | fail)
          all_goals first | (exfalso; omega) | skip
          all_goals (conv => whnf)
          all_goals first
            | exact ⟨⟨r + 1, l - (if u < l then u else l), gg.set (0 + ((r : Nat) : Int).toNat) (u - (if u < l then u else l)), t'.set (0 + ((r : Nat) : Int).toNat) (q - (if u < l then u else l))⟩, Wk.wm (Wk.tmps (SameT.mem (by repeat (first | exact trivial | refine And.intro rfl ?_ | refine And.intro (congrArg (fun n => V.d (I n)) (wrap_nat _ (by omega))) ?_)))), ⟨hrm, by simp only [Nat.zero_add, Int.toNat_natCast]; exact hS⟩, by show m - (r + 1) < m - r; omega⟩
      · have hrm2 : r = gg.length := by have := hB.1.1; omega
        repeat' ((conv => whnf); first | with_reducible refine Dec.t (show true = true from rfl) ?_ | with_reducible refine Dec.t (show false = false from rfl) ?_ | with_reducible refine Dec.f (show ¬ (true = false) by decide) ?_ | with_reducible refine Dec.f (show ¬ (false = true) by decide) ?_ | refine Dec.t (by omega) ?_ | refine Dec.f (by omega) ?_ | refine Dec.split (fun _ => ?_) (fun _ => ?_) | refine Wr.id (by omega) ?_ | refine Chk.mk (by first | omega | exact rfl | (simp only [List.length_map]; omega) | (simp [room]; done) | (simp [room]; omega) | (simp [dropL, room]; done) | (simp [dropL, room]; omega)) ?_ | refine Nam.mk (List.length_map _) ?_ | refine Prep.skip ?_ | refine Eith.l ?_ | refine chk_t (x := D.flat _) (by assumption) ?_ | refine br_mk (fun _ => ?_) (fun _ => ?_) | fail)
        all_goals first | (exfalso; omega) | skip
        all_goals (conv => whnf)
        all_goals first
          | exact ⟨⟨i + 1, G.set k gg, t'⟩, Wk.wm (Wk.tmps (SameT.mem (by repeat (first | exact trivial | refine And.intro rfl ?_ | refine And.intro (congrArg (fun n => V.d (I n)) (wrap_nat _ (by omega))) ?_)))), ⟨hil, by simp [hG], hO.next hGk hq2 hq hsa (fun n hn => (ham n hn).1) (hrm2 ▸ hB)⟩, by show of.length - (i + 1) < of.length - i; omega⟩
    · repeat' ((conv => whnf); first | with_reducible refine Dec.t (show true = true from rfl) ?_ | with_reducible refine Dec.t (show false = false from rfl) ?_ | with_reducible refine Dec.f (show ¬ (true = false) by decide) ?_ | with_reducible refine Dec.f (show ¬ (false = true) by decide) ?_ | refine Dec.t (by omega) ?_ | refine Dec.f (by omega) ?_ | refine Dec.split (fun _ => ?_) (fun _ => ?_) | refine Wr.id (by omega) ?_ | refine Chk.mk (by first | omega | exact rfl | (simp only [List.length_map]; omega) | (simp [room]; done) | (simp [room]; omega) | (simp [dropL, room]; done) | (simp [dropL, room]; omega)) ?_ | refine Nam.mk (List.length_map _) ?_ | refine Prep.skip ?_ | refine Eith.l ?_ | refine chk_t (x := D.flat _) (by assumption) ?_ | refine br_mk (fun _ => ?_) (fun _ => ?_) | fail)
      all_goals first | (exfalso; omega) | skip
      all_goals (conv => whnf)
      refine ALoop.atH (E := (envOf Try.prog tt Try.f8.ntmps)) (envOf_ok ttok mixed) (X := Nat) (fun r => [(229, .d (I r))]) (fun _ => H0 z xs.length m xs.length t G) (fun r => r ≤ m) (fun r => m - r) 0 (by repeat (first | exact trivial | refine And.intro rfl ?_ | refine And.intro (congrArg (fun n => V.d (I n)) (wrap_nat _ (by omega))) ?_)) rfl (Nat.zero_le _) ?_
      intro r hr
      try dsimp only
      by_cases hrm : r < m
      · have htq : t[r]? = some 0 := hO.done (by omega) (by omega) hrm
        have hq' : (t.map I)[0 + ((r : Nat) : Int).toNat]? = some (I 0) := map_get0 htq
        repeat' ((conv => whnf); first | refine Dec.t (of_decide_eq_true (Eq.refl true)) ?_ | refine Dec.f (of_decide_eq_false (Eq.refl false)) ?_ | with_reducible refine Dec.t (show true = true from rfl) ?_ | with_reducible refine Dec.t (show false = false from rfl) ?_ | with_reducible refine Dec.f (show ¬ (true = false) by decide) ?_ | with_reducible refine Dec.f (show ¬ (false = true) by decide) ?_ | refine Dec.t (by omega) ?_ | refine Dec.f (by omega) ?_ | refine Dec.split (fun _ => ?_) (fun _ => ?_) | refine Wr.id (by omega) ?_ | refine Chk.mk (by first | omega | exact rfl | (simp only [List.length_map]; omega) | (simp [room]; done) | (simp [room]; omega) | (simp [dropL, room]; done) | (simp [dropL, room]; omega)) ?_ | refine Nam.mk (List.length_map _) ?_ | refine Prep.skip ?_ | refine Eith.l ?_ | refine chk_t (x := D.flat _) (by assumption) ?_ | refine br_mk (fun _ => ?_) (fun _ => ?_) | refine nthK_mk (H0_1 _ _ _ _ _ _) ?_ | refine setK_same (H0_1 _ _ _ _ _ _) ?_ | refine nthK_mk hq' ?_ | fail)
        all_goals first | (exfalso; omega) | skip
        all_goals (conv => whnf)
        all_goals first
          | exact ⟨r + 1, Wk.wm (Wk.tmps (SameT.mem (by repeat (first | exact trivial | refine And.intro rfl ?_ | refine And.intro (congrArg (fun n => V.d (I n)) (wrap_nat _ (by omega))) ?_)))), hrm, by show m - (r + 1) < m - r; omega⟩
      · repeat' ((conv => whnf); first | with_reducible refine Dec.t (show true = true from rfl) ?_ | with_reducible refine Dec.t (show false = false from rfl) ?_ | with_reducible refine Dec.f (show ¬ (true = false) by decide) ?_ | with_reducible refine Dec.f (show ¬ (false = true) by decide) ?_ | refine Dec.t (by omega) ?_ | refine Dec.f (by omega) ?_ | refine Dec.split (fun _ => ?_) (fun _ => ?_) | refine Wr.id (by omega) ?_ | refine Chk.mk (by first | omega | exact rfl | (simp only [List.length_map]; omega) | (simp [room]; done) | (simp [room]; omega) | (simp [dropL, room]; done) | (simp [dropL, room]; omega)) ?_ | refine Nam.mk (List.length_map _) ?_ | refine Prep.skip ?_ | refine Eith.l ?_ | refine chk_t (x := D.flat _) (by assumption) ?_ | refine br_mk (fun _ => ?_) (fun _ => ?_) | fail)
        all_goals first | (exfalso; omega) | skip
        all_goals (conv => whnf)
        all_goals first
          | exact DLe.refl _
end Go.PM

