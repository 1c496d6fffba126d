/- The statements of layer 46: NetworkOnlySent, its contract. -/
import Derived.Test.YtoadefidkdmheaaN46k
namespace Go.PM
open Go.Proofs
set_option maxRecDepth 10000
set_option maxHeartbeats 8000000

structure XO where
  i : Nat
  n : Net
  S : List Pkt
  vr : Nat
  dp : List D
  cuts : Nat
/-- What holds along the way. -/
structure Way (i : Nat) (n : Net) (S : List Pkt) (cuts : Nat) : Prop where
  ok : n.ok
  q : n.queue.length ≤ i
  a : n.apart.length ≤ 120
  s : S.length ≤ i
  sent : ∀ p ∈ n.queue, p ∈ S
  cut : n.apart ≠ [] → 0 < cuts
  c : cuts ≤ i
theorem lose_err {n : Net} {a : Int} (h : ¬ (loseM n a).2 = 0) : (loseM n a).1 = Net.zero := by
  unfold loseM at h ⊢
  by_cases h1 : lookM n a = 0
  · rw [if_pos h1] at h; exact absurd rfl h
  · rw [if_neg h1]
theorem send_err {n : Net} {p : Pkt} (h : ¬ (sendM n p).2 = 0) : (sendM n p).1 = Net.zero := by
  unfold sendM at h ⊢
  repeat' split
  all_goals first | rfl | (exfalso; simp_all)
theorem repeat_err {n : Net} {a : Int} (h : ¬ (repeatM n a).2 = 0) : (repeatM n a).1 = Net.zero := by
  unfold repeatM at h ⊢
  by_cases h1 : lookM n a = 0
  · rw [if_pos h1] at h ⊢; exact send_err h
  · rw [if_neg h1]
theorem cut_err {n : Net} {a b : Int} {on : Bool} (h : ¬ (cutM n a b on).2 = 0) : (cutM n a b on).1 = Net.zero := by
  unfold cutM at h ⊢
  repeat' split
  all_goals first | rfl | (exfalso; simp_all)
theorem happ_err {n : Net} {m : Mv} (h : ¬ (happM n m).2.2 = 0) : (happM n m).1 = Net.zero := by
  unfold happM at h ⊢
  split
  · rename_i h0; rw [if_pos h0] at h; exact send_err h
  · rename_i h0; rw [if_neg h0] at h
    split
    · rename_i h1; rw [if_pos h1] at h; exact lose_err h
    · rename_i h1; rw [if_neg h1] at h
      split
      · rename_i h2; rw [if_pos h2] at h; exact lose_err h
      · rename_i h2; rw [if_neg h2] at h
        split
        · rename_i h3; rw [if_pos h3] at h; exact repeat_err h
        · rename_i h3; rw [if_neg h3] at h
          split
          · rename_i h4; rw [if_pos h4] at h; exact cut_err h
          · rename_i h4; rw [if_neg h4] at h; exact cut_err h
theorem send_got {n : Net} {p : Pkt} (h : (sendM n p).2 = 0) : p.ok ∧ n.queue.length < 4096 ∧ sendM n p = (⟨n.queue ++ [p], n.apart⟩, 0) := by
  unfold sendM at h ⊢
  by_cases h1 : n.ok
  · by_cases h2 : p.ok
    · by_cases h3 : n.queue.length < 4096
      · exact ⟨h2, h3, by rw [if_pos h1, if_pos h2, if_pos h3]⟩
      · rw [if_pos h1, if_pos h2, if_neg h3] at h; exact absurd h (by decide)
    · rw [if_pos h1, if_neg h2] at h; exact absurd h (by decide)
  · rw [if_neg h1] at h; exact absurd h (by decide)
theorem lose_got {n : Net} {a : Int} (h : (loseM n a).2 = 0) : lookM n a = 0 ∧ loseM n a = (n.cutAt a.toNat, 0) := by
  unfold loseM at h ⊢
  by_cases h1 : lookM n a = 0
  · exact ⟨h1, by rw [if_pos h1]⟩
  · rw [if_neg h1] at h; exact absurd h h1
theorem cut_got {n : Net} {a b : Int} {on : Bool} (h : (cutM n a b on).2 = 0) : cutM n a b on = (⟨n.queue, targ n.apart (linkM a b) on⟩, 0) := by
  unfold cutM at h ⊢
  by_cases h1 : n.ok
  · by_cases h2 : site a ∧ site b ∧ ¬ a = b
    · rw [if_pos h1, if_pos h2]
    · rw [if_pos h1, if_neg h2] at h; exact absurd h (by decide)
  · rw [if_neg h1] at h; exact absurd h (by decide)
theorem step0 {n : Net} {m : Mv} (hs : m.sort = 0) (h : (happM n m).2.2 = 0) : ∃ p : Pkt, p.ok ∧ n.queue.length < 4096 ∧ happM n m = (⟨n.queue ++ [p], n.apart⟩, Pkt.zero, 0) := by
  unfold happM at h ⊢
  rw [if_pos hs] at h ⊢
  obtain ⟨h1, h2, h3⟩ := send_got h
  exact ⟨_, h1, h2, by rw [h3]⟩
theorem step1 {n : Net} {m : Mv} (hs : m.sort = 1) (h : (happM n m).2.2 = 0) : ∃ (k : Nat) (g : Pkt), happM n m = (n.cutAt k, g, 0) ∧ (g = Pkt.zero ∧ n.apart ≠ [] ∨ g ∈ n.queue) := by
  unfold happM at h ⊢
  rw [if_neg (by omega), if_pos hs] at h ⊢
  obtain ⟨h1, h2⟩ := lose_got h
  refine ⟨_, _, by rw [h2], ?_⟩
  unfold gotM
  rw [if_pos h1]
  obtain ⟨p, p1, p2, p3⟩ := look_at h1
  split
  · rename_i hm
    exact .inl ⟨rfl, fun e => by rw [e] at hm; cases hm⟩
  · rw [p2]; exact .inr (List.mem_of_getElem? p1)
theorem step2 {n : Net} {m : Mv} (hs : m.sort = 2) (h : (happM n m).2.2 = 0) : ∃ k : Nat, happM n m = (n.cutAt k, Pkt.zero, 0) := by
  unfold happM at h ⊢
  rw [if_neg (by omega), if_neg (by omega), if_pos hs] at h ⊢
  obtain ⟨h1, h2⟩ := lose_got h
  exact ⟨_, by rw [h2]⟩
theorem step3 {n : Net} {m : Mv} (hs : m.sort = 3) (h : (happM n m).2.2 = 0) : ∃ p : Pkt, p.ok ∧ n.queue.length < 4096 ∧ p ∈ n.queue ∧ happM n m = (⟨n.queue ++ [p], n.apart⟩, Pkt.zero, 0) := by
  unfold happM at h ⊢
  rw [if_neg (by omega), if_neg (by omega), if_neg (by omega), if_pos hs] at h ⊢
  unfold repeatM at h ⊢
  by_cases h1 : lookM n (m.place n) = 0
  · rw [if_pos h1] at h ⊢
    obtain ⟨p, p1, p2, p3⟩ := look_at h1
    rw [p2] at h ⊢
    obtain ⟨q1, q2, q3⟩ := send_got h
    exact ⟨p, q1, q2, List.mem_of_getElem? p1, by rw [q3]⟩
  · rw [if_neg h1] at h; exact absurd h h1
theorem step4 {n : Net} {m : Mv} (hs : m.sort = 4) (h : (happM n m).2.2 = 0) : ∃ q : Pair, happM n m = (⟨n.queue, targ n.apart q true⟩, Pkt.zero, 0) := by
  unfold happM at h ⊢
  rw [if_neg (by omega), if_neg (by omega), if_neg (by omega), if_neg (by omega), if_pos hs] at h ⊢
  exact ⟨_, by rw [cut_got h]⟩
theorem step5 {n : Net} {m : Mv} (hs : m.sort = 5) (h : (happM n m).2.2 = 0) : ∃ q : Pair, happM n m = (⟨n.queue, targ n.apart q false⟩, Pkt.zero, 0) := by
  unfold happM at h ⊢
  rw [if_neg (by omega), if_neg (by omega), if_neg (by omega), if_neg (by omega), if_neg (by omega)] at h ⊢
  exact ⟨_, by rw [cut_got h]⟩
theorem Way.fw {i : Nat} {n : Net} {S : List Pkt} {c : Nat} (h : Way i n S c) (hi : i ≤ 60) : Fw n := ⟨by have := h.q; omega, h.a⟩
theorem Way.add {i : Nat} {n : Net} {S S' : List Pkt} {c : Nat} {p : Pkt} (h : Way i n S c) (hp : p.ok) (hl : n.queue.length < 4096) (hS : S'.length ≤ i + 1) (hm : p ∈ S') (hi : ∀ q ∈ S, q ∈ S') : Way (i + 1) ⟨n.queue ++ [p], n.apart⟩ S' c :=
  ⟨(send_ok h.ok hp hl).2, by have := h.q; simp; omega, h.a, hS, fun q hq => by
    rcases List.mem_append.1 hq with hq | hq
    · exact hi q (h.sent q hq)
    · rw [List.mem_singleton.1 hq]; exact hm, h.cut, by have := h.c; omega⟩
theorem Way.less {i : Nat} {n : Net} {S : List Pkt} {c : Nat} (h : Way i n S c) (k : Nat) : Way (i + 1) (n.cutAt k) S c :=
  ⟨cut_ok h.ok k, by have := h.q; simp only [Net.cutAt, List.length_append, List.length_take, List.length_drop]; omega, h.a, by have := h.s; omega, fun q hq => by
    simp only [Net.cutAt, List.mem_append] at hq
    rcases hq with hq | hq
    · exact h.sent q (List.mem_of_mem_take hq)
    · exact h.sent q (List.mem_of_mem_drop hq), h.cut, by have := h.c; omega⟩
theorem Way.link {i : Nat} {n : Net} {S : List Pkt} {c c' : Nat} (h : Way i n S c) (q : Pair) (on : Bool) (hc : c ≤ c' ∧ c' ≤ c + 1) (ho : on = true → 0 < c') : Way (i + 1) ⟨n.queue, targ n.apart q on⟩ S c' :=
  ⟨⟨h.ok.len, h.ok.pk, fun x hx => ((targ_mem _ _ _ _).1 hx).1, pair_chain _ (targ_sorted _ _ _)⟩, by have := h.q; simp only; omega, Nat.le_trans (List.length_filter_le _ _) (Nat.le_of_eq allP_len), by have := h.s; omega, h.sent, fun hne => by
    cases on with
    | true => exact ho rfl
    | false =>
      have : n.apart ≠ [] := fun e => hne (by
        rw [List.eq_nil_iff_forall_not_mem]
        intro x hx
        have := ((targ_mem _ _ _ _).1 hx).2
        split at this
        · cases this
        · rw [e] at this; cases this)
      have := h.cut this
      omega, by have := h.c; omega⟩
theorem Way.skip {i : Nat} {n : Net} {S : List Pkt} {c : Nat} (h : Way i n S c) : Way (i + 1) n S c := ⟨h.ok, by have := h.q; omega, h.a, by have := h.s; omega, h.sent, h.cut, by have := h.c; omega⟩
theorem law46_OnlySent (l : List Mv) (hl : l.length < 2 ^ 63) : CallP Try.prog 7 [.d (SL 5 (l.map Mv.d))] (retD [.b true]) := by
  by_cases h60 : l.length ≤ 60
  · refine exPure_sound (E := envOf Try.prog tt Try.f7.ntmps) (envOf_ok ttok mixed) Try.func7 (by rfl) rfl rfl (Nat.le_of_ble_eq_true rfl) ?_
    repeat' ((conv => whnf); first | with_reducible refine Dec.t (show true = true from rfl) ?_ | with_reducible refine Dec.t (show false = false from rfl) ?_ | with_reducible refine Dec.f (show ¬ (true = false) by decide) ?_ | with_reducible refine Dec.f (show ¬ (false = true) by decide) ?_ | refine Dec.t (by omega) ?_ | refine Dec.f (by omega) ?_ | refine Dec.split (fun _ => ?_) (fun _ => ?_) | refine Wr.id (by omega) ?_ | refine Chk.mk (by first | omega | exact rfl | (simp only [List.length_map]; omega) | (simp [room]; done) | (simp [room]; omega) | (simp [dropL, room]; done) | (simp [dropL, room]; omega)) ?_ | refine Nam.mk (List.length_map _) ?_ | refine Prep.skip ?_ | refine Eith.l ?_ | refine chk_t (x := D.flat _) (by assumption) ?_ | refine br_mk (fun _ => ?_) (fun _ => ?_) | refine ACall.of (law46_sane) ?_ | refine APCall.of (law46_sane) ?_ | refine ACall.of (net_New) ?_ | refine APCall.of (net_New) ?_ | fail)
    all_goals first | (exfalso; omega) | skip
    all_goals (conv => whnf)
    refine ALoop.virt 4 0 3 false (by decide) rfl ?_
    conv => whnf
    refine ALoop.at (E := envOf Try.prog tt Try.f7.ntmps) (envOf_ok ttok mixed) (X := XO) (fun x => [(6, .d (I x.i)), (5, .d (I x.cuts)), (4, .sref 1 x.vr 0 x.S.length false)]) (fun x => [(0, .vard [SL 3 (x.n.queue.map Pkt.d), SL 2 (x.n.apart.map Pair.d)]), (1, .row x.vr 3 false x.dp)])
      (fun x => x.i ≤ l.length ∧ Way x.i x.n x.S x.cuts ∧ x.dp = x.S.map Pkt.d) (fun x => l.length - x.i) ⟨0, Net.zero, [], 0, [], 0⟩ (by repeat (first | exact trivial | refine And.intro rfl ?_ | refine And.intro (congrArg (fun n => V.d (I n)) (wrap_nat _ (by omega))) ?_)) rfl ⟨Nat.zero_le _, ⟨zero_ok, Nat.le_refl _, by decide, Nat.le_refl _, by simp [Net.zero], fun h => absurd rfl h, Nat.le_refl _⟩, rfl⟩ ?_
    rintro ⟨i, n, S, vr, dp, cuts⟩ ⟨hi, W, hdp⟩
    simp only at hi W hdp
    dsimp only
    have hdl : dp.length = S.length := by rw [hdp, List.length_map]
    have hSl := W.s
    have hcl := W.c
    by_cases hlt : i < l.length
    · obtain ⟨m, hx, _⟩ := drop_get hlt
      have hfw := W.fw (by omega)
      have hH := law46_happens n m hfw
      have hC := net_Check n hfw.wid
      rw [check_ok W.ok] at hC
      by_cases he : (happM n m).2.2 = 0
      · rcases sort_case m with hs | hs | hs | hs | hs | hs
        · obtain ⟨p, p1, p2, p3⟩ := step0 hs he
          rw [p3] at hH
          have hs' : (m.kind.toNat : Int).tmod 6 = 0 := hs
          have W' := W.add (S' := S ++ [p]) p1 p2 (by simp; omega) (by simp) (fun q hq => by simp [hq])
          have hD := net_Check _ (W'.fw (by omega)).wid
          rw [check_ok W'.ok] at hD
          have hqb := hfw.q
          dsimp only at hH
          generalize hN : (⟨n.queue ++ [p], n.apart⟩ : Net) = N' at hH hD W'
          have hNq : N'.queue = n.queue ++ [p] := by rw [← hN]
          have hNl : N'.queue.length = n.queue.length + 1 := by rw [hNq]; simp
          have hk : (N'.queue.map Pkt.d)[((N'.queue.length : Int) - 1).toNat]? = some p.d := by
            rw [show ((N'.queue.length : Int) - 1).toNat = n.queue.length by omega, List.getElem?_map, hNq]
            simp
          repeat' ((conv => whnf); first | refine Dec.t hs' ?_ | refine Dec.f (by rw [hs']; decide) ?_ | with_reducible refine Dec.t (show true = true from rfl) ?_ | with_reducible refine Dec.t (show false = false from rfl) ?_ | with_reducible refine Dec.f (show ¬ (true = false) by decide) ?_ | with_reducible refine Dec.f (show ¬ (false = true) by decide) ?_ | refine Dec.t (by omega) ?_ | refine Dec.f (by omega) ?_ | refine Dec.split (fun _ => ?_) (fun _ => ?_) | refine Wr.id (by omega) ?_ | refine Chk.mk (by first | omega | exact rfl | (simp only [List.length_map]; omega) | (simp [room]; done) | (simp [room]; omega) | (simp [dropL, room]; done) | (simp [dropL, room]; omega)) ?_ | refine Nam.mk (List.length_map _) ?_ | refine Prep.skip ?_ | refine Eith.l ?_ | refine chk_t (x := D.flat _) (by assumption) ?_ | refine br_mk (fun _ => ?_) (fun _ => ?_) | refine nthK_mk (map_get hx) ?_ | refine ACall.of (hH) ?_ | refine APCall.of (hH) ?_ | refine ACall.of (hD) ?_ | refine APCall.of (hD) ?_ | refine nthK_mk hk ?_ | refine Chk.mk ⟨rfl, by omega, by simp only [room, List.length_singleton]; omega⟩ ?_ | fail)
          all_goals first | (exfalso; omega) | skip
          all_goals (conv => whnf)
          all_goals first | exact ⟨⟨i + 1, N', S ++ [p], vr + 1, dp ++ [p.d], cuts⟩, Wm.end (by repeat (first | exact trivial | refine And.intro rfl ?_ | refine And.intro (congrArg (fun k => V.sref 1 (vr + 1) 0 k false) (by simp)) ?_)) rfl rfl rfl, ⟨hlt, W', by simp only [List.map_append]; rw [hdp]; rfl⟩, by simp only; omega⟩
        · obtain ⟨k, g, p3, hg⟩ := step1 hs he
          rw [p3] at hH
          have hs' : (m.kind.toNat : Int).tmod 6 = 1 := hs
          have W' := W.less k
          have hD := net_Check _ (W'.fw (by omega)).wid
          rw [check_ok W'.ok] at hD
          dsimp only at hH
          generalize hN : n.cutAt k = N' at hH hD W'
          have hZ : CallP Try.prog 19 [.d g.d, .d (.agg [I 0, I 0, .sl 0 true []])] (retD [.b (decide (g = Pkt.zero))]) := by
            refine CallP.le ?_ (ref46_SamePacket g Pkt.zero)
            exact ⟨VLe.refl _, VLe.d pkt0, rfl⟩
          repeat' ((conv => whnf); first | refine Dec.t hs' ?_ | refine Dec.f (by rw [hs']; decide) ?_ | with_reducible refine Dec.t (show true = true from rfl) ?_ | with_reducible refine Dec.t (show false = false from rfl) ?_ | with_reducible refine Dec.f (show ¬ (true = false) by decide) ?_ | with_reducible refine Dec.f (show ¬ (false = true) by decide) ?_ | refine Dec.t (by omega) ?_ | refine Dec.f (by omega) ?_ | refine Dec.split (fun _ => ?_) (fun _ => ?_) | refine Wr.id (by omega) ?_ | refine Chk.mk (by first | omega | exact rfl | (simp only [List.length_map]; omega) | (simp [room]; done) | (simp [room]; omega) | (simp [dropL, room]; done) | (simp [dropL, room]; omega)) ?_ | refine Nam.mk (List.length_map _) ?_ | refine Prep.skip ?_ | refine Eith.l ?_ | refine chk_t (x := D.flat _) (by assumption) ?_ | refine br_mk (fun _ => ?_) (fun _ => ?_) | refine nthK_mk (map_get hx) ?_ | refine ACall.of (hH) ?_ | refine APCall.of (hH) ?_ | refine ACall.of (hD) ?_ | refine APCall.of (hD) ?_ | refine ACall.ofB (hZ) (fun _ => ?_) (fun _ => ?_) | refine APCall.ofB (hZ) (fun _ => ?_) (fun _ => ?_) | fail)
          all_goals first | (exfalso; omega) | skip
          all_goals (conv => whnf)
          · rename_i z1 z2
            have h0 : g = Pkt.zero ∧ 0 < cuts := ⟨of_decide_eq_true z1, by omega⟩
            refine ALoop.at (E := envOf Try.prog tt Try.f7.ntmps) (envOf_ok ttok mixed) (X := Nat × Bool) (fun x => [(11, .d (I x.1)), (10, .d (.b x.2))]) (fun _ => []) (fun x => x.1 ≤ S.length ∧ (x.2 = true ↔ ((g = Pkt.zero ∧ 0 < cuts) ∨ g ∈ S.take x.1))) (fun x => S.length - x.1) (0, true) (by repeat (first | exact trivial | refine And.intro rfl ?_ | refine And.intro (congrArg (fun n => V.d (I n)) (wrap_nat _ (by omega))) ?_)) rfl ⟨Nat.zero_le _, by simp only [List.take_zero, List.not_mem_nil, or_false]; simp [h0]⟩ ?_
            rintro ⟨j, v⟩ ⟨hj, hv⟩
            simp only at hj hv
            dsimp only
            by_cases hlj : j < S.length
            · obtain ⟨p, hp, _⟩ := drop_get hlj
              have hpk : dp[0 + ((j : Nat) : Int).toNat]? = some p.d := by rw [Nat.zero_add, Int.toNat_natCast, hdp, List.getElem?_map, hp]; rfl
              have hP := ref46_SamePacket p g
              have hst : g ∈ S.take (j + 1) ↔ g ∈ S.take j ∨ g = p := by rw [List.take_add_one, hp, List.mem_append]; simp
              cases v with
              | true =>
                repeat' ((conv => whnf); first | with_reducible refine Dec.t (show true = true from rfl) ?_ | with_reducible refine Dec.t (show false = false from rfl) ?_ | with_reducible refine Dec.f (show ¬ (true = false) by decide) ?_ | with_reducible refine Dec.f (show ¬ (false = true) by decide) ?_ | refine Dec.t (by omega) ?_ | refine Dec.f (by omega) ?_ | refine Dec.split (fun _ => ?_) (fun _ => ?_) | refine Wr.id (by omega) ?_ | refine Chk.mk (by first | omega | exact rfl | (simp only [List.length_map]; omega) | (simp [room]; done) | (simp [room]; omega) | (simp [dropL, room]; done) | (simp [dropL, room]; omega)) ?_ | refine Nam.mk (List.length_map _) ?_ | refine Prep.skip ?_ | refine Eith.l ?_ | refine chk_t (x := D.flat _) (by assumption) ?_ | refine br_mk (fun _ => ?_) (fun _ => ?_) | refine nthK_mk hpk ?_ | refine ACall.ofB (hP) (fun _ => ?_) (fun _ => ?_) | refine APCall.ofB (hP) (fun _ => ?_) (fun _ => ?_) | fail)
                all_goals first | (exfalso; omega) | skip
                all_goals (conv => whnf)
                all_goals first | exact ⟨(j + 1, true), Wm.end (by repeat (first | exact trivial | refine And.intro rfl ?_ | refine And.intro (congrArg (fun n => V.d (I n)) (wrap_nat _ (by omega))) ?_)) rfl rfl rfl, ⟨hlj, ⟨fun _ => (hv.1 rfl).imp id (fun h => hst.2 (.inl h)), fun _ => rfl⟩⟩, by simp only; omega⟩
              | false =>
                have hn : ¬ ((g = Pkt.zero ∧ 0 < cuts) ∨ g ∈ S.take j) := fun h => by cases hv.2 h
                repeat' ((conv => whnf); first | with_reducible refine Dec.t (show true = true from rfl) ?_ | with_reducible refine Dec.t (show false = false from rfl) ?_ | with_reducible refine Dec.f (show ¬ (true = false) by decide) ?_ | with_reducible refine Dec.f (show ¬ (false = true) by decide) ?_ | refine Dec.t (by omega) ?_ | refine Dec.f (by omega) ?_ | refine Dec.split (fun _ => ?_) (fun _ => ?_) | refine Wr.id (by omega) ?_ | refine Chk.mk (by first | omega | exact rfl | (simp only [List.length_map]; omega) | (simp [room]; done) | (simp [room]; omega) | (simp [dropL, room]; done) | (simp [dropL, room]; omega)) ?_ | refine Nam.mk (List.length_map _) ?_ | refine Prep.skip ?_ | refine Eith.l ?_ | refine chk_t (x := D.flat _) (by assumption) ?_ | refine br_mk (fun _ => ?_) (fun _ => ?_) | refine nthK_mk hpk ?_ | refine ACall.ofB (hP) (fun _ => ?_) (fun _ => ?_) | refine APCall.ofB (hP) (fun _ => ?_) (fun _ => ?_) | fail)
                all_goals first | (exfalso; omega) | skip
                all_goals (conv => whnf)
                all_goals try simp only [decide_eq_true_eq, decide_eq_false_iff_not] at *
                all_goals first
                  | (have e : p = g := by assumption
                     exact ⟨(j + 1, true), Wm.end (by repeat (first | exact trivial | refine And.intro rfl ?_ | refine And.intro (congrArg (fun n => V.d (I n)) (wrap_nat _ (by omega))) ?_)) rfl rfl rfl, ⟨hlj, ⟨fun _ => .inr (hst.2 (.inr e.symm)), fun _ => rfl⟩⟩, by simp only; omega⟩)
                  | (have e : ¬ p = g := by assumption
                     exact ⟨(j + 1, false), Wm.end (by repeat (first | exact trivial | refine And.intro rfl ?_ | refine And.intro (congrArg (fun n => V.d (I n)) (wrap_nat _ (by omega))) ?_)) rfl rfl rfl, ⟨hlj, ⟨fun h => (by cases h), fun h => by
                       rcases h with h | h
                       · exact absurd (.inl h) hn
                       · rcases hst.1 h with h | h
                         · exact absurd (.inr h) hn
                         · exact absurd h.symm e⟩⟩, by simp only; omega⟩)
            · have : j = S.length := by omega
              subst this
              rw [List.take_length] at hv
              have hv : v = true := hv.2 (by
                rcases hg with ⟨h1, h2⟩ | h
                · exact .inl ⟨h1, W.cut h2⟩
                · exact .inr (W.sent g h))
              subst hv
              repeat' ((conv => whnf); first | with_reducible refine Dec.t (show true = true from rfl) ?_ | with_reducible refine Dec.t (show false = false from rfl) ?_ | with_reducible refine Dec.f (show ¬ (true = false) by decide) ?_ | with_reducible refine Dec.f (show ¬ (false = true) by decide) ?_ | refine Dec.t (by omega) ?_ | refine Dec.f (by omega) ?_ | refine Dec.split (fun _ => ?_) (fun _ => ?_) | refine Wr.id (by omega) ?_ | refine Chk.mk (by first | omega | exact rfl | (simp only [List.length_map]; omega) | (simp [room]; done) | (simp [room]; omega) | (simp [dropL, room]; done) | (simp [dropL, room]; omega)) ?_ | refine Nam.mk (List.length_map _) ?_ | refine Prep.skip ?_ | refine Eith.l ?_ | refine chk_t (x := D.flat _) (by assumption) ?_ | refine br_mk (fun _ => ?_) (fun _ => ?_) | refine ACall.of (hD) ?_ | refine APCall.of (hD) ?_ | fail)
              all_goals first | (exfalso; omega) | skip
              all_goals (conv => whnf)
              all_goals first | exact ⟨⟨i + 1, N', S, vr, dp, cuts⟩, Wm.end (by repeat (first | exact trivial | refine And.intro rfl ?_ | refine And.intro (congrArg (fun n => V.d (I n)) (wrap_nat _ (by omega))) ?_)) rfl rfl rfl, ⟨hlt, W', hdp⟩, by simp only; omega⟩
          · rename_i z1 z2
            have h0 : ¬ (g = Pkt.zero ∧ 0 < cuts) := fun h => by omega
            refine ALoop.at (E := envOf Try.prog tt Try.f7.ntmps) (envOf_ok ttok mixed) (X := Nat × Bool) (fun x => [(11, .d (I x.1)), (10, .d (.b x.2))]) (fun _ => []) (fun x => x.1 ≤ S.length ∧ (x.2 = true ↔ ((g = Pkt.zero ∧ 0 < cuts) ∨ g ∈ S.take x.1))) (fun x => S.length - x.1) (0, false) (by repeat (first | exact trivial | refine And.intro rfl ?_ | refine And.intro (congrArg (fun n => V.d (I n)) (wrap_nat _ (by omega))) ?_)) rfl ⟨Nat.zero_le _, by simp only [List.take_zero, List.not_mem_nil, or_false]; simp [h0]⟩ ?_
            rintro ⟨j, v⟩ ⟨hj, hv⟩
            simp only at hj hv
            dsimp only
            by_cases hlj : j < S.length
            · obtain ⟨p, hp, _⟩ := drop_get hlj
              have hpk : dp[0 + ((j : Nat) : Int).toNat]? = some p.d := by rw [Nat.zero_add, Int.toNat_natCast, hdp, List.getElem?_map, hp]; rfl
              have hP := ref46_SamePacket p g
              have hst : g ∈ S.take (j + 1) ↔ g ∈ S.take j ∨ g = p := by rw [List.take_add_one, hp, List.mem_append]; simp
              cases v with
              | true =>
                repeat' ((conv => whnf); first | with_reducible refine Dec.t (show true = true from rfl) ?_ | with_reducible refine Dec.t (show false = false from rfl) ?_ | with_reducible refine Dec.f (show ¬ (true = false) by decide) ?_ | with_reducible refine Dec.f (show ¬ (false = true) by decide) ?_ | refine Dec.t (by omega) ?_ | refine Dec.f (by omega) ?_ | refine Dec.split (fun _ => ?_) (fun _ => ?_) | refine Wr.id (by omega) ?_ | refine Chk.mk (by first | omega | exact rfl | (simp only [List.length_map]; omega) | (simp [room]; done) | (simp [room]; omega) | (simp [dropL, room]; done) | (simp [dropL, room]; omega)) ?_ | refine Nam.mk (List.length_map _) ?_ | refine Prep.skip ?_ | refine Eith.l ?_ | refine chk_t (x := D.flat _) (by assumption) ?_ | refine br_mk (fun _ => ?_) (fun _ => ?_) | refine nthK_mk hpk ?_ | refine ACall.ofB (hP) (fun _ => ?_) (fun _ => ?_) | refine APCall.ofB (hP) (fun _ => ?_) (fun _ => ?_) | fail)
                all_goals first | (exfalso; omega) | skip
                all_goals (conv => whnf)
                all_goals first | exact ⟨(j + 1, true), Wm.end (by repeat (first | exact trivial | refine And.intro rfl ?_ | refine And.intro (congrArg (fun n => V.d (I n)) (wrap_nat _ (by omega))) ?_)) rfl rfl rfl, ⟨hlj, ⟨fun _ => (hv.1 rfl).imp id (fun h => hst.2 (.inl h)), fun _ => rfl⟩⟩, by simp only; omega⟩
              | false =>
                have hn : ¬ ((g = Pkt.zero ∧ 0 < cuts) ∨ g ∈ S.take j) := fun h => by cases hv.2 h
                repeat' ((conv => whnf); first | with_reducible refine Dec.t (show true = true from rfl) ?_ | with_reducible refine Dec.t (show false = false from rfl) ?_ | with_reducible refine Dec.f (show ¬ (true = false) by decide) ?_ | with_reducible refine Dec.f (show ¬ (false = true) by decide) ?_ | refine Dec.t (by omega) ?_ | refine Dec.f (by omega) ?_ | refine Dec.split (fun _ => ?_) (fun _ => ?_) | refine Wr.id (by omega) ?_ | refine Chk.mk (by first | omega | exact rfl | (simp only [List.length_map]; omega) | (simp [room]; done) | (simp [room]; omega) | (simp [dropL, room]; done) | (simp [dropL, room]; omega)) ?_ | refine Nam.mk (List.length_map _) ?_ | refine Prep.skip ?_ | refine Eith.l ?_ | refine chk_t (x := D.flat _) (by assumption) ?_ | refine br_mk (fun _ => ?_) (fun _ => ?_) | refine nthK_mk hpk ?_ | refine ACall.ofB (hP) (fun _ => ?_) (fun _ => ?_) | refine APCall.ofB (hP) (fun _ => ?_) (fun _ => ?_) | fail)
                all_goals first | (exfalso; omega) | skip
                all_goals (conv => whnf)
                all_goals try simp only [decide_eq_true_eq, decide_eq_false_iff_not] at *
                all_goals first
                  | (have e : p = g := by assumption
                     exact ⟨(j + 1, true), Wm.end (by repeat (first | exact trivial | refine And.intro rfl ?_ | refine And.intro (congrArg (fun n => V.d (I n)) (wrap_nat _ (by omega))) ?_)) rfl rfl rfl, ⟨hlj, ⟨fun _ => .inr (hst.2 (.inr e.symm)), fun _ => rfl⟩⟩, by simp only; omega⟩)
                  | (have e : ¬ p = g := by assumption
                     exact ⟨(j + 1, false), Wm.end (by repeat (first | exact trivial | refine And.intro rfl ?_ | refine And.intro (congrArg (fun n => V.d (I n)) (wrap_nat _ (by omega))) ?_)) rfl rfl rfl, ⟨hlj, ⟨fun h => (by cases h), fun h => by
                       rcases h with h | h
                       · exact absurd (.inl h) hn
                       · rcases hst.1 h with h | h
                         · exact absurd (.inr h) hn
                         · exact absurd h.symm e⟩⟩, by simp only; omega⟩)
            · have : j = S.length := by omega
              subst this
              rw [List.take_length] at hv
              have hv : v = true := hv.2 (by
                rcases hg with ⟨h1, h2⟩ | h
                · exact .inl ⟨h1, W.cut h2⟩
                · exact .inr (W.sent g h))
              subst hv
              repeat' ((conv => whnf); first | with_reducible refine Dec.t (show true = true from rfl) ?_ | with_reducible refine Dec.t (show false = false from rfl) ?_ | with_reducible refine Dec.f (show ¬ (true = false) by decide) ?_ | with_reducible refine Dec.f (show ¬ (false = true) by decide) ?_ | refine Dec.t (by omega) ?_ | refine Dec.f (by omega) ?_ | refine Dec.split (fun _ => ?_) (fun _ => ?_) | refine Wr.id (by omega) ?_ | refine Chk.mk (by first | omega | exact rfl | (simp only [List.length_map]; omega) | (simp [room]; done) | (simp [room]; omega) | (simp [dropL, room]; done) | (simp [dropL, room]; omega)) ?_ | refine Nam.mk (List.length_map _) ?_ | refine Prep.skip ?_ | refine Eith.l ?_ | refine chk_t (x := D.flat _) (by assumption) ?_ | refine br_mk (fun _ => ?_) (fun _ => ?_) | refine ACall.of (hD) ?_ | refine APCall.of (hD) ?_ | fail)
              all_goals first | (exfalso; omega) | skip
              all_goals (conv => whnf)
              all_goals first | exact ⟨⟨i + 1, N', S, vr, dp, cuts⟩, Wm.end (by repeat (first | exact trivial | refine And.intro rfl ?_ | refine And.intro (congrArg (fun n => V.d (I n)) (wrap_nat _ (by omega))) ?_)) rfl rfl rfl, ⟨hlt, W', hdp⟩, by simp only; omega⟩
          · rename_i z1 z2
            have h0 : ¬ (g = Pkt.zero ∧ 0 < cuts) := fun h => of_decide_eq_false z2 h.1
            refine ALoop.at (E := envOf Try.prog tt Try.f7.ntmps) (envOf_ok ttok mixed) (X := Nat × Bool) (fun x => [(11, .d (I x.1)), (10, .d (.b x.2))]) (fun _ => []) (fun x => x.1 ≤ S.length ∧ (x.2 = true ↔ ((g = Pkt.zero ∧ 0 < cuts) ∨ g ∈ S.take x.1))) (fun x => S.length - x.1) (0, false) (by repeat (first | exact trivial | refine And.intro rfl ?_ | refine And.intro (congrArg (fun n => V.d (I n)) (wrap_nat _ (by omega))) ?_)) rfl ⟨Nat.zero_le _, by simp only [List.take_zero, List.not_mem_nil, or_false]; simp [h0]⟩ ?_
            rintro ⟨j, v⟩ ⟨hj, hv⟩
            simp only at hj hv
            dsimp only
            by_cases hlj : j < S.length
            · obtain ⟨p, hp, _⟩ := drop_get hlj
              have hpk : dp[0 + ((j : Nat) : Int).toNat]? = some p.d := by rw [Nat.zero_add, Int.toNat_natCast, hdp, List.getElem?_map, hp]; rfl
              have hP := ref46_SamePacket p g
              have hst : g ∈ S.take (j + 1) ↔ g ∈ S.take j ∨ g = p := by rw [List.take_add_one, hp, List.mem_append]; simp
              cases v with
              | true =>
                repeat' ((conv => whnf); first | with_reducible refine Dec.t (show true = true from rfl) ?_ | with_reducible refine Dec.t (show false = false from rfl) ?_ | with_reducible refine Dec.f (show ¬ (true = false) by decide) ?_ | with_reducible refine Dec.f (show ¬ (false = true) by decide) ?_ | refine Dec.t (by omega) ?_ | refine Dec.f (by omega) ?_ | refine Dec.split (fun _ => ?_) (fun _ => ?_) | refine Wr.id (by omega) ?_ | refine Chk.mk (by first | omega | exact rfl | (simp only [List.length_map]; omega) | (simp [room]; done) | (simp [room]; omega) | (simp [dropL, room]; done) | (simp [dropL, room]; omega)) ?_ | refine Nam.mk (List.length_map _) ?_ | refine Prep.skip ?_ | refine Eith.l ?_ | refine chk_t (x := D.flat _) (by assumption) ?_ | refine br_mk (fun _ => ?_) (fun _ => ?_) | refine nthK_mk hpk ?_ | refine ACall.ofB (hP) (fun _ => ?_) (fun _ => ?_) | refine APCall.ofB (hP) (fun _ => ?_) (fun _ => ?_) | fail)
                all_goals first | (exfalso; omega) | skip
                all_goals (conv => whnf)
                all_goals first | exact ⟨(j + 1, true), Wm.end (by repeat (first | exact trivial | refine And.intro rfl ?_ | refine And.intro (congrArg (fun n => V.d (I n)) (wrap_nat _ (by omega))) ?_)) rfl rfl rfl, ⟨hlj, ⟨fun _ => (hv.1 rfl).imp id (fun h => hst.2 (.inl h)), fun _ => rfl⟩⟩, by simp only; omega⟩
              | false =>
                have hn : ¬ ((g = Pkt.zero ∧ 0 < cuts) ∨ g ∈ S.take j) := fun h => by cases hv.2 h
                repeat' ((conv => whnf); first | with_reducible refine Dec.t (show true = true from rfl) ?_ | with_reducible refine Dec.t (show false = false from rfl) ?_ | with_reducible refine Dec.f (show ¬ (true = false) by decide) ?_ | with_reducible refine Dec.f (show ¬ (false = true) by decide) ?_ | refine Dec.t (by omega) ?_ | refine Dec.f (by omega) ?_ | refine Dec.split (fun _ => ?_) (fun _ => ?_) | refine Wr.id (by omega) ?_ | refine Chk.mk (by first | omega | exact rfl | (simp only [List.length_map]; omega) | (simp [room]; done) | (simp [room]; omega) | (simp [dropL, room]; done) | (simp [dropL, room]; omega)) ?_ | refine Nam.mk (List.length_map _) ?_ | refine Prep.skip ?_ | refine Eith.l ?_ | refine chk_t (x := D.flat _) (by assumption) ?_ | refine br_mk (fun _ => ?_) (fun _ => ?_) | refine nthK_mk hpk ?_ | refine ACall.ofB (hP) (fun _ => ?_) (fun _ => ?_) | refine APCall.ofB (hP) (fun _ => ?_) (fun _ => ?_) | fail)
                all_goals first | (exfalso; omega) | skip
                all_goals (conv => whnf)
                all_goals try simp only [decide_eq_true_eq, decide_eq_false_iff_not] at *
                all_goals first
                  | (have e : p = g := by assumption
                     exact ⟨(j + 1, true), Wm.end (by repeat (first | exact trivial | refine And.intro rfl ?_ | refine And.intro (congrArg (fun n => V.d (I n)) (wrap_nat _ (by omega))) ?_)) rfl rfl rfl, ⟨hlj, ⟨fun _ => .inr (hst.2 (.inr e.symm)), fun _ => rfl⟩⟩, by simp only; omega⟩)
                  | (have e : ¬ p = g := by assumption
                     exact ⟨(j + 1, false), Wm.end (by repeat (first | exact trivial | refine And.intro rfl ?_ | refine And.intro (congrArg (fun n => V.d (I n)) (wrap_nat _ (by omega))) ?_)) rfl rfl rfl, ⟨hlj, ⟨fun h => (by cases h), fun h => by
                       rcases h with h | h
                       · exact absurd (.inl h) hn
                       · rcases hst.1 h with h | h
                         · exact absurd (.inr h) hn
                         · exact absurd h.symm e⟩⟩, by simp only; omega⟩)
            · have : j = S.length := by omega
              subst this
              rw [List.take_length] at hv
              have hv : v = true := hv.2 (by
                rcases hg with ⟨h1, h2⟩ | h
                · exact .inl ⟨h1, W.cut h2⟩
                · exact .inr (W.sent g h))
              subst hv
              repeat' ((conv => whnf); first | with_reducible refine Dec.t (show true = true from rfl) ?_ | with_reducible refine Dec.t (show false = false from rfl) ?_ | with_reducible refine Dec.f (show ¬ (true = false) by decide) ?_ | with_reducible refine Dec.f (show ¬ (false = true) by decide) ?_ | refine Dec.t (by omega) ?_ | refine Dec.f (by omega) ?_ | refine Dec.split (fun _ => ?_) (fun _ => ?_) | refine Wr.id (by omega) ?_ | refine Chk.mk (by first | omega | exact rfl | (simp only [List.length_map]; omega) | (simp [room]; done) | (simp [room]; omega) | (simp [dropL, room]; done) | (simp [dropL, room]; omega)) ?_ | refine Nam.mk (List.length_map _) ?_ | refine Prep.skip ?_ | refine Eith.l ?_ | refine chk_t (x := D.flat _) (by assumption) ?_ | refine br_mk (fun _ => ?_) (fun _ => ?_) | refine ACall.of (hD) ?_ | refine APCall.of (hD) ?_ | fail)
              all_goals first | (exfalso; omega) | skip
              all_goals (conv => whnf)
              all_goals first | exact ⟨⟨i + 1, N', S, vr, dp, cuts⟩, Wm.end (by repeat (first | exact trivial | refine And.intro rfl ?_ | refine And.intro (congrArg (fun n => V.d (I n)) (wrap_nat _ (by omega))) ?_)) rfl rfl rfl, ⟨hlt, W', hdp⟩, by simp only; omega⟩
        · obtain ⟨k, p3⟩ := step2 hs he
          rw [p3] at hH
          have hs' : (m.kind.toNat : Int).tmod 6 = 2 := hs
          have W' := W.less k
          have hD := net_Check _ (W'.fw (by omega)).wid
          rw [check_ok W'.ok] at hD
          dsimp only at hH
          generalize hN : n.cutAt k = N' at hH hD W'
          repeat' ((conv => whnf); first | refine Dec.t hs' ?_ | refine Dec.f (by rw [hs']; decide) ?_ | with_reducible refine Dec.t (show true = true from rfl) ?_ | with_reducible refine Dec.t (show false = false from rfl) ?_ | with_reducible refine Dec.f (show ¬ (true = false) by decide) ?_ | with_reducible refine Dec.f (show ¬ (false = true) by decide) ?_ | refine Dec.t (by omega) ?_ | refine Dec.f (by omega) ?_ | refine Dec.split (fun _ => ?_) (fun _ => ?_) | refine Wr.id (by omega) ?_ | refine Chk.mk (by first | omega | exact rfl | (simp only [List.length_map]; omega) | (simp [room]; done) | (simp [room]; omega) | (simp [dropL, room]; done) | (simp [dropL, room]; omega)) ?_ | refine Nam.mk (List.length_map _) ?_ | refine Prep.skip ?_ | refine Eith.l ?_ | refine chk_t (x := D.flat _) (by assumption) ?_ | refine br_mk (fun _ => ?_) (fun _ => ?_) | refine nthK_mk (map_get hx) ?_ | refine ACall.of (hH) ?_ | refine APCall.of (hH) ?_ | refine ACall.of (hD) ?_ | refine APCall.of (hD) ?_ | fail)
          all_goals first | (exfalso; omega) | skip
          all_goals (conv => whnf)
          all_goals first | exact ⟨⟨i + 1, N', S, vr, dp, cuts⟩, Wm.end (by repeat (first | exact trivial | refine And.intro rfl ?_ | refine And.intro (congrArg (fun n => V.d (I n)) (wrap_nat _ (by omega))) ?_)) rfl rfl rfl, ⟨hlt, W', hdp⟩, by simp only; omega⟩
        · obtain ⟨p, p1, p2, p4, p3⟩ := step3 hs he
          rw [p3] at hH
          have hs' : (m.kind.toNat : Int).tmod 6 = 3 := hs
          have W' := W.add (S' := S) p1 p2 (by omega) (W.sent p p4) (fun q hq => hq)
          have hD := net_Check _ (W'.fw (by omega)).wid
          rw [check_ok W'.ok] at hD
          dsimp only at hH
          generalize hN : (⟨n.queue ++ [p], n.apart⟩ : Net) = N' at hH hD W'
          repeat' ((conv => whnf); first | refine Dec.t hs' ?_ | refine Dec.f (by rw [hs']; decide) ?_ | with_reducible refine Dec.t (show true = true from rfl) ?_ | with_reducible refine Dec.t (show false = false from rfl) ?_ | with_reducible refine Dec.f (show ¬ (true = false) by decide) ?_ | with_reducible refine Dec.f (show ¬ (false = true) by decide) ?_ | refine Dec.t (by omega) ?_ | refine Dec.f (by omega) ?_ | refine Dec.split (fun _ => ?_) (fun _ => ?_) | refine Wr.id (by omega) ?_ | refine Chk.mk (by first | omega | exact rfl | (simp only [List.length_map]; omega) | (simp [room]; done) | (simp [room]; omega) | (simp [dropL, room]; done) | (simp [dropL, room]; omega)) ?_ | refine Nam.mk (List.length_map _) ?_ | refine Prep.skip ?_ | refine Eith.l ?_ | refine chk_t (x := D.flat _) (by assumption) ?_ | refine br_mk (fun _ => ?_) (fun _ => ?_) | refine nthK_mk (map_get hx) ?_ | refine ACall.of (hH) ?_ | refine APCall.of (hH) ?_ | refine ACall.of (hD) ?_ | refine APCall.of (hD) ?_ | fail)
          all_goals first | (exfalso; omega) | skip
          all_goals (conv => whnf)
          all_goals first | exact ⟨⟨i + 1, N', S, vr, dp, cuts⟩, Wm.end (by repeat (first | exact trivial | refine And.intro rfl ?_ | refine And.intro (congrArg (fun n => V.d (I n)) (wrap_nat _ (by omega))) ?_)) rfl rfl rfl, ⟨hlt, W', hdp⟩, by simp only; omega⟩
        · obtain ⟨q, p3⟩ := step4 hs he
          rw [p3] at hH
          have hs' : (m.kind.toNat : Int).tmod 6 = 4 := hs
          have W' := W.link (c' := cuts + 1) q true (by omega) (fun _ => by omega)
          have hD := net_Check _ (W'.fw (by omega)).wid
          rw [check_ok W'.ok] at hD
          dsimp only at hH
          generalize hN : (⟨n.queue, targ n.apart q true⟩ : Net) = N' at hH hD W'
          repeat' ((conv => whnf); first | refine Dec.t hs' ?_ | refine Dec.f (by rw [hs']; decide) ?_ | with_reducible refine Dec.t (show true = true from rfl) ?_ | with_reducible refine Dec.t (show false = false from rfl) ?_ | with_reducible refine Dec.f (show ¬ (true = false) by decide) ?_ | with_reducible refine Dec.f (show ¬ (false = true) by decide) ?_ | refine Dec.t (by omega) ?_ | refine Dec.f (by omega) ?_ | refine Dec.split (fun _ => ?_) (fun _ => ?_) | refine Wr.id (by omega) ?_ | refine Chk.mk (by first | omega | exact rfl | (simp only [List.length_map]; omega) | (simp [room]; done) | (simp [room]; omega) | (simp [dropL, room]; done) | (simp [dropL, room]; omega)) ?_ | refine Nam.mk (List.length_map _) ?_ | refine Prep.skip ?_ | refine Eith.l ?_ | refine chk_t (x := D.flat _) (by assumption) ?_ | refine br_mk (fun _ => ?_) (fun _ => ?_) | refine nthK_mk (map_get hx) ?_ | refine ACall.of (hH) ?_ | refine APCall.of (hH) ?_ | refine ACall.of (hD) ?_ | refine APCall.of (hD) ?_ | fail)
          all_goals first | (exfalso; omega) | skip
          all_goals (conv => whnf)
          all_goals first | exact ⟨⟨i + 1, N', S, vr, dp, cuts + 1⟩, Wm.end (by repeat (first | exact trivial | refine And.intro rfl ?_ | refine And.intro (congrArg (fun n => V.d (I n)) (wrap_nat _ (by omega))) ?_)) rfl rfl rfl, ⟨hlt, W', hdp⟩, by simp only; omega⟩
        · obtain ⟨q, p3⟩ := step5 hs he
          rw [p3] at hH
          have hs' : (m.kind.toNat : Int).tmod 6 = 5 := hs
          have W' := W.link (c' := cuts) q false (by omega) (fun h => by cases h)
          have hD := net_Check _ (W'.fw (by omega)).wid
          rw [check_ok W'.ok] at hD
          dsimp only at hH
          generalize hN : (⟨n.queue, targ n.apart q false⟩ : Net) = N' at hH hD W'
          repeat' ((conv => whnf); first | refine Dec.t hs' ?_ | refine Dec.f (by rw [hs']; decide) ?_ | with_reducible refine Dec.t (show true = true from rfl) ?_ | with_reducible refine Dec.t (show false = false from rfl) ?_ | with_reducible refine Dec.f (show ¬ (true = false) by decide) ?_ | with_reducible refine Dec.f (show ¬ (false = true) by decide) ?_ | refine Dec.t (by omega) ?_ | refine Dec.f (by omega) ?_ | refine Dec.split (fun _ => ?_) (fun _ => ?_) | refine Wr.id (by omega) ?_ | refine Chk.mk (by first | omega | exact rfl | (simp only [List.length_map]; omega) | (simp [room]; done) | (simp [room]; omega) | (simp [dropL, room]; done) | (simp [dropL, room]; omega)) ?_ | refine Nam.mk (List.length_map _) ?_ | refine Prep.skip ?_ | refine Eith.l ?_ | refine chk_t (x := D.flat _) (by assumption) ?_ | refine br_mk (fun _ => ?_) (fun _ => ?_) | refine nthK_mk (map_get hx) ?_ | refine ACall.of (hH) ?_ | refine APCall.of (hH) ?_ | refine ACall.of (hD) ?_ | refine APCall.of (hD) ?_ | fail)
          all_goals first | (exfalso; omega) | skip
          all_goals (conv => whnf)
          all_goals first | exact ⟨⟨i + 1, N', S, vr, dp, cuts⟩, Wm.end (by repeat (first | exact trivial | refine And.intro rfl ?_ | refine And.intro (congrArg (fun n => V.d (I n)) (wrap_nat _ (by omega))) ?_)) rfl rfl rfl, ⟨hlt, W', hdp⟩, by simp only; omega⟩
      · have hz := happ_err he
        rw [hz] at hH
        have hS0 := same_t Net.zero wid0
        have hS : CallP Try.prog 15 [.d Net.zero.d, .d (.agg [.sl 0 true [], .sl 0 true []])] (retD [.b true]) := by
          refine CallP.le ?_ hS0
          exact ⟨VLe.refl _, VLe.d net0, rfl⟩
        repeat' ((conv => whnf); first | with_reducible refine Dec.t (show true = true from rfl) ?_ | with_reducible refine Dec.t (show false = false from rfl) ?_ | with_reducible refine Dec.f (show ¬ (true = false) by decide) ?_ | with_reducible refine Dec.f (show ¬ (false = true) by decide) ?_ | refine Dec.t (by omega) ?_ | refine Dec.f (by omega) ?_ | refine Dec.split (fun _ => ?_) (fun _ => ?_) | refine Wr.id (by omega) ?_ | refine Chk.mk (by first | omega | exact rfl | (simp only [List.length_map]; omega) | (simp [room]; done) | (simp [room]; omega) | (simp [dropL, room]; done) | (simp [dropL, room]; omega)) ?_ | refine Nam.mk (List.length_map _) ?_ | refine Prep.skip ?_ | refine Eith.l ?_ | refine chk_t (x := D.flat _) (by assumption) ?_ | refine br_mk (fun _ => ?_) (fun _ => ?_) | refine nthK_mk (map_get hx) ?_ | refine ACall.of (hH) ?_ | refine APCall.of (hH) ?_ | refine ACall.of (hC) ?_ | refine APCall.of (hC) ?_ | refine ACall.of (hS) ?_ | refine APCall.of (hS) ?_ | fail)
        all_goals first | (exfalso; rename_i h; exact he h) | (exfalso; omega) | skip
        all_goals (conv => whnf)
        all_goals first | exact ⟨⟨i + 1, n, S, vr, dp, cuts⟩, Wm.end (by repeat (first | exact trivial | refine And.intro rfl ?_ | refine And.intro (congrArg (fun n => V.d (I n)) (wrap_nat _ (by omega))) ?_)) rfl rfl rfl, ⟨hlt, W.skip, hdp⟩, by simp only; omega⟩
    · have : i = l.length := by omega
      subst this
      repeat' ((conv => whnf); first | with_reducible refine Dec.t (show true = true from rfl) ?_ | with_reducible refine Dec.t (show false = false from rfl) ?_ | with_reducible refine Dec.f (show ¬ (true = false) by decide) ?_ | with_reducible refine Dec.f (show ¬ (false = true) by decide) ?_ | refine Dec.t (by omega) ?_ | refine Dec.f (by omega) ?_ | refine Dec.split (fun _ => ?_) (fun _ => ?_) | refine Wr.id (by omega) ?_ | refine Chk.mk (by first | omega | exact rfl | (simp only [List.length_map]; omega) | (simp [room]; done) | (simp [room]; omega) | (simp [dropL, room]; done) | (simp [dropL, room]; omega)) ?_ | refine Nam.mk (List.length_map _) ?_ | refine Prep.skip ?_ | refine Eith.l ?_ | refine chk_t (x := D.flat _) (by assumption) ?_ | refine br_mk (fun _ => ?_) (fun _ => ?_) | fail)
      all_goals first | (exfalso; omega) | skip
      all_goals (conv => whnf)
      all_goals exact DLe.refl _
  · refine exPure_sound (E := envOf Try.prog tt Try.f7.ntmps) (envOf_ok ttok mixed) Try.func7 (by rfl) rfl rfl (Nat.le_of_ble_eq_true rfl) ?_
    repeat' ((conv => whnf); first | with_reducible refine Dec.t (show true = true from rfl) ?_ | with_reducible refine Dec.t (show false = false from rfl) ?_ | with_reducible refine Dec.f (show ¬ (true = false) by decide) ?_ | with_reducible refine Dec.f (show ¬ (false = true) by decide) ?_ | refine Dec.t (by omega) ?_ | refine Dec.f (by omega) ?_ | refine Dec.split (fun _ => ?_) (fun _ => ?_) | refine Wr.id (by omega) ?_ | refine Chk.mk (by first | omega | exact rfl | (simp only [List.length_map]; omega) | (simp [room]; done) | (simp [room]; omega) | (simp [dropL, room]; done) | (simp [dropL, room]; omega)) ?_ | refine Nam.mk (List.length_map _) ?_ | refine Prep.skip ?_ | refine Eith.l ?_ | refine chk_t (x := D.flat _) (by assumption) ?_ | refine br_mk (fun _ => ?_) (fun _ => ?_) | refine ACall.of (law46_sane) ?_ | refine APCall.of (law46_sane) ?_ | fail)
    all_goals first | (exfalso; omega) | skip
    all_goals (conv => whnf)
    all_goals exact DLe.refl _
end Go.PM

