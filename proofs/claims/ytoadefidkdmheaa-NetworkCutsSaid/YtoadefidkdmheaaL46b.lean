/- The statements of layer 46: NetworkCuts, its contract. -/
import Derived.Test.YtoadefidkdmheaaL46a
namespace Go.PM
open Go.Proofs
set_option maxRecDepth 10000
set_option maxHeartbeats 8000000

def Net.targ (n : Net) (q : Pair) (on : Bool) : Net := ⟨n.queue, Go.PM.targ n.apart q on⟩
theorem targ_ok {n : Net} (hn : n.ok) (q : Pair) (on : Bool) : (n.targ q on).ok :=
  ⟨hn.len, hn.pk, fun x hx => ((targ_mem _ _ _ _).1 hx).1, pair_chain _ (targ_sorted _ _ _)⟩
theorem targ_targ (l : List Pair) (q : Pair) (o1 o2 : Bool) : targ (targ l q o1) q o2 = targ l q o2 := by
  refine pairs_unique (targ_sorted _ _ _) (targ_sorted _ _ _) fun x => ?_
  rw [targ_mem (targ l q o1), targ_mem l q o2]
  by_cases h : x = q
  · rw [if_pos h, if_pos h]
  · rw [if_neg h, if_neg h, targ_mem, if_neg h]
    constructor
    · rintro ⟨_, h2⟩; exact h2
    · exact fun h2 => ⟨h2.1, h2⟩
theorem targ_len {l : List Pair} {q : Pair} (hq : q.ok) : (targ l q true).length = (targ l q false).length + 1 := by
  have hp : (targ l q true).Perm (q :: targ l q false) := by
    have nd : ∀ o, (targ l q o).Nodup := fun o => (targ_sorted l q o).imp (fun h e => by subst e; exact lessP_irr _ h)
    refine (List.perm_ext_iff_of_nodup (nd true) (List.nodup_cons.2 ⟨fun h => ?_, nd false⟩)).2 fun x => ?_
    · have := (targ_mem _ _ _ _).1 h
      simp at this
    · rw [List.mem_cons, targ_mem, targ_mem]
      by_cases h : x = q
      · subst h; simp [hq]
      · simp [h]
  rw [hp.length_eq, List.length_cons]
theorem link_comm (a b : Int) : linkM b a = linkM a b := by
  unfold linkM
  simp only [Pair.mk.injEq]
  constructor <;> (split <;> split <;> omega)
theorem link_eq {a b c d : Int} : linkM c d = linkM a b ↔ (c = a ∧ d = b ∨ c = b ∧ d = a) := by
  unfold linkM
  simp only [Pair.mk.injEq]
  constructor
  · rintro ⟨h1, h2⟩
    split at h1 <;> split at h1 <;> split at h2 <;> split at h2 <;> omega
  · rintro (⟨rfl, rfl⟩ | ⟨rfl, rfl⟩)
    · exact ⟨rfl, rfl⟩
    · constructor <;> (split <;> split <;> omega)
theorem law46_Cuts (n : Net) (a b x : Int) (hw : Wid n) (hx : 0 ≤ x) : CallP Try.prog 5 [.d n.d, .d (I a), .d (I b), .d (.i .u64 x)] (retD [.b true]) := by
  have hC := net_Check n hw
  by_cases hf : n.queue.length ≤ 40 ∧ n.apart.length ≤ 40
  · by_cases hn : n.ok
    · rw [check_ok hn] at hC
      have hf' : Fw n := ⟨by omega, by omega⟩
      by_cases hs : site a ∧ site b ∧ ¬ a = b
      · have hs' : site b ∧ site a ∧ ¬ b = a := ⟨hs.2.1, hs.1, fun h => hs.2.2 h.symm⟩
        have hqo := link_ok hs.1 hs.2.1 hs.2.2
        have X1 : cutM n a b true = (n.targ (linkM a b) true, 0) := by unfold cutM Net.targ; rw [if_pos hn, if_pos hs]
        have X2 : cutM n b a true = (n.targ (linkM a b) true, 0) := by unfold cutM Net.targ; rw [if_pos hn, if_pos hs', link_comm]
        have X3 : cutM (n.targ (linkM a b) true) a b true = (n.targ (linkM a b) true, 0) := by
          unfold cutM; rw [if_pos (targ_ok hn _ _), if_pos hs]; unfold Net.targ; simp only; rw [targ_targ]
        have X4 : cutM (n.targ (linkM a b) true) b a false = (n.targ (linkM a b) false, 0) := by
          unfold cutM; rw [if_pos (targ_ok hn _ _), if_pos hs', link_comm]; unfold Net.targ; simp only; rw [targ_targ]
        have X5 : cutM n a b false = (n.targ (linkM a b) false, 0) := by unfold cutM Net.targ; rw [if_pos hn, if_pos hs]
        have wt : ∀ on, Fw (n.targ (linkM a b) on) := fun on => ⟨by simp only [Net.targ]; omega, Nat.le_trans (List.length_filter_le _ _) (Nat.le_of_eq allP_len)⟩
        have c1 := net_Cut n a b true hw (by omega)
        have c2 := net_Cut n b a true hw (by omega)
        have c3 := net_Cut (n.targ (linkM a b) true) a b true (wt true).wid (Nat.le_trans (wt true).a (by decide))
        have c4 := net_Cut (n.targ (linkM a b) true) b a false (wt true).wid (Nat.le_trans (wt true).a (by decide))
        have c5 := net_Cut n a b false hw (by omega)
        rw [X1] at c1
        rw [X2] at c2
        rw [X3] at c3
        rw [X4] at c4
        rw [X5] at c5
        have d1 := same_t _ (wt true).wid
        have d2 := same_t _ (wt false).wid
        have hlen : (n.targ (linkM a b) true).apart.length = (n.targ (linkM a b) false).apart.length + 1 := targ_len hqo
        have ha1 := (wt true).a
        have ha2 := (wt false).a
        dsimp only at c1 c2 c3 c4 c5
        by_cases h0 : n.queue.length = 0
        · clear X1 X2 X3 X4 X5 wt
          generalize n.targ (linkM a b) true = X at *
          generalize n.targ (linkM a b) false = K at *
          refine exPure_sound (E := envOf Try.prog tt Try.f5.ntmps) (envOf_ok ttok mixed) Try.func5 (by rfl) rfl rfl (Nat.le_of_ble_eq_true rfl) ?_
          repeat' ((conv => whnf); first | with_reducible refine Dec.t (show true = true from rfl) ?_ | with_reducible refine Dec.t (show false = false from rfl) ?_ | with_reducible refine Dec.f (show ¬ (true = false) by decide) ?_ | with_reducible refine Dec.f (show ¬ (false = true) by decide) ?_ | refine Dec.t (by omega) ?_ | refine Dec.f (by omega) ?_ | refine Dec.split (fun _ => ?_) (fun _ => ?_) | refine Wr.id (by omega) ?_ | refine Chk.mk (by first | omega | exact rfl | (simp only [List.length_map]; omega) | (simp [room]; done) | (simp [room]; omega) | (simp [dropL, room]; done) | (simp [dropL, room]; omega)) ?_ | refine Nam.mk (List.length_map _) ?_ | refine Prep.skip ?_ | refine Eith.l ?_ | refine chk_t (x := D.flat _) (by assumption) ?_ | refine br_mk (fun _ => ?_) (fun _ => ?_) | refine ACall.of (law46_sane) ?_ | refine APCall.of (law46_sane) ?_ | refine ACall.ofB (ref46_Few n hw) (fun _ => ?_) (fun h => absurd hf (of_decide_eq_false h)) | refine ACall.of (hC) ?_ | refine APCall.of (hC) ?_ | refine ACall.of (c1) ?_ | refine APCall.of (c1) ?_ | refine ACall.of (c2) ?_ | refine APCall.of (c2) ?_ | refine ACall.of (c3) ?_ | refine APCall.of (c3) ?_ | refine ACall.of (c4) ?_ | refine APCall.of (c4) ?_ | refine ACall.of (c5) ?_ | refine APCall.of (c5) ?_ | refine ACall.of (d1) ?_ | refine APCall.of (d1) ?_ | refine ACall.of (d2) ?_ | refine APCall.of (d2) ?_ | fail)
          all_goals first | (exfalso; omega) | (exfalso; rename_i h; exact h rfl) | skip
          all_goals (conv => whnf)
          all_goals first | exact DLe.refl _ | trace_state
        · obtain ⟨i, hi, hil⟩ := pick hx (k := n.queue.length) (by omega)
          have hqi := List.getElem?_eq_getElem hil
          generalize n.queue[i] = p at hqi
          have hp : p.ok := hn.pk p (List.mem_of_getElem? hqi)
          have e1 := net_Deliver (n.targ (linkM a b) true) i (wt true).wid
          have e2 := net_Deliver (n.targ (linkM a b) false) i (wt false).wid
          have L1 := lose_in (targ_ok hn (linkM a b) true) (i := i) hil
          have L2 := lose_in (targ_ok hn (linkM a b) false) (i := i) hil
          rw [L1] at e1
          rw [L2] at e2
          have G : ∀ on, gotM (n.targ (linkM a b) on) i = if linkM p.src p.dst ∈ (n.targ (linkM a b) on).apart then Pkt.zero else p := fun on => by
            have hpa : pktAt (n.targ (linkM a b) on) i = p := by unfold pktAt; rw [Int.toNat_natCast]; show (n.queue[i]?).getD _ = p; rw [hqi]; rfl
            unfold gotM
            rw [if_pos (look_in (targ_ok hn _ _) hil), hpa]
          dsimp only at e1 e2
          have hk0 : Pkt.zero.src = 0 ∧ Pkt.zero.dst = 0 := ⟨rfl, rfl⟩
          have hpo : (linkM p.src p.dst).ok := link_ok hp.1 hp.2.1 hp.2.2.1
          have T : ∀ on, linkM p.src p.dst ∈ (n.targ (linkM a b) on).apart ↔ (if linkM p.src p.dst = linkM a b then on = true else linkM p.src p.dst ∈ n.apart) := fun on => by
            show linkM p.src p.dst ∈ Go.PM.targ n.apart (linkM a b) on ↔ _
            rw [targ_mem]
            exact ⟨fun h => h.2, fun h => ⟨hpo, h⟩⟩
          have s1 := ref46_SamePacket Pkt.zero Pkt.zero
          have s2 := ref46_SamePacket p Pkt.zero
          have s3 := ref46_SamePacket p p
          have s4 := ref46_SamePacket Pkt.zero p
          rw [decide_eq_true rfl] at s1 s3
          have s1' : CallP Try.prog 19 [.d Pkt.zero.d, .d (.agg [I 0, I 0, .sl 0 true []])] (retD [.b true]) := by
            refine CallP.le ?_ s1
            exact ⟨VLe.refl _, VLe.d pkt0, rfl⟩
          have s2' : CallP Try.prog 19 [.d p.d, .d (.agg [I 0, I 0, .sl 0 true []])] (retD [.b (decide (p = Pkt.zero))]) := by
            refine CallP.le ?_ s2
            exact ⟨VLe.refl _, VLe.d pkt0, rfl⟩
          by_cases hl : linkM p.src p.dst = linkM a b
          · rw [G true, if_pos ((T true).2 (by rw [if_pos hl]))] at e1
            rw [G false, if_neg (fun h => by have := (T false).1 h; rw [if_pos hl] at this; cases this)] at e2
            have hb := link_eq.1 hl
            rw [← hi] at e1 e2
            generalize (n.targ (linkM a b) true).cutAt i = Y1 at *
            generalize (n.targ (linkM a b) false).cutAt i = Y2 at *
            clear X1 X2 X3 X4 X5 wt L1 L2 G T
            generalize n.targ (linkM a b) true = X at *
            generalize n.targ (linkM a b) false = K at *
            refine exPure_sound (E := envOf Try.prog tt Try.f5.ntmps) (envOf_ok ttok mixed) Try.func5 (by rfl) rfl rfl (Nat.le_of_ble_eq_true rfl) ?_
            repeat' ((conv => whnf); first | with_reducible refine Dec.t (show true = true from rfl) ?_ | with_reducible refine Dec.t (show false = false from rfl) ?_ | with_reducible refine Dec.f (show ¬ (true = false) by decide) ?_ | with_reducible refine Dec.f (show ¬ (false = true) by decide) ?_ | refine Dec.t (by omega) ?_ | refine Dec.f (by omega) ?_ | refine Dec.split (fun _ => ?_) (fun _ => ?_) | refine Wr.id (by omega) ?_ | refine Chk.mk (by first | omega | exact rfl | (simp only [List.length_map]; omega) | (simp [room]; done) | (simp [room]; omega) | (simp [dropL, room]; done) | (simp [dropL, room]; omega)) ?_ | refine Nam.mk (List.length_map _) ?_ | refine Prep.skip ?_ | refine Eith.l ?_ | refine chk_t (x := D.flat _) (by assumption) ?_ | refine br_mk (fun _ => ?_) (fun _ => ?_) | refine ACall.of (law46_sane) ?_ | refine APCall.of (law46_sane) ?_ | refine ACall.ofB (ref46_Few n hw) (fun _ => ?_) (fun h => absurd hf (of_decide_eq_false h)) | refine ACall.of (hC) ?_ | refine APCall.of (hC) ?_ | refine ACall.of (c1) ?_ | refine APCall.of (c1) ?_ | refine ACall.of (c2) ?_ | refine APCall.of (c2) ?_ | refine ACall.of (c3) ?_ | refine APCall.of (c3) ?_ | refine ACall.of (c4) ?_ | refine APCall.of (c4) ?_ | refine ACall.of (c5) ?_ | refine APCall.of (c5) ?_ | refine ACall.of (d1) ?_ | refine APCall.of (d1) ?_ | refine ACall.of (d2) ?_ | refine APCall.of (d2) ?_ | refine Wr.u64 _ rfl (by omega) ?_ | refine ACall.of (e1) ?_ | refine APCall.of (e1) ?_ | refine ACall.of (e2) ?_ | refine APCall.of (e2) ?_ | refine ACall.of (s1') ?_ | refine APCall.of (s1') ?_ | refine ACall.ofB (s2') (fun _ => ?_) (fun _ => ?_) | refine APCall.ofB (s2') (fun _ => ?_) (fun _ => ?_) | refine ACall.of (s3) ?_ | refine APCall.of (s3) ?_ | refine ACall.ofB (s4) (fun _ => ?_) (fun _ => ?_) | refine APCall.ofB (s4) (fun _ => ?_) (fun _ => ?_) | fail)
            all_goals first | (exfalso; omega) | (exfalso; rename_i h; exact h rfl) | skip
            all_goals (conv => whnf)
            all_goals first | exact DLe.refl _ | trace_state
          · by_cases hm : linkM p.src p.dst ∈ n.apart
            · rw [G true, if_pos ((T true).2 (by rw [if_neg hl]; exact hm))] at e1
              rw [G false, if_pos ((T false).2 (by rw [if_neg hl]; exact hm))] at e2
              have hab := hs.2.2
              rw [← hi] at e1 e2
              generalize (n.targ (linkM a b) true).cutAt i = Y1 at *
              generalize (n.targ (linkM a b) false).cutAt i = Y2 at *
              clear X1 X2 X3 X4 X5 wt L1 L2 G T
              generalize n.targ (linkM a b) true = X at *
              generalize n.targ (linkM a b) false = K at *
              refine exPure_sound (E := envOf Try.prog tt Try.f5.ntmps) (envOf_ok ttok mixed) Try.func5 (by rfl) rfl rfl (Nat.le_of_ble_eq_true rfl) ?_
              repeat' ((conv => whnf); first | with_reducible refine Dec.t (show true = true from rfl) ?_ | with_reducible refine Dec.t (show false = false from rfl) ?_ | with_reducible refine Dec.f (show ¬ (true = false) by decide) ?_ | with_reducible refine Dec.f (show ¬ (false = true) by decide) ?_ | refine Dec.t (by omega) ?_ | refine Dec.f (by omega) ?_ | refine Dec.split (fun _ => ?_) (fun _ => ?_) | refine Wr.id (by omega) ?_ | refine Chk.mk (by first | omega | exact rfl | (simp only [List.length_map]; omega) | (simp [room]; done) | (simp [room]; omega) | (simp [dropL, room]; done) | (simp [dropL, room]; omega)) ?_ | refine Nam.mk (List.length_map _) ?_ | refine Prep.skip ?_ | refine Eith.l ?_ | refine chk_t (x := D.flat _) (by assumption) ?_ | refine br_mk (fun _ => ?_) (fun _ => ?_) | refine ACall.of (law46_sane) ?_ | refine APCall.of (law46_sane) ?_ | refine ACall.ofB (ref46_Few n hw) (fun _ => ?_) (fun h => absurd hf (of_decide_eq_false h)) | refine ACall.of (hC) ?_ | refine APCall.of (hC) ?_ | refine ACall.of (c1) ?_ | refine APCall.of (c1) ?_ | refine ACall.of (c2) ?_ | refine APCall.of (c2) ?_ | refine ACall.of (c3) ?_ | refine APCall.of (c3) ?_ | refine ACall.of (c4) ?_ | refine APCall.of (c4) ?_ | refine ACall.of (c5) ?_ | refine APCall.of (c5) ?_ | refine ACall.of (d1) ?_ | refine APCall.of (d1) ?_ | refine ACall.of (d2) ?_ | refine APCall.of (d2) ?_ | refine Wr.u64 _ rfl (by omega) ?_ | refine ACall.of (e1) ?_ | refine APCall.of (e1) ?_ | refine ACall.of (e2) ?_ | refine APCall.of (e2) ?_ | refine ACall.of (s1') ?_ | refine APCall.of (s1') ?_ | refine ACall.of (s1) ?_ | refine APCall.of (s1) ?_ | fail)
              all_goals first | (exfalso; omega) | (exfalso; rename_i h; exact h rfl) | skip
              all_goals (conv => whnf)
              all_goals first | exact DLe.refl _ | trace_state
            · rw [G true, if_neg (fun h => hm (by have := (T true).1 h; rwa [if_neg hl] at this))] at e1
              rw [G false, if_neg (fun h => hm (by have := (T false).1 h; rwa [if_neg hl] at this))] at e2
              have hnb : ¬ (p.src = a ∧ p.dst = b ∨ p.src = b ∧ p.dst = a) := fun h => hl (link_eq.2 h)
              rw [← hi] at e1 e2
              generalize (n.targ (linkM a b) true).cutAt i = Y1 at *
              generalize (n.targ (linkM a b) false).cutAt i = Y2 at *
              clear X1 X2 X3 X4 X5 wt L1 L2 G T
              generalize n.targ (linkM a b) true = X at *
              generalize n.targ (linkM a b) false = K at *
              refine exPure_sound (E := envOf Try.prog tt Try.f5.ntmps) (envOf_ok ttok mixed) Try.func5 (by rfl) rfl rfl (Nat.le_of_ble_eq_true rfl) ?_
              repeat' ((conv => whnf); first | with_reducible refine Dec.t (show true = true from rfl) ?_ | with_reducible refine Dec.t (show false = false from rfl) ?_ | with_reducible refine Dec.f (show ¬ (true = false) by decide) ?_ | with_reducible refine Dec.f (show ¬ (false = true) by decide) ?_ | refine Dec.t (by omega) ?_ | refine Dec.f (by omega) ?_ | refine Dec.split (fun _ => ?_) (fun _ => ?_) | refine Wr.id (by omega) ?_ | refine Chk.mk (by first | omega | exact rfl | (simp only [List.length_map]; omega) | (simp [room]; done) | (simp [room]; omega) | (simp [dropL, room]; done) | (simp [dropL, room]; omega)) ?_ | refine Nam.mk (List.length_map _) ?_ | refine Prep.skip ?_ | refine Eith.l ?_ | refine chk_t (x := D.flat _) (by assumption) ?_ | refine br_mk (fun _ => ?_) (fun _ => ?_) | refine ACall.of (law46_sane) ?_ | refine APCall.of (law46_sane) ?_ | refine ACall.ofB (ref46_Few n hw) (fun _ => ?_) (fun h => absurd hf (of_decide_eq_false h)) | refine ACall.of (hC) ?_ | refine APCall.of (hC) ?_ | refine ACall.of (c1) ?_ | refine APCall.of (c1) ?_ | refine ACall.of (c2) ?_ | refine APCall.of (c2) ?_ | refine ACall.of (c3) ?_ | refine APCall.of (c3) ?_ | refine ACall.of (c4) ?_ | refine APCall.of (c4) ?_ | refine ACall.of (c5) ?_ | refine APCall.of (c5) ?_ | refine ACall.of (d1) ?_ | refine APCall.of (d1) ?_ | refine ACall.of (d2) ?_ | refine APCall.of (d2) ?_ | refine Wr.u64 _ rfl (by omega) ?_ | refine ACall.of (e1) ?_ | refine APCall.of (e1) ?_ | refine ACall.of (e2) ?_ | refine APCall.of (e2) ?_ | refine ACall.of (s2') ?_ | refine APCall.of (s2') ?_ | refine ACall.of (s3) ?_ | refine APCall.of (s3) ?_ | fail)
              all_goals first | (exfalso; omega) | (exfalso; rename_i h; exact h rfl) | skip
              all_goals (conv => whnf)
              all_goals first | exact DLe.refl _ | trace_state
      · have X1 : cutM n a b true = (Net.zero, 1) := by unfold cutM; rw [if_pos hn, if_neg hs]
        have c1 := net_Cut n a b true hw (by omega)
        rw [X1] at c1
        refine exPure_sound (E := envOf Try.prog tt Try.f5.ntmps) (envOf_ok ttok mixed) Try.func5 (by rfl) rfl rfl (Nat.le_of_ble_eq_true rfl) ?_
        repeat' ((conv => whnf); first | with_reducible refine Dec.t (show true = true from rfl) ?_ | with_reducible refine Dec.t (show false = false from rfl) ?_ | with_reducible refine Dec.f (show ¬ (true = false) by decide) ?_ | with_reducible refine Dec.f (show ¬ (false = true) by decide) ?_ | refine Dec.t (by omega) ?_ | refine Dec.f (by omega) ?_ | refine Dec.split (fun _ => ?_) (fun _ => ?_) | refine Wr.id (by omega) ?_ | refine Chk.mk (by first | omega | exact rfl | (simp only [List.length_map]; omega) | (simp [room]; done) | (simp [room]; omega) | (simp [dropL, room]; done) | (simp [dropL, room]; omega)) ?_ | refine Nam.mk (List.length_map _) ?_ | refine Prep.skip ?_ | refine Eith.l ?_ | refine chk_t (x := D.flat _) (by assumption) ?_ | refine br_mk (fun _ => ?_) (fun _ => ?_) | refine ACall.of (law46_sane) ?_ | refine APCall.of (law46_sane) ?_ | refine ACall.ofB (ref46_Few n hw) (fun _ => ?_) (fun h => absurd hf (of_decide_eq_false h)) | refine ACall.of (hC) ?_ | refine APCall.of (hC) ?_ | refine ACall.of (c1) ?_ | refine APCall.of (c1) ?_ | fail)
        all_goals (conv => whnf)
        all_goals exact DLe.refl _
    · rw [check_bad hn] at hC
      refine exPure_sound (E := envOf Try.prog tt Try.f5.ntmps) (envOf_ok ttok mixed) Try.func5 (by rfl) rfl rfl (Nat.le_of_ble_eq_true rfl) ?_
      repeat' ((conv => whnf); first | with_reducible refine Dec.t (show true = true from rfl) ?_ | with_reducible refine Dec.t (show false = false from rfl) ?_ | with_reducible refine Dec.f (show ¬ (true = false) by decide) ?_ | with_reducible refine Dec.f (show ¬ (false = true) by decide) ?_ | refine Dec.t (by omega) ?_ | refine Dec.f (by omega) ?_ | refine Dec.split (fun _ => ?_) (fun _ => ?_) | refine Wr.id (by omega) ?_ | refine Chk.mk (by first | omega | exact rfl | (simp only [List.length_map]; omega) | (simp [room]; done) | (simp [room]; omega) | (simp [dropL, room]; done) | (simp [dropL, room]; omega)) ?_ | refine Nam.mk (List.length_map _) ?_ | refine Prep.skip ?_ | refine Eith.l ?_ | refine chk_t (x := D.flat _) (by assumption) ?_ | refine br_mk (fun _ => ?_) (fun _ => ?_) | refine ACall.of (law46_sane) ?_ | refine APCall.of (law46_sane) ?_ | refine ACall.ofB (ref46_Few n hw) (fun _ => ?_) (fun h => absurd hf (of_decide_eq_false h)) | refine ACall.of (hC) ?_ | refine APCall.of (hC) ?_ | fail)
      all_goals (conv => whnf)
      all_goals exact DLe.refl _
  · refine exPure_sound (E := envOf Try.prog tt Try.f5.ntmps) (envOf_ok ttok mixed) Try.func5 (by rfl) rfl rfl (Nat.le_of_ble_eq_true rfl) ?_
    repeat' ((conv => whnf); first | with_reducible refine Dec.t (show true = true from rfl) ?_ | with_reducible refine Dec.t (show false = false from rfl) ?_ | with_reducible refine Dec.f (show ¬ (true = false) by decide) ?_ | with_reducible refine Dec.f (show ¬ (false = true) by decide) ?_ | refine Dec.t (by omega) ?_ | refine Dec.f (by omega) ?_ | refine Dec.split (fun _ => ?_) (fun _ => ?_) | refine Wr.id (by omega) ?_ | refine Chk.mk (by first | omega | exact rfl | (simp only [List.length_map]; omega) | (simp [room]; done) | (simp [room]; omega) | (simp [dropL, room]; done) | (simp [dropL, room]; omega)) ?_ | refine Nam.mk (List.length_map _) ?_ | refine Prep.skip ?_ | refine Eith.l ?_ | refine chk_t (x := D.flat _) (by assumption) ?_ | refine br_mk (fun _ => ?_) (fun _ => ?_) | refine ACall.of (law46_sane) ?_ | refine APCall.of (law46_sane) ?_ | refine ACall.ofB (ref46_Few n hw) (fun h => absurd (of_decide_eq_true h) hf) (fun _ => ?_) | fail)
    all_goals (conv => whnf)
    all_goals exact DLe.refl _
end Go.PM

