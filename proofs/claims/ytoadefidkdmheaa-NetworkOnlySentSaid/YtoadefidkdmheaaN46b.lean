/- Package network and its reference: Check. -/
import Derived.Test.YtoadefidkdmheaaN46a
namespace Go.PM
open Go.Proofs
set_option maxRecDepth 10000
set_option maxHeartbeats 4000000

def Pair.ok (q : Pair) : Prop := site q.a ∧ site q.b ∧ q.a < q.b
instance (q : Pair) : Decidable q.ok := by unfold Pair.ok; infer_instance
def lessP (x y : Pair) : Prop := x.a < y.a ∨ x.a = y.a ∧ x.b < y.b
instance (x y : Pair) : Decidable (lessP x y) := by unfold lessP; infer_instance
theorem cf_less (x y : Pair) : cfPair x y < 0 ↔ lessP x y := by
  unfold cfPair lessP
  simp only [orL, cmpI]
  repeat' split
  all_goals omega
theorem cf_less' (x y : Pair) : 0 ≤ cfPair x y ↔ ¬ lessP x y := by
  rw [← cf_less]; omega
def chainP : List Pair → Prop
  | a :: b :: r => lessP a b ∧ chainP (b :: r)
  | _ => True
instance chainDec : (l : List Pair) → Decidable (chainP l)
  | [] => .isTrue trivial
  | [_] => .isTrue trivial
  | a :: b :: r => by
    have := chainDec (b :: r)
    unfold chainP; infer_instance
theorem chain_iff : ∀ (l : List Pair), chainP l ↔ ∀ (i : Nat) (a b : Pair), l[i]? = some a → l[i + 1]? = some b → lessP a b
  | [] => by simp [chainP]
  | [x] => by simp [chainP]
  | a :: b :: r => by
    rw [chainP, chain_iff (b :: r)]
    constructor
    · rintro ⟨h1, h2⟩ i x y hx hy
      cases i with
      | zero => simp at hx hy; subst hx hy; exact h1
      | succ i => exact h2 i x y (by simpa using hx) (by simpa using hy)
    · intro h
      exact ⟨h 0 a b rfl rfl, fun i x y hx hy => h (i + 1) x y (by simpa using hx) (by simpa using hy)⟩
structure Net.ok (n : Net) : Prop where
  len : n.queue.length ≤ 4096
  pk : ∀ p ∈ n.queue, p.ok
  pr : ∀ q ∈ n.apart, q.ok
  ch : chainP n.apart
instance (n : Net) : Decidable n.ok := decidable_of_iff (n.queue.length ≤ 4096 ∧ (∀ p ∈ n.queue, p.ok) ∧ (∀ q ∈ n.apart, q.ok) ∧ chainP n.apart) ⟨fun ⟨a, b, c, d⟩ => ⟨a, b, c, d⟩, fun ⟨a, b, c, d⟩ => ⟨a, b, c, d⟩⟩
def checkN (n : Net) : Int := if n.ok then 0 else 460
theorem check_bad {n : Net} (h : ¬ n.ok) : checkN n = 460 := if_neg h
theorem check_ok {n : Net} (h : n.ok) : checkN n = 0 := if_pos h
structure Wid (n : Net) : Prop where
  q : n.queue.length < 2 ^ 63
  a : n.apart.length < 2 ^ 63
theorem snoc_all {α : Type} {p : α → Prop} {l : List α} {i : Nat} {x : α} (hx : l[i]? = some x) (hp : p x) (h : ∀ y ∈ l.take i, p y) : ∀ y ∈ l.take (i + 1), p y := fun y hy => by
  rw [List.take_add_one, hx, List.mem_append] at hy
  rcases hy with hy | hy
  · exact h y hy
  · simp at hy; subst hy; exact hp
theorem net_Check (n : Net) (hw : Wid n) : CallP Try.prog 13 [.d n.d] (retD [I (checkN n)]) := by
  have hwq := hw.q
  have hwa := hw.a
  refine exPure_sound (E := envOf Try.prog tt Try.f13.ntmps) (envOf_ok ttok mixed) Try.func13 (by rfl) rfl rfl (Nat.le_of_ble_eq_true rfl) ?_
  repeat' ((conv => whnf); first | with_reducible refine Dec.t (show true = true from rfl) ?_ | with_reducible refine Dec.t (show false = false from rfl) ?_ | with_reducible refine Dec.f (show ¬ (true = false) by decide) ?_ | with_reducible refine Dec.f (show ¬ (false = true) by decide) ?_ | refine Dec.t (by omega) ?_ | refine Dec.f (by omega) ?_ | refine Dec.split (fun _ => ?_) (fun _ => ?_) | refine Wr.id (by omega) ?_ | refine Chk.mk (by first | omega | exact rfl | (simp only [List.length_map]; omega) | (simp [room]; done) | (simp [room]; omega) | (simp [dropL, room]; done) | (simp [dropL, room]; omega)) ?_ | refine Nam.mk (List.length_map _) ?_ | refine Prep.skip ?_ | refine Eith.l ?_ | refine chk_t (x := D.flat _) (by assumption) ?_ | refine br_mk (fun _ => ?_) (fun _ => ?_) | fail)
  all_goals (conv => whnf)
  · rw [check_bad (fun h => by have := h.len; omega)]; exact DLe.refl _
  refine ALoop.at (E := envOf Try.prog tt Try.f13.ntmps) (envOf_ok ttok mixed) (X := Nat) (fun i => [(14, .d (I i))]) (fun _ => []) (fun i => i ≤ n.queue.length ∧ ∀ p ∈ n.queue.take i, p.ok) (fun i => n.queue.length - i) 0 (by repeat (first | exact trivial | refine And.intro rfl ?_ | refine And.intro (congrArg (fun n => V.d (I n)) (wrap_nat _ (by omega))) ?_)) rfl ⟨Nat.zero_le _, by simp⟩ ?_
  rintro i ⟨hi, hm⟩
  by_cases hlt : i < n.queue.length
  · obtain ⟨p, hx, _⟩ := drop_get hlt
    repeat' ((conv => whnf); first | with_reducible refine Dec.t (show true = true from rfl) ?_ | with_reducible refine Dec.t (show false = false from rfl) ?_ | with_reducible refine Dec.f (show ¬ (true = false) by decide) ?_ | with_reducible refine Dec.f (show ¬ (false = true) by decide) ?_ | refine Dec.t (by omega) ?_ | refine Dec.f (by omega) ?_ | refine Dec.split (fun _ => ?_) (fun _ => ?_) | refine Wr.id (by omega) ?_ | refine Chk.mk (by first | omega | exact rfl | (simp only [List.length_map]; omega) | (simp [room]; done) | (simp [room]; omega) | (simp [dropL, room]; done) | (simp [dropL, room]; omega)) ?_ | refine Nam.mk (List.length_map _) ?_ | refine Prep.skip ?_ | refine Eith.l ?_ | refine chk_t (x := D.flat _) (by assumption) ?_ | refine br_mk (fun _ => ?_) (fun _ => ?_) | refine nthK_mk (map_get hx) ?_ | refine ACall.ofB (net_right p) (fun _ => ?_) (fun _ => ?_) | refine APCall.ofB (net_right p) (fun _ => ?_) (fun _ => ?_) | fail)
    all_goals (conv => whnf)
    all_goals try simp only [decide_eq_true_eq, decide_eq_false_iff_not] at *
    · rename_i h
      exact ⟨i + 1, Wm.end (by repeat (first | exact trivial | refine And.intro rfl ?_ | refine And.intro (congrArg (fun n => V.d (I n)) (wrap_nat _ (by omega))) ?_)) rfl rfl rfl, ⟨hlt, snoc_all hx h hm⟩, by omega⟩
    · rename_i h
      rw [check_bad (fun hh => h (hh.pk p (List.mem_of_getElem? hx)))]; exact DLe.refl _
  · have : i = n.queue.length := by omega
    subst this
    rw [List.take_length] at hm
    clear hi hlt
    repeat' ((conv => whnf); first | with_reducible refine Dec.t (show true = true from rfl) ?_ | with_reducible refine Dec.t (show false = false from rfl) ?_ | with_reducible refine Dec.f (show ¬ (true = false) by decide) ?_ | with_reducible refine Dec.f (show ¬ (false = true) by decide) ?_ | refine Dec.t (by omega) ?_ | refine Dec.f (by omega) ?_ | refine Dec.split (fun _ => ?_) (fun _ => ?_) | refine Wr.id (by omega) ?_ | refine Chk.mk (by first | omega | exact rfl | (simp only [List.length_map]; omega) | (simp [room]; done) | (simp [room]; omega) | (simp [dropL, room]; done) | (simp [dropL, room]; omega)) ?_ | refine Nam.mk (List.length_map _) ?_ | refine Prep.skip ?_ | refine Eith.l ?_ | refine chk_t (x := D.flat _) (by assumption) ?_ | refine br_mk (fun _ => ?_) (fun _ => ?_) | fail)
    conv => whnf
    refine ALoop.at (E := envOf Try.prog tt Try.f13.ntmps) (envOf_ok ttok mixed) (X := Nat) (fun i => [(25, .d (I i))]) (fun _ => []) (fun i => i ≤ n.apart.length ∧ (∀ q ∈ n.apart.take i, q.ok) ∧ ∀ (j : Nat) (a b : Pair), j + 1 < i → n.apart[j]? = some a → n.apart[j + 1]? = some b → lessP a b) (fun i => n.apart.length - i) 0 (by repeat (first | exact trivial | refine And.intro rfl ?_ | refine And.intro (congrArg (fun n => V.d (I n)) (wrap_nat _ (by omega))) ?_)) rfl ⟨Nat.zero_le _, by simp, by simp⟩ ?_
    rintro i ⟨hi, hm2, hr⟩
    by_cases hlt : i < n.apart.length
    · obtain ⟨q, hx, _⟩ := drop_get hlt
      by_cases hqo : q.ok
      · have hqo' := hqo
        obtain ⟨q1, q2, q3⟩ := hqo
        cases i with
        | zero =>
          repeat' ((conv => whnf); first | with_reducible refine Dec.t (show true = true from rfl) ?_ | with_reducible refine Dec.t (show false = false from rfl) ?_ | with_reducible refine Dec.f (show ¬ (true = false) by decide) ?_ | with_reducible refine Dec.f (show ¬ (false = true) by decide) ?_ | refine Dec.t (by omega) ?_ | refine Dec.f (by omega) ?_ | refine Dec.split (fun _ => ?_) (fun _ => ?_) | refine Wr.id (by omega) ?_ | refine Chk.mk (by first | omega | exact rfl | (simp only [List.length_map]; omega) | (simp [room]; done) | (simp [room]; omega) | (simp [dropL, room]; done) | (simp [dropL, room]; omega)) ?_ | refine Nam.mk (List.length_map _) ?_ | refine Prep.skip ?_ | refine Eith.l ?_ | refine chk_t (x := D.flat _) (by assumption) ?_ | refine br_mk (fun _ => ?_) (fun _ => ?_) | refine nthK_mk (map_get hx) ?_ | refine ACall.ofB (net_party q.a) (fun _ => ?_) (fun h => absurd q1 (of_decide_eq_false h)) | refine ACall.ofB (net_party q.b) (fun _ => ?_) (fun h => absurd q2 (of_decide_eq_false h)) | fail)
          all_goals (conv => whnf)
          exact ⟨1, Wm.end (by repeat (first | exact trivial | refine And.intro rfl ?_ | refine And.intro (congrArg (fun n => V.d (I n)) (wrap_nat _ (by omega))) ?_)) rfl rfl rfl, ⟨hlt, snoc_all hx hqo' hm2, fun j a b hj => by omega⟩, by omega⟩
        | succ i =>
          obtain ⟨r, hy, _⟩ := drop_get (l := n.apart) (i := i) (by omega)
          have hy' : (n.apart.map Pair.d)[(((i + 1 : Nat) : Int) - 1).toNat]? = some r.d := by rw [show (((i + 1 : Nat) : Int) - 1).toNat = i by omega, List.getElem?_map, hy]; rfl
          have hx' : (n.apart.map Pair.d)[(((i + 1 : Nat) : Int)).toNat]? = some q.d := by rw [Int.toNat_natCast, List.getElem?_map, hx]; rfl
          have hcl := cf_less' r q
          by_cases hlp : lessP r q
          · have hcl := (cf_less r q).2 hlp
            have hlp' := hlp
            unfold lessP at hlp
            repeat' ((conv => whnf); first | with_reducible refine Dec.t (show true = true from rfl) ?_ | with_reducible refine Dec.t (show false = false from rfl) ?_ | with_reducible refine Dec.f (show ¬ (true = false) by decide) ?_ | with_reducible refine Dec.f (show ¬ (false = true) by decide) ?_ | refine Dec.t (by omega) ?_ | refine Dec.f (by omega) ?_ | refine Dec.split (fun _ => ?_) (fun _ => ?_) | refine Wr.id (by omega) ?_ | refine Chk.mk (by first | omega | exact rfl | (simp only [List.length_map]; omega) | (simp [room]; done) | (simp [room]; omega) | (simp [dropL, room]; done) | (simp [dropL, room]; omega)) ?_ | refine Nam.mk (List.length_map _) ?_ | refine Prep.skip ?_ | refine Eith.l ?_ | refine chk_t (x := D.flat _) (by assumption) ?_ | refine br_mk (fun _ => ?_) (fun _ => ?_) | refine nthK_mk hx' ?_ | refine nthK_mk hy' ?_ | refine ACall.ofB (net_party q.a) (fun _ => ?_) (fun h => absurd q1 (of_decide_eq_false h)) | refine ACall.ofB (net_party q.b) (fun _ => ?_) (fun h => absurd q2 (of_decide_eq_false h)) | refine ACall.of (net_compare r q) ?_ | refine APCall.of (net_compare r q) ?_ | fail)
            all_goals first | (exfalso; omega) | skip
            all_goals (conv => whnf)
            all_goals exact ⟨i + 1 + 1, Wm.end (by repeat (first | exact trivial | refine And.intro rfl ?_ | refine And.intro (congrArg (fun n => V.d (I n)) (wrap_nat _ (by omega))) ?_)) rfl rfl rfl, ⟨hlt, snoc_all hx hqo' hm2, fun j a b hj ha hb => by
              by_cases hji : j = i
              · subst hji; rw [hy] at ha; rw [hx] at hb; cases ha; cases hb; exact hlp'
              · exact hr j a b (by omega) ha hb⟩, by omega⟩
          · have hcl := hcl.2 hlp
            rw [check_bad (fun hh => hlp ((chain_iff _).1 hh.ch i r q hy hx))]
            unfold lessP at hlp
            repeat' ((conv => whnf); first | with_reducible refine Dec.t (show true = true from rfl) ?_ | with_reducible refine Dec.t (show false = false from rfl) ?_ | with_reducible refine Dec.f (show ¬ (true = false) by decide) ?_ | with_reducible refine Dec.f (show ¬ (false = true) by decide) ?_ | refine Dec.t (by omega) ?_ | refine Dec.f (by omega) ?_ | refine Dec.split (fun _ => ?_) (fun _ => ?_) | refine Wr.id (by omega) ?_ | refine Chk.mk (by first | omega | exact rfl | (simp only [List.length_map]; omega) | (simp [room]; done) | (simp [room]; omega) | (simp [dropL, room]; done) | (simp [dropL, room]; omega)) ?_ | refine Nam.mk (List.length_map _) ?_ | refine Prep.skip ?_ | refine Eith.l ?_ | refine chk_t (x := D.flat _) (by assumption) ?_ | refine br_mk (fun _ => ?_) (fun _ => ?_) | refine nthK_mk hx' ?_ | refine nthK_mk hy' ?_ | refine ACall.ofB (net_party q.a) (fun _ => ?_) (fun h => absurd q1 (of_decide_eq_false h)) | refine ACall.ofB (net_party q.b) (fun _ => ?_) (fun h => absurd q2 (of_decide_eq_false h)) | refine ACall.of (net_compare r q) ?_ | refine APCall.of (net_compare r q) ?_ | fail)
            all_goals first | (exfalso; omega) | skip
            all_goals (conv => whnf)
            all_goals exact DLe.refl _
      · rw [check_bad (fun hh => hqo (hh.pr q (List.mem_of_getElem? hx)))]
        unfold Pair.ok at hqo
        by_cases q1 : site q.a
        · by_cases q2 : site q.b
          · have q3 : ¬ q.a < q.b := fun h => hqo ⟨q1, q2, h⟩
            clear hqo
            repeat' ((conv => whnf); first | with_reducible refine Dec.t (show true = true from rfl) ?_ | with_reducible refine Dec.t (show false = false from rfl) ?_ | with_reducible refine Dec.f (show ¬ (true = false) by decide) ?_ | with_reducible refine Dec.f (show ¬ (false = true) by decide) ?_ | refine Dec.t (by omega) ?_ | refine Dec.f (by omega) ?_ | refine Dec.split (fun _ => ?_) (fun _ => ?_) | refine Wr.id (by omega) ?_ | refine Chk.mk (by first | omega | exact rfl | (simp only [List.length_map]; omega) | (simp [room]; done) | (simp [room]; omega) | (simp [dropL, room]; done) | (simp [dropL, room]; omega)) ?_ | refine Nam.mk (List.length_map _) ?_ | refine Prep.skip ?_ | refine Eith.l ?_ | refine chk_t (x := D.flat _) (by assumption) ?_ | refine br_mk (fun _ => ?_) (fun _ => ?_) | refine nthK_mk (map_get hx) ?_ | refine ACall.ofB (net_party q.a) (fun _ => ?_) (fun h => absurd q1 (of_decide_eq_false h)) | refine ACall.ofB (net_party q.b) (fun _ => ?_) (fun h => absurd q2 (of_decide_eq_false h)) | fail)
            all_goals first | (exfalso; omega) | skip
            all_goals (conv => whnf)
            all_goals exact DLe.refl _
          · clear hqo
            repeat' ((conv => whnf); first | with_reducible refine Dec.t (show true = true from rfl) ?_ | with_reducible refine Dec.t (show false = false from rfl) ?_ | with_reducible refine Dec.f (show ¬ (true = false) by decide) ?_ | with_reducible refine Dec.f (show ¬ (false = true) by decide) ?_ | refine Dec.t (by omega) ?_ | refine Dec.f (by omega) ?_ | refine Dec.split (fun _ => ?_) (fun _ => ?_) | refine Wr.id (by omega) ?_ | refine Chk.mk (by first | omega | exact rfl | (simp only [List.length_map]; omega) | (simp [room]; done) | (simp [room]; omega) | (simp [dropL, room]; done) | (simp [dropL, room]; omega)) ?_ | refine Nam.mk (List.length_map _) ?_ | refine Prep.skip ?_ | refine Eith.l ?_ | refine chk_t (x := D.flat _) (by assumption) ?_ | refine br_mk (fun _ => ?_) (fun _ => ?_) | refine nthK_mk (map_get hx) ?_ | refine ACall.ofB (net_party q.a) (fun _ => ?_) (fun h => absurd q1 (of_decide_eq_false h)) | refine ACall.ofB (net_party q.b) (fun h => absurd (of_decide_eq_true h) q2) (fun _ => ?_) | fail)
            all_goals (conv => whnf)
            all_goals exact DLe.refl _
        · clear hqo
          repeat' ((conv => whnf); first | with_reducible refine Dec.t (show true = true from rfl) ?_ | with_reducible refine Dec.t (show false = false from rfl) ?_ | with_reducible refine Dec.f (show ¬ (true = false) by decide) ?_ | with_reducible refine Dec.f (show ¬ (false = true) by decide) ?_ | refine Dec.t (by omega) ?_ | refine Dec.f (by omega) ?_ | refine Dec.split (fun _ => ?_) (fun _ => ?_) | refine Wr.id (by omega) ?_ | refine Chk.mk (by first | omega | exact rfl | (simp only [List.length_map]; omega) | (simp [room]; done) | (simp [room]; omega) | (simp [dropL, room]; done) | (simp [dropL, room]; omega)) ?_ | refine Nam.mk (List.length_map _) ?_ | refine Prep.skip ?_ | refine Eith.l ?_ | refine chk_t (x := D.flat _) (by assumption) ?_ | refine br_mk (fun _ => ?_) (fun _ => ?_) | refine nthK_mk (map_get hx) ?_ | refine ACall.ofB (net_party q.a) (fun h => absurd (of_decide_eq_true h) q1) (fun _ => ?_) | fail)
          all_goals (conv => whnf)
          all_goals exact DLe.refl _
    · have : i = n.apart.length := by omega
      subst this
      rw [List.take_length] at hm2
      rename_i hle
      rw [check_ok ⟨by omega, hm, hm2, (chain_iff _).2 fun j a b ha hb => hr j a b (List.getElem?_eq_some_iff.1 hb).1 ha hb⟩]
      repeat' ((conv => whnf); first | with_reducible refine Dec.t (show true = true from rfl) ?_ | with_reducible refine Dec.t (show false = false from rfl) ?_ | with_reducible refine Dec.f (show ¬ (true = false) by decide) ?_ | with_reducible refine Dec.f (show ¬ (false = true) by decide) ?_ | refine Dec.t (by omega) ?_ | refine Dec.f (by omega) ?_ | refine Dec.split (fun _ => ?_) (fun _ => ?_) | refine Wr.id (by omega) ?_ | refine Chk.mk (by first | omega | exact rfl | (simp only [List.length_map]; omega) | (simp [room]; done) | (simp [room]; omega) | (simp [dropL, room]; done) | (simp [dropL, room]; omega)) ?_ | refine Nam.mk (List.length_map _) ?_ | refine Prep.skip ?_ | refine Eith.l ?_ | refine chk_t (x := D.flat _) (by assumption) ?_ | refine br_mk (fun _ => ?_) (fun _ => ?_) | fail)
      all_goals (conv => whnf)
      exact DLe.refl _
theorem ref46_Check (n : Net) (hw : Wid n) : CallP Try.prog 14 [.d n.d] (retD [I (checkN n)]) := by
  have hwq := hw.q
  have hwa := hw.a
  refine exPure_sound (E := envOf Try.prog tt Try.f14.ntmps) (envOf_ok ttok mixed) Try.func14 (by rfl) rfl rfl (Nat.le_of_ble_eq_true rfl) ?_
  repeat' ((conv => whnf); first | with_reducible refine Dec.t (show true = true from rfl) ?_ | with_reducible refine Dec.t (show false = false from rfl) ?_ | with_reducible refine Dec.f (show ¬ (true = false) by decide) ?_ | with_reducible refine Dec.f (show ¬ (false = true) by decide) ?_ | refine Dec.t (by omega) ?_ | refine Dec.f (by omega) ?_ | refine Dec.split (fun _ => ?_) (fun _ => ?_) | refine Wr.id (by omega) ?_ | refine Chk.mk (by first | omega | exact rfl | (simp only [List.length_map]; omega) | (simp [room]; done) | (simp [room]; omega) | (simp [dropL, room]; done) | (simp [dropL, room]; omega)) ?_ | refine Nam.mk (List.length_map _) ?_ | refine Prep.skip ?_ | refine Eith.l ?_ | refine chk_t (x := D.flat _) (by assumption) ?_ | refine br_mk (fun _ => ?_) (fun _ => ?_) | fail)
  all_goals (conv => whnf)
  · rw [check_bad (fun h => by have := h.len; omega)]; exact DLe.refl _
  refine ALoop.at (E := envOf Try.prog tt Try.f14.ntmps) (envOf_ok ttok mixed) (X := Nat) (fun i => [(3, .d (I i))]) (fun _ => []) (fun i => i ≤ n.queue.length ∧ ∀ p ∈ n.queue.take i, p.ok) (fun i => n.queue.length - i) 0 (by repeat (first | exact trivial | refine And.intro rfl ?_ | refine And.intro (congrArg (fun n => V.d (I n)) (wrap_nat _ (by omega))) ?_)) rfl ⟨Nat.zero_le _, by simp⟩ ?_
  rintro i ⟨hi, hm⟩
  by_cases hlt : i < n.queue.length
  · obtain ⟨p, hx, _⟩ := drop_get hlt
    repeat' ((conv => whnf); first | with_reducible refine Dec.t (show true = true from rfl) ?_ | with_reducible refine Dec.t (show false = false from rfl) ?_ | with_reducible refine Dec.f (show ¬ (true = false) by decide) ?_ | with_reducible refine Dec.f (show ¬ (false = true) by decide) ?_ | refine Dec.t (by omega) ?_ | refine Dec.f (by omega) ?_ | refine Dec.split (fun _ => ?_) (fun _ => ?_) | refine Wr.id (by omega) ?_ | refine Chk.mk (by first | omega | exact rfl | (simp only [List.length_map]; omega) | (simp [room]; done) | (simp [room]; omega) | (simp [dropL, room]; done) | (simp [dropL, room]; omega)) ?_ | refine Nam.mk (List.length_map _) ?_ | refine Prep.skip ?_ | refine Eith.l ?_ | refine chk_t (x := D.flat _) (by assumption) ?_ | refine br_mk (fun _ => ?_) (fun _ => ?_) | refine nthK_mk (map_get hx) ?_ | refine ACall.ofB (ref46_Packet p) (fun _ => ?_) (fun _ => ?_) | refine APCall.ofB (ref46_Packet p) (fun _ => ?_) (fun _ => ?_) | fail)
    all_goals (conv => whnf)
    all_goals try simp only [decide_eq_true_eq, decide_eq_false_iff_not] at *
    · rename_i h
      exact ⟨i + 1, Wm.end (by repeat (first | exact trivial | refine And.intro rfl ?_ | refine And.intro (congrArg (fun n => V.d (I n)) (wrap_nat _ (by omega))) ?_)) rfl rfl rfl, ⟨hlt, snoc_all hx h hm⟩, by omega⟩
    · rename_i h
      rw [check_bad (fun hh => h (hh.pk p (List.mem_of_getElem? hx)))]; exact DLe.refl _
  · have : i = n.queue.length := by omega
    subst this
    rw [List.take_length] at hm
    clear hi hlt
    repeat' ((conv => whnf); first | with_reducible refine Dec.t (show true = true from rfl) ?_ | with_reducible refine Dec.t (show false = false from rfl) ?_ | with_reducible refine Dec.f (show ¬ (true = false) by decide) ?_ | with_reducible refine Dec.f (show ¬ (false = true) by decide) ?_ | refine Dec.t (by omega) ?_ | refine Dec.f (by omega) ?_ | refine Dec.split (fun _ => ?_) (fun _ => ?_) | refine Wr.id (by omega) ?_ | refine Chk.mk (by first | omega | exact rfl | (simp only [List.length_map]; omega) | (simp [room]; done) | (simp [room]; omega) | (simp [dropL, room]; done) | (simp [dropL, room]; omega)) ?_ | refine Nam.mk (List.length_map _) ?_ | refine Prep.skip ?_ | refine Eith.l ?_ | refine chk_t (x := D.flat _) (by assumption) ?_ | refine br_mk (fun _ => ?_) (fun _ => ?_) | fail)
    conv => whnf
    refine ALoop.at (E := envOf Try.prog tt Try.f14.ntmps) (envOf_ok ttok mixed) (X := Nat) (fun i => [(4, .d (I i))]) (fun _ => []) (fun i => i ≤ n.apart.length ∧ (∀ q ∈ n.apart.take i, q.ok) ∧ ∀ (j : Nat) (a b : Pair), j + 1 < i → n.apart[j]? = some a → n.apart[j + 1]? = some b → lessP a b) (fun i => n.apart.length - i) 0 (by repeat (first | exact trivial | refine And.intro rfl ?_ | refine And.intro (congrArg (fun n => V.d (I n)) (wrap_nat _ (by omega))) ?_)) rfl ⟨Nat.zero_le _, by simp, by simp⟩ ?_
    rintro i ⟨hi, hm2, hr⟩
    by_cases hlt : i < n.apart.length
    · obtain ⟨q, hx, _⟩ := drop_get hlt
      by_cases hqo : q.ok
      · have hqo' := hqo
        obtain ⟨q1, q2, q3⟩ := hqo
        cases i with
        | zero =>
          repeat' ((conv => whnf); first | with_reducible refine Dec.t (show true = true from rfl) ?_ | with_reducible refine Dec.t (show false = false from rfl) ?_ | with_reducible refine Dec.f (show ¬ (true = false) by decide) ?_ | with_reducible refine Dec.f (show ¬ (false = true) by decide) ?_ | refine Dec.t (by omega) ?_ | refine Dec.f (by omega) ?_ | refine Dec.split (fun _ => ?_) (fun _ => ?_) | refine Wr.id (by omega) ?_ | refine Chk.mk (by first | omega | exact rfl | (simp only [List.length_map]; omega) | (simp [room]; done) | (simp [room]; omega) | (simp [dropL, room]; done) | (simp [dropL, room]; omega)) ?_ | refine Nam.mk (List.length_map _) ?_ | refine Prep.skip ?_ | refine Eith.l ?_ | refine chk_t (x := D.flat _) (by assumption) ?_ | refine br_mk (fun _ => ?_) (fun _ => ?_) | refine nthK_mk (map_get hx) ?_ | refine ACall.ofB (ref46_Site q.a) (fun _ => ?_) (fun h => absurd q1 (of_decide_eq_false h)) | refine ACall.ofB (ref46_Site q.b) (fun _ => ?_) (fun h => absurd q2 (of_decide_eq_false h)) | fail)
          all_goals (conv => whnf)
          exact ⟨1, Wm.end (by repeat (first | exact trivial | refine And.intro rfl ?_ | refine And.intro (congrArg (fun n => V.d (I n)) (wrap_nat _ (by omega))) ?_)) rfl rfl rfl, ⟨hlt, snoc_all hx hqo' hm2, fun j a b hj => by omega⟩, by omega⟩
        | succ i =>
          obtain ⟨r, hy, _⟩ := drop_get (l := n.apart) (i := i) (by omega)
          have hy' : (n.apart.map Pair.d)[(((i + 1 : Nat) : Int) - 1).toNat]? = some r.d := by rw [show (((i + 1 : Nat) : Int) - 1).toNat = i by omega, List.getElem?_map, hy]; rfl
          have hx' : (n.apart.map Pair.d)[(((i + 1 : Nat) : Int)).toNat]? = some q.d := by rw [Int.toNat_natCast, List.getElem?_map, hx]; rfl
          have hcl := cf_less' r q
          by_cases hlp : lessP r q
          · have hcl := (cf_less r q).2 hlp
            have hlp' := hlp
            unfold lessP at hlp
            repeat' ((conv => whnf); first | with_reducible refine Dec.t (show true = true from rfl) ?_ | with_reducible refine Dec.t (show false = false from rfl) ?_ | with_reducible refine Dec.f (show ¬ (true = false) by decide) ?_ | with_reducible refine Dec.f (show ¬ (false = true) by decide) ?_ | refine Dec.t (by omega) ?_ | refine Dec.f (by omega) ?_ | refine Dec.split (fun _ => ?_) (fun _ => ?_) | refine Wr.id (by omega) ?_ | refine Chk.mk (by first | omega | exact rfl | (simp only [List.length_map]; omega) | (simp [room]; done) | (simp [room]; omega) | (simp [dropL, room]; done) | (simp [dropL, room]; omega)) ?_ | refine Nam.mk (List.length_map _) ?_ | refine Prep.skip ?_ | refine Eith.l ?_ | refine chk_t (x := D.flat _) (by assumption) ?_ | refine br_mk (fun _ => ?_) (fun _ => ?_) | refine nthK_mk hx' ?_ | refine nthK_mk hy' ?_ | refine ACall.ofB (ref46_Site q.a) (fun _ => ?_) (fun h => absurd q1 (of_decide_eq_false h)) | refine ACall.ofB (ref46_Site q.b) (fun _ => ?_) (fun h => absurd q2 (of_decide_eq_false h)) | fail | fail)
            all_goals first | (exfalso; omega) | skip
            all_goals (conv => whnf)
            all_goals exact ⟨i + 1 + 1, Wm.end (by repeat (first | exact trivial | refine And.intro rfl ?_ | refine And.intro (congrArg (fun n => V.d (I n)) (wrap_nat _ (by omega))) ?_)) rfl rfl rfl, ⟨hlt, snoc_all hx hqo' hm2, fun j a b hj ha hb => by
              by_cases hji : j = i
              · subst hji; rw [hy] at ha; rw [hx] at hb; cases ha; cases hb; exact hlp'
              · exact hr j a b (by omega) ha hb⟩, by omega⟩
          · have hcl := hcl.2 hlp
            rw [check_bad (fun hh => hlp ((chain_iff _).1 hh.ch i r q hy hx))]
            unfold lessP at hlp
            repeat' ((conv => whnf); first | with_reducible refine Dec.t (show true = true from rfl) ?_ | with_reducible refine Dec.t (show false = false from rfl) ?_ | with_reducible refine Dec.f (show ¬ (true = false) by decide) ?_ | with_reducible refine Dec.f (show ¬ (false = true) by decide) ?_ | refine Dec.t (by omega) ?_ | refine Dec.f (by omega) ?_ | refine Dec.split (fun _ => ?_) (fun _ => ?_) | refine Wr.id (by omega) ?_ | refine Chk.mk (by first | omega | exact rfl | (simp only [List.length_map]; omega) | (simp [room]; done) | (simp [room]; omega) | (simp [dropL, room]; done) | (simp [dropL, room]; omega)) ?_ | refine Nam.mk (List.length_map _) ?_ | refine Prep.skip ?_ | refine Eith.l ?_ | refine chk_t (x := D.flat _) (by assumption) ?_ | refine br_mk (fun _ => ?_) (fun _ => ?_) | refine nthK_mk hx' ?_ | refine nthK_mk hy' ?_ | refine ACall.ofB (ref46_Site q.a) (fun _ => ?_) (fun h => absurd q1 (of_decide_eq_false h)) | refine ACall.ofB (ref46_Site q.b) (fun _ => ?_) (fun h => absurd q2 (of_decide_eq_false h)) | fail | fail)
            all_goals first | (exfalso; omega) | skip
            all_goals (conv => whnf)
            all_goals exact DLe.refl _
      · rw [check_bad (fun hh => hqo (hh.pr q (List.mem_of_getElem? hx)))]
        unfold Pair.ok at hqo
        by_cases q1 : site q.a
        · by_cases q2 : site q.b
          · have q3 : ¬ q.a < q.b := fun h => hqo ⟨q1, q2, h⟩
            clear hqo
            repeat' ((conv => whnf); first | with_reducible refine Dec.t (show true = true from rfl) ?_ | with_reducible refine Dec.t (show false = false from rfl) ?_ | with_reducible refine Dec.f (show ¬ (true = false) by decide) ?_ | with_reducible refine Dec.f (show ¬ (false = true) by decide) ?_ | refine Dec.t (by omega) ?_ | refine Dec.f (by omega) ?_ | refine Dec.split (fun _ => ?_) (fun _ => ?_) | refine Wr.id (by omega) ?_ | refine Chk.mk (by first | omega | exact rfl | (simp only [List.length_map]; omega) | (simp [room]; done) | (simp [room]; omega) | (simp [dropL, room]; done) | (simp [dropL, room]; omega)) ?_ | refine Nam.mk (List.length_map _) ?_ | refine Prep.skip ?_ | refine Eith.l ?_ | refine chk_t (x := D.flat _) (by assumption) ?_ | refine br_mk (fun _ => ?_) (fun _ => ?_) | refine nthK_mk (map_get hx) ?_ | refine ACall.ofB (ref46_Site q.a) (fun _ => ?_) (fun h => absurd q1 (of_decide_eq_false h)) | refine ACall.ofB (ref46_Site q.b) (fun _ => ?_) (fun h => absurd q2 (of_decide_eq_false h)) | fail)
            all_goals first | (exfalso; omega) | skip
            all_goals (conv => whnf)
            all_goals exact DLe.refl _
          · clear hqo
            repeat' ((conv => whnf); first | with_reducible refine Dec.t (show true = true from rfl) ?_ | with_reducible refine Dec.t (show false = false from rfl) ?_ | with_reducible refine Dec.f (show ¬ (true = false) by decide) ?_ | with_reducible refine Dec.f (show ¬ (false = true) by decide) ?_ | refine Dec.t (by omega) ?_ | refine Dec.f (by omega) ?_ | refine Dec.split (fun _ => ?_) (fun _ => ?_) | refine Wr.id (by omega) ?_ | refine Chk.mk (by first | omega | exact rfl | (simp only [List.length_map]; omega) | (simp [room]; done) | (simp [room]; omega) | (simp [dropL, room]; done) | (simp [dropL, room]; omega)) ?_ | refine Nam.mk (List.length_map _) ?_ | refine Prep.skip ?_ | refine Eith.l ?_ | refine chk_t (x := D.flat _) (by assumption) ?_ | refine br_mk (fun _ => ?_) (fun _ => ?_) | refine nthK_mk (map_get hx) ?_ | refine ACall.ofB (ref46_Site q.a) (fun _ => ?_) (fun h => absurd q1 (of_decide_eq_false h)) | refine ACall.ofB (ref46_Site q.b) (fun h => absurd (of_decide_eq_true h) q2) (fun _ => ?_) | fail)
            all_goals (conv => whnf)
            all_goals exact DLe.refl _
        · clear hqo
          repeat' ((conv => whnf); first | with_reducible refine Dec.t (show true = true from rfl) ?_ | with_reducible refine Dec.t (show false = false from rfl) ?_ | with_reducible refine Dec.f (show ¬ (true = false) by decide) ?_ | with_reducible refine Dec.f (show ¬ (false = true) by decide) ?_ | refine Dec.t (by omega) ?_ | refine Dec.f (by omega) ?_ | refine Dec.split (fun _ => ?_) (fun _ => ?_) | refine Wr.id (by omega) ?_ | refine Chk.mk (by first | omega | exact rfl | (simp only [List.length_map]; omega) | (simp [room]; done) | (simp [room]; omega) | (simp [dropL, room]; done) | (simp [dropL, room]; omega)) ?_ | refine Nam.mk (List.length_map _) ?_ | refine Prep.skip ?_ | refine Eith.l ?_ | refine chk_t (x := D.flat _) (by assumption) ?_ | refine br_mk (fun _ => ?_) (fun _ => ?_) | refine nthK_mk (map_get hx) ?_ | refine ACall.ofB (ref46_Site q.a) (fun h => absurd (of_decide_eq_true h) q1) (fun _ => ?_) | fail)
          all_goals (conv => whnf)
          all_goals exact DLe.refl _
    · have : i = n.apart.length := by omega
      subst this
      rw [List.take_length] at hm2
      rename_i hle
      rw [check_ok ⟨by omega, hm, hm2, (chain_iff _).2 fun j a b ha hb => hr j a b (List.getElem?_eq_some_iff.1 hb).1 ha hb⟩]
      repeat' ((conv => whnf); first | with_reducible refine Dec.t (show true = true from rfl) ?_ | with_reducible refine Dec.t (show false = false from rfl) ?_ | with_reducible refine Dec.f (show ¬ (true = false) by decide) ?_ | with_reducible refine Dec.f (show ¬ (false = true) by decide) ?_ | refine Dec.t (by omega) ?_ | refine Dec.f (by omega) ?_ | refine Dec.split (fun _ => ?_) (fun _ => ?_) | refine Wr.id (by omega) ?_ | refine Chk.mk (by first | omega | exact rfl | (simp only [List.length_map]; omega) | (simp [room]; done) | (simp [room]; omega) | (simp [dropL, room]; done) | (simp [dropL, room]; omega)) ?_ | refine Nam.mk (List.length_map _) ?_ | refine Prep.skip ?_ | refine Eith.l ?_ | refine chk_t (x := D.flat _) (by assumption) ?_ | refine br_mk (fun _ => ?_) (fun _ => ?_) | fail)
      all_goals (conv => whnf)
      exact DLe.refl _
end Go.PM

