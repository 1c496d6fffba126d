/- Deltas, reference: numbers. -/
import Derived.Test.YtfckliidjmeeaaaDoorD42ntoD42o
namespace Go.PM
open Go.Proofs
set_option maxRecDepth 10000
set_option maxHeartbeats 2000000
theorem Wr.i64 {n : Int} {K : Int → Prop} (m : Int) (e : n = m) (h : -9223372036854775808 ≤ m ∧ m < 9223372036854775808) (a : K m) : Wr .i64 n K := by subst e; exact .id h a
theorem tdivN (n k : Nat) : (n : Int).tdiv (k : Int) = ((n / k : Nat) : Int) := (Int.ofNat_tdiv n k).symm
theorem tmodN (n k : Nat) : (n : Int).tmod (k : Int) = ((n % k : Nat) : Int) := (Int.ofNat_tmod n k).symm
theorem tmod10 (n : Nat) : (n : Int).tmod 10 = ((n % 10 : Nat) : Int) := tmodN n 10
theorem tdiv10 (n : Nat) : (n : Int).tdiv 10 = ((n / 10 : Nat) : Int) := tdivN n 10
theorem decs_lt {n : Nat} (h : n < 10) : decs n = [UInt8.ofNat (48 + n)] := by unfold decs Go.Lib.decDigits; rw [dif_pos h]
theorem decs_ge {n : Nat} (h : ¬ n < 10) : decs n = decs (n / 10) ++ [UInt8.ofNat (48 + n % 10)] := by unfold decs; rw [Go.Lib.decDigits, dif_neg h]
theorem ref42_Number0 (n : Nat) (hn : n < 9223372036854775808) : CallP Tryd.prog 37 [.d (I n)] (retD [.s ⟨(itoa n).toArray⟩]) := by
  induction n using Nat.strongRecOn with
  | _ n ih =>
  by_cases h : n < 10
  · refine exPure_sound (E := envOf Tryd.prog tt Tryd.f37.ntmps) (envOf_ok ttok mixed) Tryd.func37 (by rfl) rfl rfl (Nat.le_of_ble_eq_true rfl) ?_
    repeat' ((conv => whnf); first | (with_reducible first | refine dT ?_ | refine dU ?_ | refine dF ?_ | refine dG ?_) | refine aT ?_ | refine aF ?_ | refine dS (fun _ => ?_) fun _ => ?_ | refine aW ?_ | refine aC ?_ | refine aL ?_ | refine Prep.skip ?_ | refine Eith.l ?_ | refine aD ?_ | refine aB (fun _ => ?_) fun _ => ?_ | (conv => whnf); first | refine Wr.u8 ((48 + n : Nat) : Int) (by omega) (by omega) ?_ | refine Nam.mk (y := some [UInt8.ofNat (48 + n)]) rfl ?_ | (with_reducible first | refine dT ?_ | refine dU ?_ | refine dF ?_ | refine dG ?_) | refine aT ?_ | refine aF ?_ | refine dS (fun _ => ?_) fun _ => ?_ | refine aW ?_ | refine aC ?_ | refine aL ?_ | refine Prep.skip ?_ | refine Eith.l ?_ | refine aD ?_ | refine aB (fun _ => ?_) fun _ => ?_ | fail)
    all_goals (conv => whnf)
    rw [itoa_nat, decs_lt h]
    exact DLe.refl _
  · have ih := ih (n / 10) (by omega) (by omega)
    have hil := itoa_len ((n / 10 : Nat) : Int) (by omega)
    rw [itoa_nat] at ih hil
    refine exPure_sound (E := envOf Tryd.prog tt Tryd.f37.ntmps) (envOf_ok ttok mixed) Tryd.func37 (by rfl) rfl rfl (Nat.le_of_ble_eq_true rfl) ?_
    repeat' ((conv => whnf); first | refine Wr.i64 ((n / 10 : Nat) : Int) (tdivN n 10) (by omega) ?_ | refine Wr.i64 ((n % 10 : Nat) : Int) (tmodN n 10) (by omega) ?_ | refine Wr.i64 ((48 + n % 10 : Nat) : Int) (by rw [tmod10]; omega) (by omega) ?_ | refine Wr.u8 ((48 + n % 10 : Nat) : Int) (by omega) (by omega) ?_ | refine Nam.mk (y := some [UInt8.ofNat (48 + n % 10)]) rfl ?_ | refine Chk.mk (baC (decs (n / 10)) [UInt8.ofNat (48 + n % 10)] (by simp only [List.length_cons, List.length_nil]; omega)) ?_ | refine Nam.mk (ba_app (decs (n / 10)) [UInt8.ofNat (48 + n % 10)]) ?_ | (with_reducible first | refine dT ?_ | refine dU ?_ | refine dF ?_ | refine dG ?_) | refine aT ?_ | refine aF ?_ | refine dS (fun _ => ?_) fun _ => ?_ | refine aW ?_ | refine aC ?_ | refine aL ?_ | refine Prep.skip ?_ | refine Eith.l ?_ | refine aD ?_ | refine aB (fun _ => ?_) fun _ => ?_ | refine ACall.of ih ?_ | refine APCall.of ih ?_ | fail)
    all_goals (conv => whnf)
    rw [itoa_nat, decs_ge h]
    exact DLe.refl _
theorem tdivNeg (m : Nat) : (-(m : Int)).tdiv 10 = -((m / 10 : Nat) : Int) := by rw [Int.neg_tdiv, tdiv10]
theorem tmodNeg (m : Nat) : (-(m : Int)).tmod 10 = -((m % 10 : Nat) : Int) := by rw [Int.neg_tmod, tmod10]
structure XNum where
  m : Nat
  s : List UInt8
theorem ref42_Number1 (n : Nat) (h0 : 0 < n) (hn : n ≤ 9223372036854775808) : CallP Tryd.prog 37 [.d (I (-(n : Int)))] (retD [.s ⟨(itoa (-(n : Int))).toArray⟩]) := by
  refine exPure_sound (E := envOf Tryd.prog tt Tryd.f37.ntmps) (envOf_ok ttok mixed) Tryd.func37 (by rfl) rfl rfl (Nat.le_of_ble_eq_true rfl) ?_
  repeat' ((conv => whnf); first | (with_reducible first | refine dT ?_ | refine dU ?_ | refine dF ?_ | refine dG ?_) | refine aT ?_ | refine aF ?_ | refine dS (fun _ => ?_) fun _ => ?_ | refine aW ?_ | refine aC ?_ | refine aL ?_ | refine Prep.skip ?_ | refine Eith.l ?_ | refine aD ?_ | refine aB (fun _ => ?_) fun _ => ?_ | fail)
  all_goals (conv => whnf)
  refine ALoop.at (E := envOf Tryd.prog tt Tryd.f37.ntmps) (envOf_ok ttok mixed) (X := XNum) (fun x => [(0, .d (I (-(x.m : Int)))), (3, .d (.s ⟨x.s.toArray⟩))]) (fun _ => []) (fun x => 0 < x.m ∧ x.m ≤ n ∧ decs n = decs x.m ++ x.s) (fun x => x.m) ⟨n, []⟩ sam rfl ⟨h0, Nat.le_refl _, (List.append_nil _).symm⟩ ?_
  rintro ⟨m, t⟩ ⟨hm, hmn, hd⟩
  dsimp only at hm hmn hd
  dsimp only
  have hdl := decs_len (u := n) (by omega)
  rw [hd, List.length_append] at hdl
  by_cases hlt : 9 < m
  · repeat' ((conv => whnf); first | refine Wr.i64 (-((m / 10 : Nat) : Int)) (tdivNeg m) (by omega) ?_ | refine Wr.i64 ((48 + m % 10 : Nat) : Int) (by rw [tmodNeg]; omega) (by omega) ?_ | refine Wr.u8 ((48 + m % 10 : Nat) : Int) (by omega) (by omega) ?_ | refine Nam.mk (y := some [UInt8.ofNat (48 + m % 10)]) rfl ?_ | refine Chk.mk (baC [UInt8.ofNat (48 + m % 10)] t (by simp only [List.length_cons, List.length_nil]; omega)) ?_ | refine Nam.mk (ba_app [UInt8.ofNat (48 + m % 10)] t) ?_ | (with_reducible first | refine dT ?_ | refine dU ?_ | refine dF ?_ | refine dG ?_) | refine aT ?_ | refine aF ?_ | refine dS (fun _ => ?_) fun _ => ?_ | refine aW ?_ | refine aC ?_ | refine aL ?_ | refine Prep.skip ?_ | refine Eith.l ?_ | refine aD ?_ | refine aB (fun _ => ?_) fun _ => ?_ | fail)
    all_goals (conv => whnf)
    all_goals first | (exfalso; omega) | skip
    refine ⟨⟨m / 10, [UInt8.ofNat (48 + m % 10)] ++ t⟩, Wm.end sam rfl rfl rfl, ⟨by show 0 < m / 10; omega, by show m / 10 ≤ n; omega, ?_⟩, by show m / 10 < m; omega⟩
    show decs n = decs (m / 10) ++ ([UInt8.ofNat (48 + m % 10)] ++ t)
    rw [hd, decs_ge (by omega : ¬ m < 10), List.append_assoc]
  · repeat' ((conv => whnf); first | refine Wr.i64 ((48 + m : Nat) : Int) (by omega) (by omega) ?_ | refine Wr.u8 ((48 + m : Nat) : Int) (by omega) (by omega) ?_ | refine Nam.mk (y := some [UInt8.ofNat (48 + m)]) rfl ?_ | refine Chk.mk (baC [45] [UInt8.ofNat (48 + m)] (by simp)) ?_ | refine Nam.mk (ba_app [45] [UInt8.ofNat (48 + m)]) ?_ | refine Chk.mk (baC [45, UInt8.ofNat (48 + m)] t (by simp only [List.length_cons, List.length_nil]; omega)) ?_ | refine Nam.mk (ba_app [45, UInt8.ofNat (48 + m)] t) ?_ | (with_reducible first | refine dT ?_ | refine dU ?_ | refine dF ?_ | refine dG ?_) | refine aT ?_ | refine aF ?_ | refine dS (fun _ => ?_) fun _ => ?_ | refine aW ?_ | refine aC ?_ | refine aL ?_ | refine Prep.skip ?_ | refine Eith.l ?_ | refine aD ?_ | refine aB (fun _ => ?_) fun _ => ?_ | fail)
    all_goals (conv => whnf)
    all_goals first | (exfalso; omega) | skip
    rw [itoa_negs (by omega), Int.natAbs_neg, Int.natAbs_natCast, hd, decs_lt (by omega : m < 10)]
    exact DLe.refl _
theorem ref42_Number (n : Int) (h : okI n) : CallP Tryd.prog 37 [.d (I n)] (retD [.s ⟨(itoa n).toArray⟩]) := by
  obtain ⟨h1, h2⟩ := h
  by_cases hn : 0 ≤ n
  · obtain ⟨m, rfl⟩ : ∃ m : Nat, n = m := ⟨n.toNat, by omega⟩
    exact ref42_Number0 m (by omega)
  · obtain ⟨m, rfl⟩ : ∃ m : Nat, n = -(m : Int) := ⟨(-n).toNat, by omega⟩
    exact ref42_Number1 m (by omega) (by omega)
end Go.PM
/- Deltas, reference: texts. -/
namespace Go.PM
open Go.Proofs
set_option maxRecDepth 10000
set_option maxHeartbeats 2000000
theorem outT_cons (xs w : List UInt8) (ws : List (List UInt8)) : outT xs (w :: ws) = outT (outW xs w) ws := rfl
theorem outW_ne (xs w : List UInt8) (h : w ≠ []) : outW xs w ≠ [] := by
  unfold outW; split
  · exact h
  · simp [h]
theorem outT_pre : ∀ (ws : List (List UInt8)) (xs ys : List UInt8), ys ≠ [] → outT (xs ++ ys) ws = xs ++ outT ys ws
  | [], _, _, _ => rfl
  | w :: ws, xs, ys, h => by
    rw [outT_cons, outT_cons]
    have e : outW (xs ++ ys) w = xs ++ outW ys w := by
      unfold outW; rw [if_neg (by simp [h]), if_neg h]; simp [List.append_assoc]
    have hn : outW ys w ≠ [] := by unfold outW; rw [if_neg h]; simp
    rw [e, outT_pre ws xs _ hn]
theorem outT_sep {ws : List (List UInt8)} (hw : ∀ w ∈ ws, w ≠ []) (h : ws ≠ []) {xs : List UInt8} (hx : xs ≠ []) : outT xs ws = xs ++ [32] ++ outT [] ws := by
  cases ws with
  | nil => exact absurd rfl h
  | cons w ws =>
    rw [outT_cons, outT_cons]
    have hwn := hw w (.head _)
    rw [show outW xs w = (xs ++ [32]) ++ w from by unfold outW; rw [if_neg hx], show outW [] w = w from rfl]
    exact outT_pre ws _ _ hwn
theorem itoa_ne (n : Int) : itoa n ≠ [] := by
  by_cases hn : n < 0
  · rw [itoa_negs hn]; simp
  · obtain ⟨m, rfl⟩ : ∃ m : Nat, n = m := ⟨n.toNat, by omega⟩
    rw [itoa_nat]
    unfold decs
    rw [Go.Lib.decDigits]
    split <;> simp
theorem wordsI_ne (l : List Int) : ∀ w ∈ wordsI l, w ≠ [] := by
  intro w hw
  obtain ⟨n, _, rfl⟩ := List.mem_map.1 hw
  exact itoa_ne n
theorem outI_len : ∀ (l : List Int) (xs : List UInt8), (∀ n ∈ l, okI n) → (outT xs (wordsI l)).length ≤ xs.length + 22 * l.length
  | [], xs, _ => by simp [wordsI, outT]
  | n :: l, xs, h => by
    have hi := itoa_len n (h n (.head _))
    have ih := outI_len l (outW xs (itoa n)) fun m hm => h m (.tail _ hm)
    have : (outW xs (itoa n)).length ≤ xs.length + 22 := by
      unfold outW; split
      · omega
      · simp; omega
    show (outT (outW xs (itoa n)) (wordsI l)).length ≤ _
    simp only [List.length_cons]; omega
theorem outI_snoc {l : List Int} {i : Nat} {n : Int} (h : l[i]? = some n) : outT [] (wordsI (l.take (i + 1))) = outW (outT [] (wordsI (l.take i))) (itoa n) := by
  rw [List.take_add_one, h]
  simp only [Option.toList_some, wordsI, List.map_append, List.map_cons, List.map_nil]
  rw [outT_app]; rfl
theorem outI_pos (l : List Int) {i : Nat} (h : 0 < i) (hi : i ≤ l.length) : outT [] (wordsI (l.take i)) ≠ [] := by
  cases l with
  | nil => simp at hi; omega
  | cons n l =>
    obtain ⟨j, rfl⟩ : ∃ j, i = j + 1 := ⟨i - 1, by omega⟩
    rw [List.take_succ_cons]
    show outT (outW [] (itoa n)) (wordsI (l.take j)) ≠ []
    intro e
    have h1 := outT_le (wordsI (l.take j)) (outW [] (itoa n))
    rw [e] at h1
    exact outW_ne [] (itoa n) (itoa_ne n) (List.eq_nil_of_length_eq_zero (by simpa using h1))
theorem ref42_numbers (l : List Int) (f : Bool) (hl : l.length < 2 ^ 28) (ho : ∀ n ∈ l, okI n) : CallP Tryd.prog 34 [.d (.sl 1 f (l.map I))] (retD [.s ⟨(outT [] (wordsI l)).toArray⟩]) := by
  refine exPure_sound (E := envOf Tryd.prog tt Tryd.f34.ntmps) (envOf_ok ttok mixed) Tryd.func34 (by rfl) rfl rfl (Nat.le_of_ble_eq_true rfl) ?_
  repeat' ((conv => whnf); first | (with_reducible first | refine dT ?_ | refine dU ?_ | refine dF ?_ | refine dG ?_) | refine aT ?_ | refine aF ?_ | refine dS (fun _ => ?_) fun _ => ?_ | refine aW ?_ | refine aC ?_ | refine aL ?_ | refine Prep.skip ?_ | refine Eith.l ?_ | refine aD ?_ | refine aB (fun _ => ?_) fun _ => ?_ | fail)
  all_goals (conv => whnf)
  refine ALoop.at (E := envOf Tryd.prog tt Tryd.f34.ntmps) (envOf_ok ttok mixed) (X := Nat) (fun i => [(4, .d (I i)), (3, .d (.s ⟨(outT [] (wordsI (l.take i))).toArray⟩))]) (fun _ => []) (fun i => i ≤ l.length) (fun i => l.length - i) 0 sam rfl (Nat.zero_le _) ?_
  intro i hi
  by_cases hlt : i < l.length
  · obtain ⟨n, hn, _⟩ := drop_get hlt
    have hno := ho n (List.mem_of_getElem? hn)
    have hil := itoa_len n hno
    have hb := outI_len (l.take i) [] fun m hm => ho m (List.mem_of_mem_take hm)
    rw [List.length_take, List.length_nil] at hb
    have hnext := outI_snoc hn
    by_cases h0 : 0 < i
    · have hp := outI_pos l h0 hi
      rw [show outW (outT [] (wordsI (l.take i))) (itoa n) = outT [] (wordsI (l.take i)) ++ [32] ++ itoa n from by unfold outW; rw [if_neg hp]] at hnext
      repeat' ((conv => whnf); first | refine Chk.mk (baC _ [32] (by simp only [List.length_cons, List.length_nil]; omega)) ?_ | refine Nam.mk (ba_app _ [32]) ?_ | refine Chk.mk (baC (outT [] (wordsI (l.take i)) ++ [32]) (itoa n) (by simp only [List.length_append, List.length_cons, List.length_nil]; omega)) ?_ | refine Nam.mk (ba_app (outT [] (wordsI (l.take i)) ++ [32]) (itoa n)) ?_ | (with_reducible first | refine dT ?_ | refine dU ?_ | refine dF ?_ | refine dG ?_) | refine aT ?_ | refine aF ?_ | refine dS (fun _ => ?_) fun _ => ?_ | refine aW ?_ | refine aC ?_ | refine aL ?_ | refine Prep.skip ?_ | refine Eith.l ?_ | refine aD ?_ | refine aB (fun _ => ?_) fun _ => ?_ | refine nthK_mk (map_get (f := I) hn) ?_ | refine ACall.of (ref42_Number n hno) ?_ | refine APCall.of (ref42_Number n hno) ?_ | fail)
      all_goals (conv => whnf)
      all_goals first | (exfalso; omega) | skip
      refine ⟨i + 1, ?_, hlt, by show l.length - (i + 1) < l.length - i; omega⟩
      rw [hnext]
      exact Wm.end sam rfl rfl rfl
    · have hi0 : i = 0 := by omega
      subst hi0
      rw [show outW (outT [] (wordsI (l.take 0))) (itoa n) = itoa n from rfl] at hnext
      rw [show outT [] (wordsI (l.take 0)) = [] from rfl]
      repeat' ((conv => whnf); first | refine Chk.mk (baC [] (itoa n) (by simp only [List.length_cons, List.length_nil]; omega)) ?_ | refine Nam.mk (ba_app [] (itoa n)) ?_ | (with_reducible first | refine dT ?_ | refine dU ?_ | refine dF ?_ | refine dG ?_) | refine aT ?_ | refine aF ?_ | refine dS (fun _ => ?_) fun _ => ?_ | refine aW ?_ | refine aC ?_ | refine aL ?_ | refine Prep.skip ?_ | refine Eith.l ?_ | refine aD ?_ | refine aB (fun _ => ?_) fun _ => ?_ | refine nthK_mk (map_get (f := I) hn) ?_ | refine ACall.of (ref42_Number n hno) ?_ | refine APCall.of (ref42_Number n hno) ?_ | fail)
      all_goals (conv => whnf)
      all_goals first | (exfalso; omega) | skip
      refine ⟨0 + 1, ?_, hlt, by show l.length - (0 + 1) < l.length - 0; omega⟩
      rw [hnext]
      exact Wm.end sam rfl rfl rfl
  · have hti : l.take i = l := List.take_of_length_le (by omega)
    repeat' ((conv => whnf); first | (with_reducible first | refine dT ?_ | refine dU ?_ | refine dF ?_ | refine dG ?_) | refine aT ?_ | refine aF ?_ | refine dS (fun _ => ?_) fun _ => ?_ | refine aW ?_ | refine aC ?_ | refine aL ?_ | refine Prep.skip ?_ | refine Eith.l ?_ | refine aD ?_ | refine aB (fun _ => ?_) fun _ => ?_ | fail)
    all_goals (conv => whnf)
    all_goals first | (exfalso; omega) | (rw [hti]; exact DLe.refl _)
end Go.PM
/- Deltas, reference: lists, verdicts, answers. -/
namespace Go.PM
open Go.Proofs
set_option maxRecDepth 10000
set_option maxHeartbeats 2000000
theorem ref42_list (l : List Int) (hl : l.length < 2 ^ 27) (ho : ∀ n ∈ l, okI n) : CallP Tryd.prog 73 [.d (SL 1 (l.map I))] (retD [.s ⟨(outT [] (wordsL l)).toArray⟩]) := by
  have hC := ref42_numbers (((l.length : Nat) : Int) :: l) false (by simp; omega) (by
    intro n hn
    rcases List.mem_cons.1 hn with rfl | hn
    · exact ⟨by omega, by omega⟩
    · exact ho n hn)
  have hC' := ref42_numbers (((l.length : Nat) : Int) :: l) true (by simp; omega) (by
    intro n hn
    rcases List.mem_cons.1 hn with rfl | hn
    · exact ⟨by omega, by omega⟩
    · exact ho n hn)
  by_cases he : l = []
  · subst he
    show CallP _ _ [.d (SL 1 [])] _
    refine exPure_sound (E := envOf Tryd.prog tt Tryd.f73.ntmps) (envOf_ok ttok mixed) Tryd.func73 (by rfl) rfl rfl (Nat.le_of_ble_eq_true rfl) ?_
    have hnil : ([] : List D) = [] := rfl
    repeat' ((conv => whnf); first | refine Eith.r (Chk.mk (by assumption) ?_) | (with_reducible first | refine dT ?_ | refine dU ?_ | refine dF ?_ | refine dG ?_) | refine aT ?_ | refine aF ?_ | refine dS (fun _ => ?_) fun _ => ?_ | refine aW ?_ | refine aC ?_ | refine aL ?_ | refine Prep.skip ?_ | refine Eith.l ?_ | refine aD ?_ | refine aB (fun _ => ?_) fun _ => ?_ | refine Nam.mk (y := 0) rfl ?_ | refine ACall.of hC' ?_ | refine APCall.of hC' ?_ | fail)
    all_goals (conv => whnf)
    exact DLe.refl _
  · refine exPure_sound (E := envOf Tryd.prog tt Tryd.f73.ntmps) (envOf_ok ttok mixed) Tryd.func73 (by rfl) rfl rfl (Nat.le_of_ble_eq_true rfl) ?_
    repeat' ((conv => whnf); first | refine Eith.r (Chk.mk (by assumption) ?_) | (with_reducible first | refine dT ?_ | refine dU ?_ | refine dF ?_ | refine dG ?_) | refine aT ?_ | refine aF ?_ | refine dS (fun _ => ?_) fun _ => ?_ | refine aW ?_ | refine aC ?_ | refine aL ?_ | refine Prep.skip ?_ | refine Eith.l ?_ | refine aD ?_ | refine aB (fun _ => ?_) fun _ => ?_ | refine Chk.mk ⟨.inr (by simpa using he), by simp [room]; omega⟩ ?_ | refine Nam.mk (y := (((l.length : Nat) : Int) :: l).map I) ((List.take_of_length_le (by simp <;> omega)).trans (by simp)) ?_ | refine ACall.of hC ?_ | refine APCall.of hC ?_ | refine ACall.lift ?_ | fail)
    all_goals (conv => whnf)
    exact DLe.refl _
theorem ref42_bit (x : Bool) : CallP Tryd.prog 74 [.d (.b x)] (retD [I (if x then 1 else 0)]) := by
  cases x
  all_goals
    refine exPure_sound (E := envOf Tryd.prog tt Tryd.f74.ntmps) (envOf_ok ttok mixed) Tryd.func74 (by rfl) rfl rfl (Nat.le_of_ble_eq_true rfl) ?_
    repeat' ((conv => whnf); first | (with_reducible first | refine dT ?_ | refine dU ?_ | refine dF ?_ | refine dG ?_) | refine aT ?_ | refine aF ?_ | refine dS (fun _ => ?_) fun _ => ?_ | refine aW ?_ | refine aC ?_ | refine aL ?_ | refine Prep.skip ?_ | refine Eith.l ?_ | refine aD ?_ | refine aB (fun _ => ?_) fun _ => ?_ | fail)
    all_goals (conv => whnf)
    all_goals exact DLe.refl _
theorem ratM_ne (r : Rat) : ratM r ≠ [] := by
  unfold ratM
  split <;> simp
theorem words_ne (p : Part) : p.words ≠ [] ∧ ∀ w ∈ p.words, w ≠ [] := by
  have hI := wordsI_ne
  have hL : ∀ l, ∀ w ∈ wordsL l, w ≠ [] := fun l w hw => by
    rcases List.mem_cons.1 hw with rfl | hw
    · exact itoa_ne _
    · exact hI l w hw
  cases p with
  | int n => exact ⟨by simp [Part.words], hI [n]⟩
  | bool x => exact ⟨by simp [Part.words], hI [if x then 1 else 0]⟩
  | ints l => exact ⟨by simp [Part.words, wordsL], hL l⟩
  | ratio r => exact ⟨by simp [Part.words], fun w hw => by rw [List.mem_singleton.1 hw]; exact ratM_ne r⟩
  | line a b c => exact ⟨by simp [Part.words, wordsI], hI _⟩
  | branch l a b c => exact ⟨by simp [Part.words, wordsL], fun w hw => by
      rcases List.mem_append.1 hw with h | h
      · exact hL l w h
      · exact hI _ w h⟩
  | read a b c d e => exact ⟨by simp [Part.words, wordsI], hI _⟩
theorem wordsP_ne (l : List Part) : ∀ w ∈ wordsP l, w ≠ [] := by
  intro w hw
  obtain ⟨p, _, hp⟩ := List.mem_flatMap.1 hw
  exact (words_ne p).2 w hp
theorem wordsP_cons (p : Part) (l : List Part) : wordsP (p :: l) = p.words ++ wordsP l := rfl
theorem outT_ne {ws : List (List UInt8)} (hw : ∀ w ∈ ws, w ≠ []) (h : ws ≠ []) : outT [] ws ≠ [] := by
  cases ws with
  | nil => exact absurd rfl h
  | cons w ws =>
    intro e
    have h1 := outT_le ws (outW [] w)
    rw [← outT_cons, e] at h1
    exact outW_ne [] w (hw w (.head _)) (List.eq_nil_of_length_eq_zero (by simpa using h1))
theorem outT_join {a b : List (List UInt8)} (ha : ∀ w ∈ a, w ≠ []) (hb : ∀ w ∈ b, w ≠ []) (h1 : a ≠ []) (h2 : b ≠ []) : outT [] (a ++ b) = outT [] a ++ [32] ++ outT [] b := by
  rw [outT_app]
  exact outT_sep hb h2 (outT_ne ha h1)
theorem txt_app {a b : List Part} (h1 : a ≠ []) (h2 : b ≠ []) : txt (a ++ b) = txt a ++ [32] ++ txt b := by
  have wn : ∀ l : List Part, l ≠ [] → wordsP l ≠ [] := fun l h => by
    cases l with
    | nil => exact absurd rfl h
    | cons p l => rw [wordsP_cons]; simp [(words_ne p).1]
  unfold txt
  rw [show wordsP (a ++ b) = wordsP a ++ wordsP b from List.flatMap_append]
  exact outT_join (wordsP_ne a) (wordsP_ne b) (wn a h1) (wn b h2)
theorem txt_pre (a b : List Part) : (txt a).length ≤ (txt (a ++ b)).length := by
  unfold txt
  rw [show wordsP (a ++ b) = wordsP a ++ wordsP b from List.flatMap_append, outT_app]
  exact outT_le _ _
theorem txt_int (n : Int) : txt [.int n] = itoa n := rfl
theorem txt_ints (l : List Int) : txt [.ints l] = outT [] (wordsL l) := by simp [txt, wordsP, Part.words]
theorem txt_bran (l : List Int) (a b c : Int) : txt [.branch l a b c] = outT [] (wordsL l) ++ [32] ++ outT [] (wordsI [a, b, c]) := by
  simp only [txt, wordsP, List.flatMap_cons, List.flatMap_nil, List.append_nil]
  refine outT_join (fun w hw => ?_) (wordsI_ne _) (by simp [wordsL]) (by simp [wordsI])
  exact (words_ne (.ints l)).2 w hw
theorem txt_read (a b c d e : Int) : txt [.read a b c d e] = outT [] (wordsI [a, b, c, d, e]) := by simp [txt, wordsP, Part.words]
end Go.PM
/- Deltas, reference: verdicts and answers. -/
namespace Go.PM
open Go.Proofs
set_option maxRecDepth 10000
set_option maxHeartbeats 2000000
def okIs (l : List Int) : Prop := (∀ n ∈ l, okI n) ∧ l.length < 2 ^ 27
structure Ver.okR (x : Ver) : Prop where
  kind : okI x.kind
  wth : okIs x.wth
  wo : okIs x.wo
  n : x.leaves.length < 2 ^ 27
  leaves : ∀ b ∈ x.leaves, okIs b.ch ∧ okI b.k ∧ okI b.v ∧ okI b.p
  txt : (txt x.parts).length < 2 ^ 28
theorem outL_len (l : List Int) (h : okIs l) : (outT [] (wordsL l)).length < 2 ^ 33 := by
  have := outI_len (((l.length : Nat) : Int) :: l) [] (by
    intro n hn
    rcases List.mem_cons.1 hn with rfl | hn
    · have := h.2; exact ⟨by omega, by omega⟩
    · exact h.1 n hn)
  have h2 := h.2
  have e : outT [] (wordsL l) = outT [] (wordsI (((l.length : Nat) : Int) :: l)) := rfl
  rw [e]
  simp only [List.length_cons, List.length_nil] at this
  omega
def verPre (x : Ver) (i : Nat) : List Part := [.int x.kind, .ints x.wth, .ints x.wo, .int x.leaves.length] ++ (x.leaves.take i).map Bran.part
theorem verPre_next {x : Ver} {i : Nat} {b : Bran} (h : x.leaves[i]? = some b) : verPre x (i + 1) = verPre x i ++ [b.part] := by
  unfold verPre
  rw [List.take_add_one, h]
  simp
theorem verPre_all (x : Ver) : verPre x x.leaves.length = x.parts := by
  unfold verPre Ver.parts partsM
  rw [List.take_length]; rfl
theorem verPre_le (x : Ver) (i : Nat) : (txt (verPre x i)).length ≤ (txt x.parts).length := by
  rw [show x.parts = verPre x i ++ (x.leaves.drop i).map Bran.part from by
    unfold verPre Ver.parts partsM
    rw [List.append_assoc, ← List.map_append, List.take_append_drop]; rfl]
  exact txt_pre _ _
theorem ref42_verdict (x : Ver) (hx : x.okR) : CallP Tryd.prog 38 [.d x.d] (retD [.s ⟨(txt x.parts).toArray⟩]) := by
  have h1 := outL_len x.wth hx.wth
  have h2 := outL_len x.wo hx.wo
  have hk := itoa_len x.kind hx.kind
  have hnn := hx.n
  have hno : okI ((x.leaves.length : Nat) : Int) := ⟨by omega, by omega⟩
  have hl := itoa_len ((x.leaves.length : Nat) : Int) hno
  refine exPure_sound (E := envOf Tryd.prog tt Tryd.f38.ntmps) (envOf_ok ttok mixed) Tryd.func38 (by rfl) rfl rfl (Nat.le_of_ble_eq_true rfl) ?_
  repeat' ((conv => whnf); first | refine Chk.mk (baC _ [32] (by simp only [List.length_append, List.length_cons, List.length_nil]; omega)) ?_ | refine Nam.mk (ba_app _ [32]) ?_ | refine Chk.mk (baC (_ ++ [32]) _ (by simp only [List.length_append, List.length_cons, List.length_nil]; omega)) ?_ | refine Nam.mk (ba_app (_ ++ [32]) _) ?_ | refine Nam.mk (List.length_map _) ?_ | (with_reducible first | refine dT ?_ | refine dU ?_ | refine dF ?_ | refine dG ?_) | refine aT ?_ | refine aF ?_ | refine dS (fun _ => ?_) fun _ => ?_ | refine aW ?_ | refine aC ?_ | refine aL ?_ | refine Prep.skip ?_ | refine Eith.l ?_ | refine aD ?_ | refine aB (fun _ => ?_) fun _ => ?_ | refine ACall.of (ref42_Number _ hx.kind) ?_ | refine APCall.of (ref42_Number _ hx.kind) ?_ | refine ACall.of (ref42_Number _ hno) ?_ | refine APCall.of (ref42_Number _ hno) ?_ | refine ACall.of (ref42_list _ hx.wth.2 hx.wth.1) ?_ | refine APCall.of (ref42_list _ hx.wth.2 hx.wth.1) ?_ | refine ACall.of (ref42_list _ hx.wo.2 hx.wo.1) ?_ | refine APCall.of (ref42_list _ hx.wo.2 hx.wo.1) ?_ | fail)
  all_goals (conv => whnf)
  have e0 : itoa x.kind ++ [32] ++ outT [] (wordsL x.wth) ++ [32] ++ outT [] (wordsL x.wo) ++ [32] ++ itoa ((x.leaves.length : Nat) : Int) = txt (verPre x 0) := by
    unfold verPre
    rw [List.take_zero, List.map_nil, List.append_nil]
    rw [show [Part.int x.kind, .ints x.wth, .ints x.wo, .int x.leaves.length] = [.int x.kind] ++ [.ints x.wth] ++ [.ints x.wo] ++ [.int x.leaves.length] from rfl]
    rw [txt_app (by simp) (by simp), txt_app (by simp) (by simp), txt_app (by simp) (by simp), txt_int, txt_int, txt_ints, txt_ints]
  refine ALoop.at (E := envOf Tryd.prog tt Tryd.f38.ntmps) (envOf_ok ttok mixed) (X := Nat) (fun i => [(4, .d (I i)), (3, .d (.s ⟨(txt (verPre x i)).toArray⟩))]) (fun _ => []) (fun i => i ≤ x.leaves.length) (fun i => x.leaves.length - i) 0 (by repeat (first | exact trivial | refine And.intro (congrArg (fun s : List UInt8 => V.d (.s ⟨s.toArray⟩)) e0) ?_ | refine And.intro rfl ?_)) rfl (Nat.zero_le _) ?_
  clear h1 h2 hk hl e0
  intro i hi
  by_cases hlt : i < x.leaves.length
  · obtain ⟨b, hb, _⟩ := drop_get hlt
    obtain ⟨b1, b2, b3, b4⟩ := hx.leaves b (List.mem_of_getElem? hb)
    have h1 := outL_len b.ch b1
    have hnum : ∀ n ∈ [b.k, b.v, b.p], okI n := by
      intro n hn
      simp only [List.mem_cons, List.not_mem_nil, or_false] at hn
      rcases hn with rfl | rfl | rfl
      · exact b2
      · exact b3
      · exact b4
    have h2 := outI_len [b.k, b.v, b.p] [] hnum
    simp only [List.length_cons, List.length_nil] at h2
    have h3 := verPre_le x i
    have h4 := hx.txt
    have hN := ref42_numbers [b.k, b.v, b.p] true (by simp) hnum
    have hnext : txt (verPre x (i + 1)) = txt (verPre x i) ++ [32] ++ outT [] (wordsL b.ch) ++ [32] ++ outT [] (wordsI [b.k, b.v, b.p]) := by
      rw [verPre_next hb, txt_app (by unfold verPre; simp) (by simp)]
      unfold Bran.part
      rw [txt_bran]
      simp only [List.append_assoc]
    repeat' ((conv => whnf); first | refine Chk.mk (baC _ [32] (by simp only [List.length_append, List.length_cons, List.length_nil]; omega)) ?_ | refine Nam.mk (ba_app _ [32]) ?_ | refine Chk.mk (baC (_ ++ [32]) _ (by simp only [List.length_append, List.length_cons, List.length_nil]; omega)) ?_ | refine Nam.mk (ba_app (_ ++ [32]) _) ?_ | refine Nam.mk (List.length_map _) ?_ | (with_reducible first | refine dT ?_ | refine dU ?_ | refine dF ?_ | refine dG ?_) | refine aT ?_ | refine aF ?_ | refine dS (fun _ => ?_) fun _ => ?_ | refine aW ?_ | refine aC ?_ | refine aL ?_ | refine Prep.skip ?_ | refine Eith.l ?_ | refine aD ?_ | refine aB (fun _ => ?_) fun _ => ?_ | refine nthK_mk (map_get (f := Bran.d) hb) ?_ | refine ACall.of (ref42_list _ b1.2 b1.1) ?_ | refine APCall.of (ref42_list _ b1.2 b1.1) ?_ | refine ACall.of hN ?_ | refine APCall.of hN ?_ | fail)
    all_goals (conv => whnf)
    all_goals first | (exfalso; omega) | skip
    refine ⟨i + 1, ?_, hlt, by show x.leaves.length - (i + 1) < x.leaves.length - i; omega⟩
    rw [hnext]
    exact Wm.end sam rfl rfl rfl
  · have hie : i = x.leaves.length := by omega
    subst hie
    rw [verPre_all]
    repeat' ((conv => whnf); first | refine Nam.mk (List.length_map _) ?_ | (with_reducible first | refine dT ?_ | refine dU ?_ | refine dF ?_ | refine dG ?_) | refine aT ?_ | refine aF ?_ | refine dS (fun _ => ?_) fun _ => ?_ | refine aW ?_ | refine aC ?_ | refine aL ?_ | refine Prep.skip ?_ | refine Eith.l ?_ | refine aD ?_ | refine aB (fun _ => ?_) fun _ => ?_ | fail)
    all_goals (conv => whnf)
    all_goals first | (exfalso; omega) | exact DLe.refl _
structure Ans.okR (x : Ans) : Prop where
  n : x.amts.length < 2 ^ 27
  amts : ∀ l ∈ x.amts, okIs l
  conf : okIs x.conf
  m : x.reads.length < 2 ^ 27
  reads : ∀ r ∈ x.reads, okI r.a ∧ okI r.b ∧ okI r.c ∧ okI r.s ∧ okI r.e
  txt : (txt x.parts).length < 2 ^ 28
def ansPre (x : Ans) (i : Nat) : List Part := [.bool x.ok, .int x.amts.length] ++ (x.amts.take i).map Part.ints
def ansPre2 (x : Ans) (i : Nat) : List Part := ansPre x x.amts.length ++ [.ints x.conf, .int x.reads.length] ++ (x.reads.take i).map Rd.part
theorem map_split {α β : Type} (f : α → β) (l : List α) (i : Nat) : l.map f = (l.take i).map f ++ (l.drop i).map f := by rw [← List.map_append, List.take_append_drop]
theorem ansPre_next {x : Ans} {i : Nat} {l : List Int} (h : x.amts[i]? = some l) : ansPre x (i + 1) = ansPre x i ++ [.ints l] := by
  unfold ansPre
  rw [List.take_add_one, h]
  simp
theorem ansPre2_next {x : Ans} {i : Nat} {r : Rd} (h : x.reads[i]? = some r) : ansPre2 x (i + 1) = ansPre2 x i ++ [r.part] := by
  unfold ansPre2
  rw [List.take_add_one, h]
  simp
theorem ansPre2_all (x : Ans) : ansPre2 x x.reads.length = x.parts := by
  unfold ansPre2 ansPre Ans.parts partsM
  simp [List.take_length]
theorem ansPre2_le (x : Ans) (i : Nat) : (txt (ansPre2 x i)).length ≤ (txt x.parts).length := by
  rw [show x.parts = ansPre2 x i ++ (x.reads.drop i).map Rd.part from by
    rw [← ansPre2_all]
    unfold ansPre2
    rw [List.take_length]
    conv => lhs; rw [map_split Rd.part x.reads i]
    simp only [List.append_assoc]]
  exact txt_pre _ _
theorem ansPre_le (x : Ans) (i : Nat) : (txt (ansPre x i)).length ≤ (txt x.parts).length := by
  rw [show x.parts = ansPre x i ++ ((x.amts.drop i).map Part.ints ++ [.ints x.conf, .int x.reads.length] ++ x.reads.map Rd.part) from by
    rw [← ansPre2_all]
    unfold ansPre2 ansPre
    rw [List.take_length, List.take_length]
    conv => lhs; rw [map_split Part.ints x.amts i]
    simp only [List.append_assoc]]
  exact txt_pre _ _
theorem ref42_answer (x : Ans) (hx : x.okR) : CallP Tryd.prog 39 [.d x.d] (retD [.s ⟨(txt x.parts).toArray⟩]) := by
  have hn := hx.n
  have hm := hx.m
  have hno : okI ((x.amts.length : Nat) : Int) := ⟨by omega, by omega⟩
  have hmo : okI ((x.reads.length : Nat) : Int) := ⟨by omega, by omega⟩
  have hml := itoa_len ((x.reads.length : Nat) : Int) hmo
  have hcl := outL_len x.conf hx.conf
  have hN := ref42_numbers [(if x.ok then 1 else 0 : Int), ((x.amts.length : Nat) : Int)] true (by simp) (by
    intro n hn
    simp only [List.mem_cons, List.not_mem_nil, or_false] at hn
    rcases hn with rfl | rfl
    · cases x.ok <;> exact ⟨by simp, by simp⟩
    · exact hno)
  refine exPure_sound (E := envOf Tryd.prog tt Tryd.f39.ntmps) (envOf_ok ttok mixed) Tryd.func39 (by rfl) rfl rfl (Nat.le_of_ble_eq_true rfl) ?_
  repeat' ((conv => whnf); first | (with_reducible first | refine dT ?_ | refine dU ?_ | refine dF ?_ | refine dG ?_) | refine aT ?_ | refine aF ?_ | refine dS (fun _ => ?_) fun _ => ?_ | refine aW ?_ | refine aC ?_ | refine aL ?_ | refine Prep.skip ?_ | refine Eith.l ?_ | refine aD ?_ | refine aB (fun _ => ?_) fun _ => ?_ | refine ACall.of (ref42_bit x.ok) ?_ | refine APCall.of (ref42_bit x.ok) ?_ | refine ACall.of hN ?_ | refine APCall.of hN ?_ | fail)
  all_goals (conv => whnf)
  have e0 : outT [] (wordsI [(if x.ok then 1 else 0 : Int), ((x.amts.length : Nat) : Int)]) = txt (ansPre x 0) := by
    unfold ansPre
    rw [List.take_zero]
    rfl
  refine ALoop.at (E := envOf Tryd.prog tt Tryd.f39.ntmps) (envOf_ok ttok mixed) (X := Nat) (fun i => [(4, .d (I i)), (3, .d (.s ⟨(txt (ansPre x i)).toArray⟩))]) (fun _ => []) (fun i => i ≤ x.amts.length) (fun i => x.amts.length - i) 0 (by repeat (first | exact trivial | refine And.intro (congrArg (fun s : List UInt8 => V.d (.s ⟨s.toArray⟩)) e0) ?_ | refine And.intro rfl ?_)) rfl (Nat.zero_le _) ?_
  clear e0 hN
  intro i hi
  by_cases hlt : i < x.amts.length
  · obtain ⟨l, hl, _⟩ := drop_get hlt
    have hlo := hx.amts l (List.mem_of_getElem? hl)
    have h1 := outL_len l hlo
    have h3 := ansPre_le x i
    have h4 := hx.txt
    have hnext : txt (ansPre x (i + 1)) = txt (ansPre x i) ++ [32] ++ outT [] (wordsL l) := by
      rw [ansPre_next hl, txt_app (by unfold ansPre; simp) (by simp), txt_ints]
    repeat' ((conv => whnf); first | refine Chk.mk (baC _ [32] (by simp only [List.length_append, List.length_cons, List.length_nil]; omega)) ?_ | refine Nam.mk (ba_app _ [32]) ?_ | refine Chk.mk (baC (_ ++ [32]) _ (by simp only [List.length_append, List.length_cons, List.length_nil]; omega)) ?_ | refine Nam.mk (ba_app (_ ++ [32]) _) ?_ | refine Nam.mk (List.length_map _) ?_ | (with_reducible first | refine dT ?_ | refine dU ?_ | refine dF ?_ | refine dG ?_) | refine aT ?_ | refine aF ?_ | refine dS (fun _ => ?_) fun _ => ?_ | refine aW ?_ | refine aC ?_ | refine aL ?_ | refine Prep.skip ?_ | refine Eith.l ?_ | refine aD ?_ | refine aB (fun _ => ?_) fun _ => ?_ | refine nthK_mk (map_get (f := IntsD) hl) ?_ | refine ACall.of (ref42_list _ hlo.2 hlo.1) ?_ | refine APCall.of (ref42_list _ hlo.2 hlo.1) ?_ | fail)
    all_goals (conv => whnf)
    all_goals first | (exfalso; omega) | skip
    refine ⟨i + 1, ?_, hlt, by show x.amts.length - (i + 1) < x.amts.length - i; omega⟩
    rw [hnext]
    exact Wm.end sam rfl rfl rfl
  have hie : i = x.amts.length := by omega
  subst hie
  have h3 := ansPre_le x x.amts.length
  have h4 := hx.txt
  repeat' ((conv => whnf); first | refine Chk.mk (baC _ [32] (by simp only [List.length_append, List.length_cons, List.length_nil]; omega)) ?_ | refine Nam.mk (ba_app _ [32]) ?_ | refine Chk.mk (baC (_ ++ [32]) _ (by simp only [List.length_append, List.length_cons, List.length_nil]; omega)) ?_ | refine Nam.mk (ba_app (_ ++ [32]) _) ?_ | refine Nam.mk (List.length_map _) ?_ | (with_reducible first | refine dT ?_ | refine dU ?_ | refine dF ?_ | refine dG ?_) | refine aT ?_ | refine aF ?_ | refine dS (fun _ => ?_) fun _ => ?_ | refine aW ?_ | refine aC ?_ | refine aL ?_ | refine Prep.skip ?_ | refine Eith.l ?_ | refine aD ?_ | refine aB (fun _ => ?_) fun _ => ?_ | refine ACall.of (ref42_list _ hx.conf.2 hx.conf.1) ?_ | refine APCall.of (ref42_list _ hx.conf.2 hx.conf.1) ?_ | refine ACall.of (ref42_Number _ hmo) ?_ | refine APCall.of (ref42_Number _ hmo) ?_ | fail)
  all_goals (conv => whnf)
  all_goals first | (exfalso; omega) | skip
  have e0 : txt (ansPre x x.amts.length) ++ [32] ++ outT [] (wordsL x.conf) ++ [32] ++ itoa ((x.reads.length : Nat) : Int) = txt (ansPre2 x 0) := by
    unfold ansPre2
    rw [List.take_zero, List.map_nil, List.append_nil, show [Part.ints x.conf, .int x.reads.length] = [.ints x.conf] ++ [.int x.reads.length] from rfl, ← List.append_assoc, txt_app (by simp) (by simp), txt_app (by unfold ansPre; simp) (by simp), txt_int, txt_ints]
  refine ALoop.only [(5, .d (I 0)), (3, .d (.s ⟨(txt (ansPre x x.amts.length) ++ [32] ++ outT [] (wordsL x.conf) ++ [32] ++ itoa ((x.reads.length : Nat) : Int)).toArray⟩)), (1, .ptr 0 0 0 0), (0, .d x.d)] (by repeat (first | exact trivial | refine And.intro rfl ?_)) ?_
  refine ALoop.at (E := envOf Tryd.prog tt Tryd.f39.ntmps) (envOf_ok ttok mixed) (X := Nat) (fun i => [(5, .d (I i)), (3, .d (.s ⟨(txt (ansPre2 x i)).toArray⟩))]) (fun _ => []) (fun i => i ≤ x.reads.length) (fun i => x.reads.length - i) 0 (by repeat (first | exact trivial | refine And.intro (congrArg (fun s : List UInt8 => V.d (.s ⟨s.toArray⟩)) e0) ?_ | refine And.intro rfl ?_)) rfl (Nat.zero_le _) ?_
  clear e0 h3
  intro i hi
  by_cases hlt : i < x.reads.length
  · obtain ⟨r, hr, _⟩ := drop_get hlt
    obtain ⟨r1, r2, r3, r4, r5⟩ := hx.reads r (List.mem_of_getElem? hr)
    have hnum : ∀ n ∈ [r.a, r.b, r.c, r.s, r.e], okI n := by
      intro n hn
      simp only [List.mem_cons, List.not_mem_nil, or_false] at hn
      rcases hn with rfl | rfl | rfl | rfl | rfl
      · exact r1
      · exact r2
      · exact r3
      · exact r4
      · exact r5
    have h2 := outI_len [r.a, r.b, r.c, r.s, r.e] [] hnum
    simp only [List.length_cons, List.length_nil] at h2
    have h3 := ansPre2_le x i
    have hN := ref42_numbers [r.a, r.b, r.c, r.s, r.e] true (by simp) hnum
    have hnext : txt (ansPre2 x (i + 1)) = txt (ansPre2 x i) ++ [32] ++ outT [] (wordsI [r.a, r.b, r.c, r.s, r.e]) := by
      rw [ansPre2_next hr, txt_app (by unfold ansPre2; simp) (by simp)]
      unfold Rd.part
      rw [txt_read]
    repeat' ((conv => whnf); first | refine Chk.mk (baC _ [32] (by simp only [List.length_append, List.length_cons, List.length_nil]; omega)) ?_ | refine Nam.mk (ba_app _ [32]) ?_ | refine Chk.mk (baC (_ ++ [32]) _ (by simp only [List.length_append, List.length_cons, List.length_nil]; omega)) ?_ | refine Nam.mk (ba_app (_ ++ [32]) _) ?_ | refine Nam.mk (List.length_map _) ?_ | (with_reducible first | refine dT ?_ | refine dU ?_ | refine dF ?_ | refine dG ?_) | refine aT ?_ | refine aF ?_ | refine dS (fun _ => ?_) fun _ => ?_ | refine aW ?_ | refine aC ?_ | refine aL ?_ | refine Prep.skip ?_ | refine Eith.l ?_ | refine aD ?_ | refine aB (fun _ => ?_) fun _ => ?_ | refine nthK_mk (map_get (f := Rd.d) hr) ?_ | refine ACall.of hN ?_ | refine APCall.of hN ?_ | fail)
    all_goals (conv => whnf)
    all_goals first | (exfalso; omega) | skip
    refine ⟨i + 1, ?_, hlt, by show x.reads.length - (i + 1) < x.reads.length - i; omega⟩
    rw [hnext]
    exact Wm.end sam rfl rfl rfl
  · have hie : i = x.reads.length := by omega
    subst hie
    rw [ansPre2_all]
    repeat' ((conv => whnf); first | refine Nam.mk (List.length_map _) ?_ | (with_reducible first | refine dT ?_ | refine dU ?_ | refine dF ?_ | refine dG ?_) | refine aT ?_ | refine aF ?_ | refine dS (fun _ => ?_) fun _ => ?_ | refine aW ?_ | refine aC ?_ | refine aL ?_ | refine Prep.skip ?_ | refine Eith.l ?_ | refine aD ?_ | refine aB (fun _ => ?_) fun _ => ?_ | fail)
    all_goals (conv => whnf)
    all_goals first | (exfalso; omega) | exact DLe.refl _
end Go.PM
/- Deltas, reference: entries, Report. -/
namespace Go.PM
open Go.Proofs
set_option maxRecDepth 10000
set_option maxHeartbeats 2000000
theorem cA {a : List UInt8} {B : Prop} (b : B) (h : a.length + 1 < 4611686018427387904 := by first | omega | (simp only [List.length_append, List.length_cons, List.length_nil]; omega)) : Chk ((⟨a.toArray⟩ : ByteArray).size + (⟨[32].toArray⟩ : ByteArray).size < 4611686018427387904) B := Chk.mk (baC a [32] h) b
theorem cB {a c : List UInt8} {B : Prop} (b : B) (h : (a ++ [32]).length + c.length < 4611686018427387904 := by first | omega | (simp only [List.length_append, List.length_cons, List.length_nil]; omega)) : Chk ((⟨(a ++ [32]).toArray⟩ : ByteArray).size + (⟨c.toArray⟩ : ByteArray).size < 4611686018427387904) B := Chk.mk (baC (a ++ [32]) c h) b
theorem nA {a : List UInt8} {K : ByteArray → Prop} (k : K ⟨(a ++ [32]).toArray⟩) : Nam ((⟨a.toArray⟩ : ByteArray) ++ ⟨[32].toArray⟩) K := Nam.mk (ba_app a [32]) k
theorem nB {a c : List UInt8} {K : ByteArray → Prop} (k : K ⟨(a ++ [32] ++ c).toArray⟩) : Nam ((⟨(a ++ [32]).toArray⟩ : ByteArray) ++ ⟨c.toArray⟩) K := Nam.mk (ba_app (a ++ [32]) c) k
theorem ref42_entry (word : List UInt8) (hw : word.length < 100) (i : Int) (hi : okI i) (t t' : List UInt8) (ht : t' = t) : CallP Tryd.prog 35 [.d (.s ⟨word.toArray⟩), .d (I i),   .d (.s ⟨t'.toArray⟩)] (retD [Ent.d ⟨⟨(nameM word i).toArray⟩, ⟨t.toArray⟩⟩]) := by
  subst ht
  have hil := itoa_len i hi
  refine exPure_sound (E := envOf Tryd.prog tt Tryd.f35.ntmps) (envOf_ok ttok mixed) Tryd.func35 (by rfl) rfl rfl (Nat.le_of_ble_eq_true rfl) ?_
  repeat' ((conv => whnf); first | refine Chk.mk (baC _ [32] (by simp only [List.length_append, List.length_cons, List.length_nil]; omega)) ?_ | refine Nam.mk (ba_app _ [32]) ?_ | refine Chk.mk (baC (_ ++ [32]) _ (by simp only [List.length_append, List.length_cons, List.length_nil]; omega)) ?_ | refine Nam.mk (ba_app (_ ++ [32]) _) ?_ | (with_reducible first | refine dT ?_ | refine dU ?_ | refine dF ?_ | refine dG ?_) | refine aT ?_ | refine aF ?_ | refine dS (fun _ => ?_) fun _ => ?_ | refine aW ?_ | refine aC ?_ | refine aL ?_ | refine Prep.skip ?_ | refine Eith.l ?_ | refine aD ?_ | refine aB (fun _ => ?_) fun _ => ?_ | refine ACall.of (ref42_Number _ hi) ?_ | refine APCall.of (ref42_Number _ hi) ?_ | fail)
  all_goals (conv => whnf)
  exact DLe.refl _
theorem tx_need (z : Nee) : txt (Nee.parts z) = outT [] (wordsI [z.l.a, z.l.b, z.l.c, z.day]) ++ [32] ++ ratM z.amt ++ [32] ++ outT [] (wordsI [z.kind, z.no]) := by
  rw [show Nee.parts z = [z.l.part, .int z.day] ++ [.ratio z.amt] ++ [.int z.kind, .int z.no] from rfl, txt_app (by simp) (by simp), txt_app (by simp) (by simp)]
  rfl
theorem tx_peg (z : Pe) : txt (Pe.parts z) = outT [] (wordsI [z.kind, z.no, z.need]) ++ [32] ++ ratM z.amt := by
  rw [show Pe.parts z = [.int z.kind, .int z.no, .int z.need] ++ [.ratio z.amt] from rfl, txt_app (by simp) (by simp)]
  rfl
end Go.PM
