/- Deltas: numerals as bytes. -/
import Derived.Test.YtfckliidjmeeaaaDoorD42s
namespace Go.PM
open Go.Proofs
set_option maxRecDepth 10000
set_option maxHeartbeats 1000000
theorem neg64 {n : Int} (h : -9223372036854775808 ≤ n ∧ n < 0) : IntKind.u64.wrap (0 - (n + 18446744073709551616)) = ((n.natAbs : Nat) : Int) := by
  simp [IntKind.wrap, IntKind.bits, IntKind.signed]
  omega
theorem wrap64 {n : Int} (h : -9223372036854775808 ≤ n ∧ n < 0) : IntKind.u64.wrap n = n + 18446744073709551616 := by
  simp [IntKind.wrap, IntKind.bits, IntKind.signed]
  omega
theorem wrap_u64 {n : Int} (h : 0 ≤ n ∧ n < 18446744073709551616) : IntKind.u64.wrap n = n := by
  simp [IntKind.wrap, IntKind.bits, IntKind.signed]; omega
theorem Wr.u64 {n : Int} {K : Int → Prop} (m : Int) (e : n = m) (h : 0 ≤ m ∧ m < 18446744073709551616) (a : K m) : Wr .u64 n K := .keep (by rw [e, wrap_u64 h]; exact a)
theorem wrap_u8 {n : Int} (h : 0 ≤ n ∧ n < 256) : IntKind.u8.wrap n = n := by
  simp [IntKind.wrap, IntKind.bits, IntKind.signed]; omega
theorem Wr.u8 {n : Int} {K : Int → Prop} (m : Int) (e : n = m) (h : 0 ≤ m ∧ m < 256) (a : K m) : Wr .u8 n K := .keep (by rw [e, wrap_u8 h]; exact a)
theorem Wr.neg {n : Int} {K : Int → Prop} (h : -9223372036854775808 ≤ n ∧ n < 0) (a : K (n + 18446744073709551616)) : Wr .u64 n K := .keep (by rw [wrap64 h]; exact a)
theorem bytesD_mk (l : List UInt8) : bytesD ⟨l.toArray⟩ = l.map bD := rfl
theorem digs_pos (u : Nat) : 1 ≤ Go.Lib.nDigits u := by
  rw [← Go.Lib.decDigits_length]
  unfold Go.Lib.decDigits
  split
  · exact Nat.le_refl _
  · simp
theorem digs_le {u : Nat} (h2 : u < 18446744073709551616) : Go.Lib.nDigits u ≤ 20 := by
  by_cases h1 : 1 ≤ u
  · have := Go.Lib.numDigits_eq u h1 h2; split at this <;> omega
  · have : u = 0 := by omega
    subst this
    unfold Go.Lib.nDigits
    simp
theorem decs_len {u : Nat} (h2 : u < 18446744073709551616) : 1 ≤ (decs u).length ∧ (decs u).length ≤ 20 := by
  rw [Go.Lib.decDigits_length]; exact ⟨digs_pos u, digs_le h2⟩
theorem itoa_nat (n : Nat) : itoa n = decs n := Go.Lib.itoa_nonneg n
theorem itoa_negs {n : Int} (h : n < 0) : itoa n = 45 :: decs n.natAbs := by unfold itoa Go.Lib.itoa; rw [if_pos h]
theorem arr24 {n : Nat} (h : Go.Lib.nDigits n ≤ 20) (cs : List D) (hc : cs.length = 24) : 0 ≤ ((Go.Lib.nDigits n : Nat) : Int) ∧ ((Go.Lib.nDigits n : Nat) : Int) ≤ ((24 : Nat) : Int) ∧ 24 ≤ ((decs n).map bD ++ cs.drop (Go.Lib.nDigits n)).length := by
  rw [List.length_append, List.length_map, Go.Lib.decDigits_length, List.length_drop, hc]
  omega
theorem arr24b {n : Nat} (h : Go.Lib.nDigits n ≤ 20) (cs : List D) (hc : cs.length = 24) : 0 + ((Go.Lib.nDigits n : Nat) : Int).toNat ≤ ((decs n).map bD ++ cs.drop (Go.Lib.nDigits n)).length := by
  rw [List.length_append, List.length_map, Go.Lib.decDigits_length, List.length_drop, hc]
  omega
theorem arr24c {n : Nat} (cs : List D) : (((decs n).map bD ++ cs.drop (Go.Lib.nDigits n)).drop 0).take ((Go.Lib.nDigits n : Nat) : Int).toNat = (decs n).map bD := by
  rw [List.drop_zero, Int.toNat_natCast, ← Go.Lib.decDigits_length]
  exact List.take_left' (by rw [List.length_map])
theorem deltas_AppendInt0 (m : Nat) (h : m < 100) : CallRow Tryd.prog 82 [.d (.sl 0 true []), .d (I m), .d (I 10)] 1 ((itoa m).map bD) := by
  have hl := decs_len (u := m) (by omega)
  have hl' := hl
  rw [Go.Lib.decDigits_length] at hl'
  refine exRow_sound (E := envOf Tryd.prog tt Tryd.f82.ntmps) (envOf_ok ttok mixed) Tryd.func82 (by rfl) rfl rfl (Nat.le_of_ble_eq_true rfl) ?_
  repeat' ((conv => whnf); first | refine Chk.mk ⟨.inl rfl, by rw [bytesD_mk, List.length_map]; simp only [List.length_nil]; unfold room; omega⟩ ?_ | refine Chk.mk ⟨.inl rfl, by rw [List.length_map]; simp only [List.length_nil]; unfold room; omega⟩ ?_ | refine Chk.mk ⟨rfl, rfl, by rw [bytesD_mk, List.length_map]; simp only [List.length_nil, List.length_cons]; unfold room; omega⟩ ?_ | refine Chk.mk ⟨rfl, rfl, by rw [List.length_map]; simp only [List.length_nil, List.length_cons]; unfold room; omega⟩ ?_  | (with_reducible first | refine dT ?_ | refine dU ?_ | refine dF ?_ | refine dG ?_) | refine aT ?_ | refine aF ?_ | refine dS (fun _ => ?_) fun _ => ?_ | refine aW ?_ | refine aC ?_ | refine aL ?_ | refine Prep.skip ?_ | refine Eith.l ?_ | refine aD ?_ | refine aB (fun _ => ?_) fun _ => ?_  | refine ACall.body (E := envOf Tryd.prog tt Tryd.f97.ntmps) (envOf_ok ttok mixed) Tryd.func97 (by rfl) rfl (Nat.le_of_ble_eq_true rfl) ?_ | refine ACall.body (E := envOf Tryd.prog tt Tryd.f105.ntmps) (envOf_ok ttok mixed) Tryd.func105 (by rfl) rfl (Nat.le_of_ble_eq_true rfl) ?_ | refine Wr.u64 (m : Int) rfl (by omega) ?_ | refine ACall.of (deltas_small m h) ?_ | fail)
  all_goals (conv => whnf)
  exact Nam.mk (y := (itoa m).map bD) (by rw [itoa_nat]; first | rw [bytesD_mk]; simp [List.take_of_length_le] | simp [List.take_of_length_le]) rfl
theorem deltas_AppendInt1 (m : Nat) (h : 100 ≤ m) (hn : m < 9223372036854775808) : CallRow Tryd.prog 82 [.d (.sl 0 true []), .d (I m), .d (I 10)] 1 ((itoa m).map bD) := by
  have hl := decs_len (u := m) (by omega)
  have hl' := hl
  rw [Go.Lib.decDigits_length] at hl'
  refine exRow_sound (E := envOf Tryd.prog tt Tryd.f82.ntmps) (envOf_ok ttok mixed) Tryd.func82 (by rfl) rfl rfl (Nat.le_of_ble_eq_true rfl) ?_
  repeat' ((conv => whnf); first | refine Chk.mk ⟨.inl rfl, by rw [bytesD_mk, List.length_map]; simp only [List.length_nil]; unfold room; omega⟩ ?_ | refine Chk.mk ⟨.inl rfl, by rw [List.length_map]; simp only [List.length_nil]; unfold room; omega⟩ ?_ | refine Chk.mk ⟨rfl, rfl, by rw [bytesD_mk, List.length_map]; simp only [List.length_nil, List.length_cons]; unfold room; omega⟩ ?_ | refine Chk.mk ⟨rfl, rfl, by rw [List.length_map]; simp only [List.length_nil, List.length_cons]; unfold room; omega⟩ ?_  | (with_reducible first | refine dT ?_ | refine dU ?_ | refine dF ?_ | refine dG ?_) | refine aT ?_ | refine aF ?_ | refine dS (fun _ => ?_) fun _ => ?_ | refine aW ?_ | refine aC ?_ | refine aL ?_ | refine Prep.skip ?_ | refine Eith.l ?_ | refine aD ?_ | refine aB (fun _ => ?_) fun _ => ?_  | refine ACall.body (E := envOf Tryd.prog tt Tryd.f97.ntmps) (envOf_ok ttok mixed) Tryd.func97 (by rfl) rfl (Nat.le_of_ble_eq_true rfl) ?_ | refine ACall.body (E := envOf Tryd.prog tt Tryd.f105.ntmps) (envOf_ok ttok mixed) Tryd.func105 (by rfl) rfl (Nat.le_of_ble_eq_true rfl) ?_ | refine Wr.u64 (m : Int) rfl (by omega) ?_ | refine ACall.of (deltas_digits m (by omega) (by omega)) ?_ | refine ACall.formatBase10 Tryd.layFormat m (by omega) (by omega) rfl rfl (by simp; omega) (by omega) ?_ | refine Chk.mk (arr24 hl'.2 _ rfl) ?_ | refine Chk.mk (arr24b hl'.2 _ rfl) ?_ | refine Nam.mk (arr24c _) ?_ | fail)
  all_goals (conv => whnf)
  exact Nam.mk (y := (itoa m).map bD) (by rw [itoa_nat]; first | rw [bytesD_mk]; simp [List.take_of_length_le] | simp [List.take_of_length_le]) rfl
theorem deltas_AppendInt2 (n : Int) (hn : -9223372036854775808 ≤ n ∧ n < 0) (m : Nat) (hm : m = n.natAbs) (h : m < 100) : CallRow Tryd.prog 82 [.d (.sl 0 true []), .d (I n), .d (I 10)] 1 ((itoa n).map bD) := by
  have hl := decs_len (u := m) (by omega)
  have hl' := hl
  rw [Go.Lib.decDigits_length] at hl'
  refine exRow_sound (E := envOf Tryd.prog tt Tryd.f82.ntmps) (envOf_ok ttok mixed) Tryd.func82 (by rfl) rfl rfl (Nat.le_of_ble_eq_true rfl) ?_
  repeat' ((conv => whnf); first | refine Chk.mk ⟨.inl rfl, by rw [bytesD_mk, List.length_map]; simp only [List.length_nil]; unfold room; omega⟩ ?_ | refine Chk.mk ⟨.inl rfl, by rw [List.length_map]; simp only [List.length_nil]; unfold room; omega⟩ ?_ | refine Chk.mk ⟨rfl, rfl, by rw [bytesD_mk, List.length_map]; simp only [List.length_nil, List.length_cons]; unfold room; omega⟩ ?_ | refine Chk.mk ⟨rfl, rfl, by rw [List.length_map]; simp only [List.length_nil, List.length_cons]; unfold room; omega⟩ ?_  | (with_reducible first | refine dT ?_ | refine dU ?_ | refine dF ?_ | refine dG ?_) | refine aT ?_ | refine aF ?_ | refine dS (fun _ => ?_) fun _ => ?_ | refine aW ?_ | refine aC ?_ | refine aL ?_ | refine Prep.skip ?_ | refine Eith.l ?_ | refine aD ?_ | refine aB (fun _ => ?_) fun _ => ?_  | refine Wr.neg hn ?_ | refine ACall.body (E := envOf Tryd.prog tt Tryd.f97.ntmps) (envOf_ok ttok mixed) Tryd.func97 (by rfl) rfl (Nat.le_of_ble_eq_true rfl) ?_ | (rw [neg64 hn, ← hm]; refine ACall.body (E := envOf Tryd.prog tt Tryd.f105.ntmps) (envOf_ok ttok mixed) Tryd.func105 (by rfl) rfl (Nat.le_of_ble_eq_true rfl) ?_) | refine ACall.of (deltas_small m h) ?_ | fail)
  all_goals (conv => whnf)
  exact Nam.mk (y := (itoa n).map bD) (by rw [itoa_negs hn.2, ← hm]; exact (List.take_of_length_le (by simp [bytesD_mk, dropL]; omega)).trans rfl) rfl
theorem deltas_AppendInt3 (n : Int) (hn : -9223372036854775808 ≤ n ∧ n < 0) (m : Nat) (hm : m = n.natAbs) (h : 100 ≤ m) : CallRow Tryd.prog 82 [.d (.sl 0 true []), .d (I n), .d (I 10)] 1 ((itoa n).map bD) := by
  have hl := decs_len (u := m) (by omega)
  have hl' := hl
  rw [Go.Lib.decDigits_length] at hl'
  refine exRow_sound (E := envOf Tryd.prog tt Tryd.f82.ntmps) (envOf_ok ttok mixed) Tryd.func82 (by rfl) rfl rfl (Nat.le_of_ble_eq_true rfl) ?_
  repeat' ((conv => whnf); first | refine Chk.mk ⟨.inl rfl, by rw [bytesD_mk, List.length_map]; simp only [List.length_nil]; unfold room; omega⟩ ?_ | refine Chk.mk ⟨.inl rfl, by rw [List.length_map]; simp only [List.length_nil]; unfold room; omega⟩ ?_ | refine Chk.mk ⟨rfl, rfl, by rw [bytesD_mk, List.length_map]; simp only [List.length_nil, List.length_cons]; unfold room; omega⟩ ?_ | refine Chk.mk ⟨rfl, rfl, by rw [List.length_map]; simp only [List.length_nil, List.length_cons]; unfold room; omega⟩ ?_  | (with_reducible first | refine dT ?_ | refine dU ?_ | refine dF ?_ | refine dG ?_) | refine aT ?_ | refine aF ?_ | refine dS (fun _ => ?_) fun _ => ?_ | refine aW ?_ | refine aC ?_ | refine aL ?_ | refine Prep.skip ?_ | refine Eith.l ?_ | refine aD ?_ | refine aB (fun _ => ?_) fun _ => ?_  | refine Wr.neg hn ?_ | refine ACall.body (E := envOf Tryd.prog tt Tryd.f97.ntmps) (envOf_ok ttok mixed) Tryd.func97 (by rfl) rfl (Nat.le_of_ble_eq_true rfl) ?_ | (rw [neg64 hn, ← hm]; refine ACall.body (E := envOf Tryd.prog tt Tryd.f105.ntmps) (envOf_ok ttok mixed) Tryd.func105 (by rfl) rfl (Nat.le_of_ble_eq_true rfl) ?_) | refine ACall.of (deltas_digits m (by omega) (by omega)) ?_ | refine ACall.formatBase10 Tryd.layFormat m (by omega) (by omega) rfl rfl (by simp; omega) (by omega) ?_ | refine Chk.mk (arr24 hl'.2 _ rfl) ?_ | refine Chk.mk (arr24b hl'.2 _ rfl) ?_ | refine Nam.mk (arr24c _) ?_ | fail)
  all_goals (conv => whnf)
  exact Nam.mk (y := (itoa n).map bD) (by rw [itoa_negs hn.2, ← hm]; exact (List.take_of_length_le (by simp [bytesD_mk, dropL]; omega)).trans rfl) rfl
theorem deltas_AppendInt (n : Int) (h : -9223372036854775808 ≤ n ∧ n < 9223372036854775808) : CallRow Tryd.prog 82 [.d (.sl 0 true []), .d (I n), .d (I 10)] 1 ((itoa n).map bD) := by
  by_cases hn : n < 0
  · by_cases hs : n.natAbs < 100
    · exact deltas_AppendInt2 n ⟨h.1, hn⟩ n.natAbs rfl hs
    · exact deltas_AppendInt3 n ⟨h.1, hn⟩ n.natAbs rfl (by omega)
  · obtain ⟨m, rfl⟩ := Int.eq_ofNat_of_zero_le (show 0 ≤ n by omega)
    by_cases hs : m < 100
    · exact deltas_AppendInt0 m hs
    · exact deltas_AppendInt1 m (by omega) (by omega)
end Go.PM
