/- Package floor: what is there after a period. -/
import Derived.Test.YtgpgfcehcenejaaW34b
namespace Go.PM
open Go.Proofs
set_option maxRecDepth 10000
set_option maxHeartbeats 4000000

def addAt (l : List Int) (i x : Int) : List Int := l.set i.toNat (l.getD i.toNat 0 + x)
def subAt (l : List Int) (i x : Int) : List Int := l.set i.toNat (l.getD i.toNat 0 - x)
def stepA (p : Int) (now : List Int) (f : Flow) : List Int :=
  if f.per = p then
    (if f.kind = 1 then addAt now f.dst f.amt
     else if f.kind = 2 then subAt (addAt now f.dst f.amt) f.src f.amt
     else subAt now f.src f.amt)
  else now
def afterM (fl : List Flow) (p : Int) (now : List Int) : List Int := fl.foldl (stepA p) now
structure Bnd (B : Int) (l : List Int) : Prop where
  len : l.length = 16
  b : ∀ n ∈ l, -B ≤ n ∧ n ≤ B
theorem Bnd.at {B : Int} {l : List Int} (h : Bnd B l) {i : Int} (hi : 0 ≤ i ∧ i ≤ 15) : ∃ n, l[i.toNat]? = some n ∧ l.getD i.toNat 0 = n ∧ -B ≤ n ∧ n ≤ B := by
  have hl : i.toNat < l.length := by rw [h.len]; omega
  exact ⟨l[i.toNat], List.getElem?_eq_getElem hl, by rw [List.getD_eq_getElem?_getD, List.getElem?_eq_getElem hl]; rfl, h.b _ (List.getElem_mem hl)⟩
theorem Bnd.set {B C : Int} {l : List Int} (h : Bnd B l) (i : Nat) {x : Int} (hx : -C ≤ x ∧ x ≤ C) (hBC : B ≤ C) : Bnd C (l.set i x) :=
  ⟨by rw [List.length_set]; exact h.len, fun n hn => by
    rcases List.mem_or_eq_of_mem_set hn with hn | rfl
    · have := h.b n hn; omega
    · exact hx⟩
theorem setK_to {α : Type} {y : α} {xs zs : List α} {n : Nat} {k : List α → Prop} (h : n < xs.length) (e : xs.set n y = zs) (hk : k zs) : setK xs n y k := setK_mk h (by rw [e]; exact hk)
theorem get_I {l : List Int} {i n : Int} (h : l[i.toNat]? = some n) : (l.map I)[0 + i.toNat * 1]? = some (I n) := by rw [Nat.zero_add, Nat.mul_one, List.getElem?_map, h]; rfl
theorem set_I (l : List Int) (i n : Int) : (l.map I).set (0 + i.toNat * 1) (I n) = (l.set i.toNat n).map I := by rw [Nat.zero_add, Nat.mul_one, List.map_set]
theorem lt_I {l : List Int} {i n : Int} (h : l[i.toNat]? = some n) : 0 + i.toNat * 1 < (l.map I).length := by rw [Nat.zero_add, Nat.mul_one, List.length_map]; exact (List.getElem?_eq_some_iff.1 h).1
theorem sixteen {l : List Int} (h : l.length = 16) : ∃ a0 a1 a2 a3 a4 a5 a6 a7 a8 a9 a10 a11 a12 a13 a14 a15 : Int, l = [a0, a1, a2, a3, a4, a5, a6, a7, a8, a9, a10, a11, a12, a13, a14, a15] := by
  match l, h with
  | [a0, a1, a2, a3, a4, a5, a6, a7, a8, a9, a10, a11, a12, a13, a14, a15], _ => exact ⟨a0, a1, a2, a3, a4, a5, a6, a7, a8, a9, a10, a11, a12, a13, a14, a15, rfl⟩
theorem floor_after (h : Hist) (p : Int) (now : List Int) (hok : h.ok) (hB : Bnd 1099511627776 now) : CallP Try.prog 22 [.d h.d, .d (I p), .d (.agg (now.map I))] (retD [.agg ((afterM h.fl p now).map I)]) := by
  have hnf := hok.nf
  have hnv := hok.nv
  refine exPure_sound (E := envOf Try.prog tt Try.f22.ntmps) (envOf_ok ttok mixed) Try.func22 (by rfl) rfl rfl (Nat.le_of_ble_eq_true rfl) ?_
  repeat' ((conv => whnf); first | with_reducible refine Dec.t (show true = true from rfl) ?_ | with_reducible refine Dec.t (show false = false from rfl) ?_ | with_reducible refine Dec.f (show ¬ (true = false) by decide) ?_ | with_reducible refine Dec.f (show ¬ (false = true) by decide) ?_ | refine Dec.t (by omega) ?_ | refine Dec.f (by omega) ?_ | refine Dec.split (fun _ => ?_) (fun _ => ?_) | refine Wr.id (by omega) ?_ | refine Chk.mk (by first | omega | exact rfl | (simp only [List.length_map]; omega) | (simp [room]; done) | (simp [room]; omega) | (simp [dropL, room]; done) | (simp [dropL, room]; omega)) ?_ | refine Nam.mk (List.length_map _) ?_ | refine Prep.skip ?_ | refine Eith.l ?_ | refine chk_t (x := D.flat _) (by assumption) ?_ | refine br_mk (fun _ => ?_) (fun _ => ?_) | refine ACall.body (E := envOf Try.prog tt Try.f36.ntmps) (envOf_ok ttok mixed) Try.func36 (by rfl) rfl (Nat.le_of_ble_eq_true rfl) ?_ | refine ARange.body (E := envOf Try.prog tt Try.f22.ntmps) (envOf_ok ttok mixed) ttok mixed (by rfl) Try.func47 (by rfl) (Nat.le_of_ble_eq_true rfl) ?_ | fail)
  all_goals (conv => whnf)
  refine ALoop.at (E := envY Try.prog tt Try.f47.ntmps (yldIn (envOf Try.prog tt Try.f22.ntmps) 8)) (envY_ok (yldIn_ok (envOf_ok ttok mixed) 8) ttok mixed) (X := Nat × List Int) (fun x => [(9, .d (I x.1))]) (fun x => [(1, .vard (x.2.map I))])
    (fun x => x.1 ≤ h.fl.length ∧ afterM (h.fl.drop x.1) p x.2 = afterM h.fl p now ∧ Bnd (1099511627776 + 2097152 * x.1) x.2) (fun x => h.fl.length - x.1) (0, now) (by repeat (first | exact trivial | refine And.intro rfl ?_ | refine And.intro (congrArg (fun n => V.d (I n)) (wrap_nat _ (by omega))) ?_)) rfl ⟨Nat.zero_le _, rfl, hB⟩ ?_
  rintro ⟨i, l⟩ ⟨hi, hm, hb⟩
  simp only at hi hm hb
  dsimp only
  by_cases hlt : i < h.fl.length
  · obtain ⟨f, hx, hd⟩ := drop_get hlt
    rw [hd, afterM, List.foldl_cons] at hm
    have hfo := hok.fl f (List.mem_of_getElem? hx)
    unfold Flow.ok at hfo
    by_cases hp : f.per = p
    · have hk : f.kind = 1 ∨ f.kind = 2 ∨ f.kind = 3 ∨ f.kind = 4 := by omega
      rcases hk with hk | hk | hk | hk
      · obtain ⟨n, n1, n2, n3⟩ := hb.at (i := f.dst) (by omega)
        have hs : stepA p l f = l.set f.dst.toNat (n + f.amt) := by unfold stepA addAt; rw [if_pos hp, if_pos hk, n2]
        rw [hs] at hm
        repeat' ((conv => whnf); first | with_reducible refine Dec.t (show true = true from rfl) ?_ | with_reducible refine Dec.t (show false = false from rfl) ?_ | with_reducible refine Dec.f (show ¬ (true = false) by decide) ?_ | with_reducible refine Dec.f (show ¬ (false = true) by decide) ?_ | refine Dec.t (by omega) ?_ | refine Dec.f (by omega) ?_ | refine Dec.split (fun _ => ?_) (fun _ => ?_) | refine Wr.id (by omega) ?_ | refine Chk.mk (by first | omega | exact rfl | (simp only [List.length_map]; omega) | (simp [room]; done) | (simp [room]; omega) | (simp [dropL, room]; done) | (simp [dropL, room]; omega)) ?_ | refine Nam.mk (List.length_map _) ?_ | refine Prep.skip ?_ | refine Eith.l ?_ | refine chk_t (x := D.flat _) (by assumption) ?_ | refine br_mk (fun _ => ?_) (fun _ => ?_) | refine nthK_mk (map_get hx) ?_ | refine ACall.body (E := envOf Try.prog tt Try.f33.ntmps) (envOf_ok ttok mixed) Try.func33 (by rfl) rfl (Nat.le_of_ble_eq_true rfl) ?_ | refine nthK_mk (get_I n1) ?_ | refine setK_to (lt_I n1) (set_I l f.dst (n + f.amt)) ?_ | fail)
        all_goals first | (exfalso; omega) | skip
        all_goals (conv => whnf)
        all_goals first | exact ⟨(i + 1, l.set f.dst.toNat (n + f.amt)), Wm.end (by repeat (first | exact trivial | refine And.intro rfl ?_ | refine And.intro (congrArg (fun n => V.d (I n)) (wrap_nat _ (by omega))) ?_)) rfl rfl rfl, ⟨hlt, hm, hb.set _ (by dsimp only; omega) (by dsimp only; omega)⟩, by dsimp only; omega⟩
      · obtain ⟨n, n1, n2, n3⟩ := hb.at (i := f.dst) (by omega)
        have hb1 : Bnd (1099511627776 + 2097152 * i + 1048576) (l.set f.dst.toNat (n + f.amt)) := hb.set _ (by omega) (by omega)
        obtain ⟨m, m1, m2, m3⟩ := hb1.at (i := f.src) (by omega)
        have hs : stepA p l f = (l.set f.dst.toNat (n + f.amt)).set f.src.toNat (m - f.amt) := by unfold stepA addAt subAt; rw [if_pos hp, if_neg (by omega), if_pos hk, n2, m2]
        rw [hs] at hm
        repeat' ((conv => whnf); first | with_reducible refine Dec.t (show true = true from rfl) ?_ | with_reducible refine Dec.t (show false = false from rfl) ?_ | with_reducible refine Dec.f (show ¬ (true = false) by decide) ?_ | with_reducible refine Dec.f (show ¬ (false = true) by decide) ?_ | refine Dec.t (by omega) ?_ | refine Dec.f (by omega) ?_ | refine Dec.split (fun _ => ?_) (fun _ => ?_) | refine Wr.id (by omega) ?_ | refine Chk.mk (by first | omega | exact rfl | (simp only [List.length_map]; omega) | (simp [room]; done) | (simp [room]; omega) | (simp [dropL, room]; done) | (simp [dropL, room]; omega)) ?_ | refine Nam.mk (List.length_map _) ?_ | refine Prep.skip ?_ | refine Eith.l ?_ | refine chk_t (x := D.flat _) (by assumption) ?_ | refine br_mk (fun _ => ?_) (fun _ => ?_) | refine nthK_mk (map_get hx) ?_ | refine ACall.body (E := envOf Try.prog tt Try.f35.ntmps) (envOf_ok ttok mixed) Try.func35 (by rfl) rfl (Nat.le_of_ble_eq_true rfl) ?_ | refine ACall.body (E := envOf Try.prog tt Try.f33.ntmps) (envOf_ok ttok mixed) Try.func33 (by rfl) rfl (Nat.le_of_ble_eq_true rfl) ?_ | refine nthK_mk (get_I n1) ?_ | refine setK_to (lt_I n1) (set_I l f.dst (n + f.amt)) ?_ | refine ACall.body (E := envOf Try.prog tt Try.f34.ntmps) (envOf_ok ttok mixed) Try.func34 (by rfl) rfl (Nat.le_of_ble_eq_true rfl) ?_ | refine nthK_mk (get_I m1) ?_ | refine setK_to (lt_I m1) (set_I _ f.src (m - f.amt)) ?_ | fail)
        all_goals first | (exfalso; omega) | skip
        all_goals (conv => whnf)
        all_goals first | exact ⟨(i + 1, (l.set f.dst.toNat (n + f.amt)).set f.src.toNat (m - f.amt)), Wm.end (by repeat (first | exact trivial | refine And.intro rfl ?_ | refine And.intro (congrArg (fun n => V.d (I n)) (wrap_nat _ (by omega))) ?_)) rfl rfl rfl, ⟨hlt, hm, hb1.set _ (by dsimp only; omega) (by dsimp only; omega)⟩, by dsimp only; omega⟩
      · obtain ⟨n, n1, n2, n3⟩ := hb.at (i := f.src) (by omega)
        have hs : stepA p l f = l.set f.src.toNat (n - f.amt) := by unfold stepA subAt; rw [if_pos hp, if_neg (by omega), if_neg (by omega), n2]
        rw [hs] at hm
        repeat' ((conv => whnf); first | with_reducible refine Dec.t (show true = true from rfl) ?_ | with_reducible refine Dec.t (show false = false from rfl) ?_ | with_reducible refine Dec.f (show ¬ (true = false) by decide) ?_ | with_reducible refine Dec.f (show ¬ (false = true) by decide) ?_ | refine Dec.t (by omega) ?_ | refine Dec.f (by omega) ?_ | refine Dec.split (fun _ => ?_) (fun _ => ?_) | refine Wr.id (by omega) ?_ | refine Chk.mk (by first | omega | exact rfl | (simp only [List.length_map]; omega) | (simp [room]; done) | (simp [room]; omega) | (simp [dropL, room]; done) | (simp [dropL, room]; omega)) ?_ | refine Nam.mk (List.length_map _) ?_ | refine Prep.skip ?_ | refine Eith.l ?_ | refine chk_t (x := D.flat _) (by assumption) ?_ | refine br_mk (fun _ => ?_) (fun _ => ?_) | refine nthK_mk (map_get hx) ?_ | refine ACall.body (E := envOf Try.prog tt Try.f34.ntmps) (envOf_ok ttok mixed) Try.func34 (by rfl) rfl (Nat.le_of_ble_eq_true rfl) ?_ | refine nthK_mk (get_I n1) ?_ | refine setK_to (lt_I n1) (set_I l f.src (n - f.amt)) ?_ | fail)
        all_goals first | (exfalso; omega) | skip
        all_goals (conv => whnf)
        all_goals first | exact ⟨(i + 1, l.set f.src.toNat (n - f.amt)), Wm.end (by repeat (first | exact trivial | refine And.intro rfl ?_ | refine And.intro (congrArg (fun n => V.d (I n)) (wrap_nat _ (by omega))) ?_)) rfl rfl rfl, ⟨hlt, hm, hb.set _ (by dsimp only; omega) (by dsimp only; omega)⟩, by dsimp only; omega⟩
      · obtain ⟨n, n1, n2, n3⟩ := hb.at (i := f.src) (by omega)
        have hs : stepA p l f = l.set f.src.toNat (n - f.amt) := by unfold stepA subAt; rw [if_pos hp, if_neg (by omega), if_neg (by omega), n2]
        rw [hs] at hm
        repeat' ((conv => whnf); first | with_reducible refine Dec.t (show true = true from rfl) ?_ | with_reducible refine Dec.t (show false = false from rfl) ?_ | with_reducible refine Dec.f (show ¬ (true = false) by decide) ?_ | with_reducible refine Dec.f (show ¬ (false = true) by decide) ?_ | refine Dec.t (by omega) ?_ | refine Dec.f (by omega) ?_ | refine Dec.split (fun _ => ?_) (fun _ => ?_) | refine Wr.id (by omega) ?_ | refine Chk.mk (by first | omega | exact rfl | (simp only [List.length_map]; omega) | (simp [room]; done) | (simp [room]; omega) | (simp [dropL, room]; done) | (simp [dropL, room]; omega)) ?_ | refine Nam.mk (List.length_map _) ?_ | refine Prep.skip ?_ | refine Eith.l ?_ | refine chk_t (x := D.flat _) (by assumption) ?_ | refine br_mk (fun _ => ?_) (fun _ => ?_) | refine nthK_mk (map_get hx) ?_ | refine ACall.body (E := envOf Try.prog tt Try.f34.ntmps) (envOf_ok ttok mixed) Try.func34 (by rfl) rfl (Nat.le_of_ble_eq_true rfl) ?_ | refine nthK_mk (get_I n1) ?_ | refine setK_to (lt_I n1) (set_I l f.src (n - f.amt)) ?_ | fail)
        all_goals first | (exfalso; omega) | skip
        all_goals (conv => whnf)
        all_goals first | exact ⟨(i + 1, l.set f.src.toNat (n - f.amt)), Wm.end (by repeat (first | exact trivial | refine And.intro rfl ?_ | refine And.intro (congrArg (fun n => V.d (I n)) (wrap_nat _ (by omega))) ?_)) rfl rfl rfl, ⟨hlt, hm, hb.set _ (by dsimp only; omega) (by dsimp only; omega)⟩, by dsimp only; omega⟩
    · have hs : stepA p l f = l := by unfold stepA; rw [if_neg hp]
      rw [hs] at hm
      repeat' ((conv => whnf); first | with_reducible refine Dec.t (show true = true from rfl) ?_ | with_reducible refine Dec.t (show false = false from rfl) ?_ | with_reducible refine Dec.f (show ¬ (true = false) by decide) ?_ | with_reducible refine Dec.f (show ¬ (false = true) by decide) ?_ | refine Dec.t (by omega) ?_ | refine Dec.f (by omega) ?_ | refine Dec.split (fun _ => ?_) (fun _ => ?_) | refine Wr.id (by omega) ?_ | refine Chk.mk (by first | omega | exact rfl | (simp only [List.length_map]; omega) | (simp [room]; done) | (simp [room]; omega) | (simp [dropL, room]; done) | (simp [dropL, room]; omega)) ?_ | refine Nam.mk (List.length_map _) ?_ | refine Prep.skip ?_ | refine Eith.l ?_ | refine chk_t (x := D.flat _) (by assumption) ?_ | refine br_mk (fun _ => ?_) (fun _ => ?_) | refine nthK_mk (map_get hx) ?_ | fail)
      all_goals first | (exfalso; omega) | skip
      all_goals (conv => whnf)
      all_goals first | exact ⟨(i + 1, l), Wm.end (by repeat (first | exact trivial | refine And.intro rfl ?_ | refine And.intro (congrArg (fun n => V.d (I n)) (wrap_nat _ (by omega))) ?_)) rfl rfl rfl, ⟨hlt, hm, ⟨hb.len, fun n hn => by have := hb.b n hn; dsimp only; omega⟩⟩, by dsimp only; omega⟩
  · have : i = h.fl.length := by omega
    subst this
    rw [List.drop_length] at hm
    have hm : l = afterM h.fl p now := hm
    rw [← hm]
    obtain ⟨a0, a1, a2, a3, a4, a5, a6, a7, a8, a9, a10, a11, a12, a13, a14, a15, rfl⟩ := sixteen hb.len
    repeat' ((conv => whnf); first | with_reducible refine Dec.t (show true = true from rfl) ?_ | with_reducible refine Dec.t (show false = false from rfl) ?_ | with_reducible refine Dec.f (show ¬ (true = false) by decide) ?_ | with_reducible refine Dec.f (show ¬ (false = true) by decide) ?_ | refine Dec.t (by omega) ?_ | refine Dec.f (by omega) ?_ | refine Dec.split (fun _ => ?_) (fun _ => ?_) | refine Wr.id (by omega) ?_ | refine Chk.mk (by first | omega | exact rfl | (simp only [List.length_map]; omega) | (simp [room]; done) | (simp [room]; omega) | (simp [dropL, room]; done) | (simp [dropL, room]; omega)) ?_ | refine Nam.mk (List.length_map _) ?_ | refine Prep.skip ?_ | refine Eith.l ?_ | refine chk_t (x := D.flat _) (by assumption) ?_ | refine br_mk (fun _ => ?_) (fun _ => ?_) | fail)
    all_goals first | (exfalso; omega) | skip
    all_goals (conv => whnf)
    all_goals first | exact DLe.refl _
end Go.PM

