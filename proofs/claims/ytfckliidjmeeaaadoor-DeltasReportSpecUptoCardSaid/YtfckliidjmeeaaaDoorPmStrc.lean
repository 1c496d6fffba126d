/-
  PM: strconv's decimal numerals, by the kit's shelf.
-/
import Derived.Test.YtfckliidjmeeaaaDoorPmRangetoPmKit
import Derived.Shelf.Strconv.Itoa3
set_option linter.unusedSectionVars false
namespace Go.PM
variable [Glob]
open Go.Proofs Go.Shelf Go.RowKit Go.Lib Go.Sort
variable {P : Program} {ρ : Ren}
theorem glob_tab {w : World} {S : Stb} (h : GlobOk w S) {g : Nat} {cs : List D} (hm : (g, cs) ∈ Glob.cells) {k : IntKind} {zs : List Int} (hc : cs = zs.map (D.i k)) {name : String} (hg : P.globalNamed name = some g) : Lib.TabIs P w name k zs := by
  obtain ⟨arr, e, f, h1, h2⟩ := h.size _ hm
  simp only at h1 h2
  unfold Lib.TabIs World.var?
  rw [hg]
  simp only [Option.bind_some, h1, Option.some.injEq]
  subst hc
  apply Array.ext_getElem?
  intro j
  by_cases hj : j < zs.length
  · have hl : (zs.map (D.i k))[j]? = some (.i k zs[j]) := by rw [List.getElem?_map, List.getElem?_eq_getElem hj]; rfl
    obtain ⟨_, u, h3, h4, _⟩ := h.cells _ hm j _ hl
    simp only [World.cell?, h1] at h3
    cases h4
    have h3 : arr[j]? = some (Value.int k zs[j]) := by simpa using h3
    rw [h3]
    simp [hj]
  · rw [Array.getElem?_eq_none (by rw [h2, List.length_map]; omega), Array.getElem?_eq_none (by simp; omega)]
theorem grown_evol {w w' : World} {S : Stb} {h : Hp} {β : Bet} (hr : HR w S h β) (size : w.heap.size ≤ w'.heap.size) (hf : ∀ i, i < w.heap.size → w'.heap[i]? = w.heap[i]?) (ho : Out w w') : HR w' S h β ∧ Evol w S h β w' S h β := by
  have E : Evol w S h β w' S h β := by
    refine ⟨ho, size, fun i hi _ => hf i hi, fun i c e f hi => ⟨c, by rw [hf i (Array.getElem?_eq_some_iff.1 hi).1]; exact hi, rfl⟩, fun i l hi => ⟨l, by rw [hf i (Array.getElem?_eq_some_iff.1 hi).1]; exact hi⟩,
      fun a ha => World.frozen?_of_block (hf _ ha), fun _ _ h => h, fun _ _ h => .inl h, fun b o' hs => World.cell?_of_block (a := ⟨b, o', none⟩) (hf b (hr.old b o' hs)), fun _ h => .inl h, Nat.le_refl _, fun _ b hb => ⟨b, hb, BEv.refl _ _⟩⟩
  exact ⟨⟨hr.len, fun n b hn => BR.keep E rfl (fun _ r b p ht => ⟨ht, hf b (hr.tlt r b p ht), fun _ h => h⟩) (fun b' p hb => ⟨hf b' (hr.lt hb), fun _ h => h⟩) (hr.blk n b hn), hr.inj, fun b o' hs => Nat.lt_of_lt_of_le (hr.old b o' hs) size, hr.glob.evol E, fun r b p ht => Nat.lt_of_lt_of_le (hr.tlt r b p ht) size, hr.one⟩, E⟩
theorem grow_evol {w : World} {S : Stb} {h : Hp} {β : Bet} (hr : HR w S h β) (k : Nat) (os : Array Obj) : HR (grow (w.drewN k) os) S h β ∧ Evol w S h β (grow (w.drewN k) os) S h β :=
  grown_evol hr (by simp [grow, World.drewN]) (fun i hi => by simp only [grow, World.drewN]; exact Array.getElem?_append_left hi) ⟨⟨rfl, rfl⟩, rfl, Nat.le_add_right _ _⟩
theorem one_arg {w : World} {S : Stb} {h : Hp} {β : Bet} {k : IntKind} {n : Int} {argv : Array Value} (hv : VRs w S h β [.d (.i k n)] argv) : argv = #[.int k n] := by
  obtain ⟨h1, h2⟩ := hv
  have hs : argv.size = 1 := h1
  have := h2 0 _ argv[0] rfl (Array.getElem?_eq_getElem _)
  apply Array.ext
  · simp [hs]
  · intro i hi hj
    have hi0 : i = 0 := by omega
    subst hi0
    generalize argv[0] = a at this
    cases this with
    | d hd => cases hd; rfl
theorem strconv_Itoa (L : LaysM.n171 P ρ) {g : Nat} (hg : P.globalNamed "internal/strconv.uint64pow10" = some g) (hm : (g, pow10Tab.map (D.i .u64)) ∈ Glob.cells) (n : Int) (h0 : -9223372036854775808 ≤ n) (h1 : n ≤ 9223372036854775807) :
    CallP P (ρ.f 171) [.d (.i .i64 n)] (.d (.s ⟨(itoa n).toArray⟩)) := fun w S h β argv hr hv => by
  obtain rfl := one_arg hv
  refine .inl ⟨enters_of L.f171 (by kernel_rfl) rfl _ _, (Any.strconv_Itoa L n h0 h1 w (glob_tab hr.glob hm rfl hg)).mono ?_⟩
  rintro e w' ⟨rfl, k, os, rfl⟩
  obtain ⟨r1, e1⟩ := grow_evol hr k os
  exact ⟨_, rfl, S, β, r1, .d (.s _), e1⟩
theorem strconv_small (L : Lays.n283 P ρ) (i : Nat) (hi : i < 100) : CallP P (ρ.f 283) [.d (.i .i64 i)] (.d (.s ⟨(decDigits i).toArray⟩)) := fun w S h β argv hr hv => by
  obtain rfl := one_arg hv
  refine .inl ⟨enters_of L.f283 (by kernel_rfl) rfl _ _, (Any.internal_strconv_small L i hi w).mono ?_⟩
  rintro e w' ⟨rfl, rfl⟩
  exact ⟨_, rfl, S, β, hr, .d (.s _), Evol.refl _ _ _ _⟩
theorem strconv_numDigits (L : LaysM.n284 P ρ) {g : Nat} (hg : P.globalNamed "internal/strconv.uint64pow10" = some g) (hm : (g, pow10Tab.map (D.i .u64)) ∈ Glob.cells) (u : Nat) (h1 : 1 ≤ u) (h2 : u < 18446744073709551616) :
    CallP P (ρ.f 284) [.d (.i .u64 u)] (.d (.i .i64 (nDigits u))) := fun w S h β argv hr hv => by
  obtain rfl := one_arg hv
  refine .inl ⟨enters_of L.f284 (by kernel_rfl) rfl _ _, (Any.internal_strconv_numDigits L u h1 h2 w (glob_tab hr.glob hm rfl hg)).mono ?_⟩
  rintro e w' ⟨rfl, rfl⟩
  exact ⟨_, rfl, S, β, hr, .d (.i _ _), Evol.refl _ _ _ _⟩
def bD (c : UInt8) : D := .i .u8 (c.toNat : Int)
def encB (b : UInt8) : Value := Value.int .u8 (b.toNat : Int)
theorem strconv_formatBase10 (L : Lays.n285 P ρ) (u : Nat) (h1 : 1 ≤ u) (h2 : u < 18446744073709551616) {h : Hp} {n : Nat} {cs : List D} (hn : h[n]? = some (.vard cs)) (hz : cs = List.replicate cs.length (.i .u8 0)) (hl : nDigits u ≤ cs.length) (hd1 : 1 ≤ nDigits u)
    {kk : V → Hp → Prop} (hk : kk (.tup []) (h.set n (.vard ((decDigits u).map bD ++ cs.drop (nDigits u))))) :
    CallV P (ρ.f 285) [.sref n 1 0 (nDigits u) false, .d (.i .u64 u)] h kk := by
  intro w S β argv hr hv
  obtain ⟨hv1, hv2⟩ := hv
  have e0 : ∃ v0 v1, argv = #[v0, v1] := by
    have : argv.size = 2 := hv1
    exact ⟨argv[0], argv[1], by
      apply Array.ext
      · simp [this]
      · intro i h1 h2
        match i, h2 with
        | 0, _ => rfl
        | 1, _ => rfl⟩
  obtain ⟨v0, v1, rfl⟩ := e0
  have r0 := hv2 0 _ v0 rfl rfl
  have r1 := hv2 1 _ v1 rfl rfl
  clear hv1 hv2
  obtain rfl : v1 = .int .u64 u := by
    cases r1 with
    | d hd => cases hd; rfl
  cases r0 with
  | sref _ hs =>
  obtain ⟨a, cap, rfl, hc, _, hs⟩ := hs
  rw [hn] at hs
  obtain ⟨_, b, cells, elem, fz, c1, c2, c3, c4⟩ := hs
  obtain ⟨b', cells', elem', k1, k2, k3, k4, k5⟩ := hr.blk n _ hn
  rw [c1] at k1; simp at k1; subst k1
  rw [c3] at k2; simp at k2; obtain ⟨rfl, rfl, rfl⟩ := k2
  have ha := c2 (by omega)
  subst ha
  have hblk : b < w.heap.size := (Array.getElem?_eq_some_iff.1 c3).1
  have hcell : ∀ j, j < nDigits u → cells[j]? = some (encB 0) := fun j hj => by
    have hjl : j < cs.length := by omega
    have hjc : cs[j]? = some (.i .u8 0) := by rw [hz, List.getElem?_replicate, if_pos hjl]
    have hjs : j < cells.size := by omega
    have := (k4 j _ cells[j] hjc (Array.getElem?_eq_getElem hjs)).2
    rw [Array.getElem?_eq_getElem hjs]
    generalize cells[j] = u at this
    cases this; rfl
  have hH : Holds encB w b 0 (Array.replicate (nDigits u) (0 : UInt8)) := fun j hj => by
    have hj' : j < nDigits u := by simpa using hj
    refine ⟨?_, ?_⟩
    · simp only [World.cell?, c3, Nat.zero_add]
      rw [hcell j hj', getElem!_pos _ j hj]
      simp
    · simp [World.frozen?, c3]
  have hcon := Any.internal_strconv_formatBase10 L b 0 cap u (Array.replicate (nDigits u) 0) w hH (by rw [Array.size_replicate]; exact Lib.lt_pow_nDigits u) h2 (by rw [Array.size_replicate]; have := Lib.numDigits_eq u h1 h2; split at this <;> omega)
  rw [Array.size_replicate] at hcon
  refine .inl ⟨enters_of L.f285 (by kernel_rfl) rfl _ _, hcon.mono ?_⟩
  rintro e w' ⟨rfl, k, v', dk, rfl, hF⟩
  have hdl : (decDigits u).length = nDigits u := decDigits_length u
  obtain ⟨w', hw'⟩ : ∃ w', w' = (putRow encB w b 0 dk).drewN k := ⟨_, rfl⟩
  have hwb : w'.heap[b]? = some (.cells (putCells encB 0 dk cells) elem (0, 0)) := by
    subst hw'
    simp only [World.drewN, putRow, mapBlock]
    rw [Array.getElem?_modify, if_pos rfl, c3]
    rfl
  have hoth : ∀ i, i ≠ b → w'.heap[i]? = w.heap[i]? := fun i hi => by
    subst hw'
    simp only [World.drewN, putRow, mapBlock]
    rw [Array.getElem?_modify, if_neg (Ne.symm hi)]
  have hsize : w.heap.size ≤ w'.heap.size := by subst hw'; simp [World.drewN, putRow, mapBlock]
  have hout : Out w w' := by subst hw'; exact ⟨⟨rfl, rfl⟩, rfl, Nat.le_add_right _ _⟩
  have hset : β.set n (some (b, 0)) = β := set_self c1
  have hps : (putCells encB 0 dk cells).size = cells.size := by simp [putCells]
  have := updF hr hn (w' := w') (blk' := .vard ((decDigits u).map bD ++ cs.drop (nDigits u))) (some (b, 0)) hsize
    (fun i hi hne => hoth i (fun e => hne 0 (by rw [e]; exact c1)))
    (fun i p c e' f hp hi => by
      rw [c1] at hp; simp at hp; obtain ⟨rfl, _⟩ := hp
      rw [c3] at hi; simp at hi; obtain ⟨rfl, rfl, rfl⟩ := hi
      exact ⟨_, hwb, hps⟩)
    (fun i p l' hp hi => by
      rw [c1] at hp; simp at hp; obtain ⟨rfl, _⟩ := hp
      rw [c3] at hi; cases hi)
    (fun ad had => by
      by_cases hab : ad.block = b
      · unfold World.frozen?; rw [hab, hwb, c3]
      · exact World.frozen?_of_block (hoth _ hab))
    (fun i p o hp hS => by
      rw [c1] at hp; simp at hp; obtain ⟨rfl, _⟩ := hp
      exact absurd hS (k5 o))
    (fun b' p hb => by cases hb; exact .inl ⟨_, c1⟩)
    (by rw [c1]; exact .inr (.inl ⟨.inr ⟨_, rfl⟩, rfl⟩))
    (fun E => ?_) hout
  · rw [hset] at this
    subst hw'
    exact ⟨_, rfl, .tup [], _, S, β, hk, this.1, .tup [] #[] rfl (by simp), this.2⟩
  · rw [hset] at E ⊢
    refine ⟨b, _, elem, c1, hwb, by rw [hps, k3]; simp [hdl]; omega, fun j c x hj hx => ?_, fun o ho => absurd ho (k5 o)⟩
    have hjs : j < cells.size := by rw [← hps]; exact (Array.getElem?_eq_some_iff.1 hx).1
    have hdks : dk.size = nDigits u := hF.size
    unfold putCells at hx
    rw [Array.getElem?_mapIdx, Array.getElem?_eq_getElem hjs, Option.map_some, Option.some.injEq] at hx
    by_cases hjn : j < nDigits u
    · rw [if_pos ⟨Nat.zero_le _, by omega⟩] at hx
      rw [List.getElem?_append_left (by rw [List.length_map, hdl]; exact hjn), List.getElem?_map, List.getElem?_eq_getElem (by omega)] at hj
      simp only [Option.map_some, Option.some.injEq] at hj
      subst hj; subst hx
      have hd := row_is_numeral hF j (by omega)
      rw [Nat.sub_zero, ← hd]
      exact ⟨rfl, .i _ _⟩
    · rw [if_neg (by omega)] at hx
      rw [List.getElem?_append_right (by rw [List.length_map, hdl]; omega), List.length_map, hdl, List.getElem?_drop, show nDigits u + (j - nDigits u) = j by omega] at hj
      subst hx
      obtain ⟨f1, f2⟩ := k4 j c cells[j] hj (Array.getElem?_eq_getElem hjs)
      exact ⟨f1, f2.evol E.sub E.cell⟩
theorem ACall.formatBase10 (L : Lays.n285 P ρ) (u : Nat) (h1 : 1 ≤ u) (h2 : u < 18446744073709551616) {h : Hp} {n : Nat} {cs : List D} (hn : h[n]? = some (.vard cs)) (hz : cs = List.replicate cs.length (.i .u8 0)) (hl : nDigits u ≤ cs.length) (hd1 : 1 ≤ nDigits u)
    {kk : V → Hp → Prop} (hk : kk (.tup []) (h.set n (.vard ((decDigits u).map bD ++ cs.drop (nDigits u))))) : ACall P (ρ.f 285) [.sref n 1 0 (nDigits u) false, .d (.i .u64 u)] h kk := ⟨strconv_formatBase10 L u h1 h2 hn hz hl hd1 hk⟩
end Go.PM
