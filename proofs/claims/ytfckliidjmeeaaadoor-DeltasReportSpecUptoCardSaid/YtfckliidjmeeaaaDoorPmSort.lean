/-
  PM, part 27: slices.SortFunc, by the kit's shelf.
-/
import Derived.Test.YtfckliidjmeeaaaDoorPmRangetoPmKit
import Derived.Shelf.SlSortCmp.NoneTotal
set_option linter.unusedSectionVars false
namespace Go.PM
variable [Glob]
open Go.Proofs Go.Shelf Go.RowKit Go.Lib Go.Sort
variable {P : Program} {ρ : Ren}
def D.val : D → Value
  | .b x => .bool x
  | .i kd n => .int kd n
  | .s x => .string x
  | _ => undef
def D.lit : D → Bool
  | .b _ => true
  | .i _ _ => true
  | .s _ => true
  | _ => false
theorem dr_val {w : World} {S : Stb} {c : D} {u : Value} (h : DR w S c u) (hl : c.lit = true) : u = c.val := by
  cases h <;> simp_all [D.lit, D.val]
theorem dr_of_val {w : World} {S : Stb} {c : D} (hl : c.lit = true) : DR w S c c.val := by
  cases c <;> simp [D.lit] at hl
  · exact .b _
  · exact .i _ _
  · exact .s _
theorem lit_flat {c : D} (hl : c.lit = true) : c.flat = true := by cases c <;> simp_all [D.lit, D.flat]
variable {α : Type} [Inhabited α]
def encOf (dof : α → List D) (x : α) : List Value := (dof x).map D.val
theorem sort_cells {w w' : World} {b base k n : Nat} {dof : α → List D} {d : Array α} {os : Array Obj} {cells : Array Value} {elem : TypeId}
    (hb : w.heap[b]? = some (.cells cells elem (0, 0))) (hsz : base + d.size * k ≤ cells.size) (hw' : w' = sortWorldK (encOf dof) k w b base n d os) (hk : ∀ x, (dof x).length = k) :
    ∃ cells', w'.heap[b]? = some (.cells cells' elem (0, 0)) ∧ cells'.size = cells.size ∧ (∀ (i j : Nat) (x : α) (c : D), d[i]? = some x → (dof x)[j]? = some c → cells'[base + i * k + j]? = some c.val) := by
  subst hw'
  have hlt : b < w.heap.size := (Array.getElem?_eq_some_iff.1 hb).1
  refine ⟨putCells id base (flatK (encOf dof) k d) cells, ?_, by simp [putCells], fun i j x c hi hj => ?_⟩
  · simp only [sortWorldK, grow, putRowK, putRow, mapBlock, Sort.ahead]
    rw [Array.getElem?_append_left (by simpa using hlt), Array.getElem?_modify, if_pos rfl, hb]
    rfl
  · have hil : i < d.size := (Array.getElem?_eq_some_iff.1 hi).1
    have hjl : j < k := by rw [← hk x]; exact (List.getElem?_eq_some_iff.1 hj).1
    have h1 : i * k + j < d.size * k := by
      have := Nat.mul_le_mul_right k (show i + 1 ≤ d.size from hil)
      rw [Nat.succ_mul] at this; omega
    simp only [putCells, Array.getElem?_mapIdx, size_flatK]
    rw [Array.getElem?_eq_getElem (by omega), Option.map_some, if_pos ⟨by omega, by omega⟩, show base + i * k + j - base = i * k + j by omega, get_flatK _ _ _ _ h1]
    have e1 : (i * k + j) / k = i := by
      rw [Nat.mul_comm, Nat.mul_add_div (by omega), Nat.div_eq_of_lt hjl, Nat.add_zero]
    have e2 : (i * k + j) % k = j := by rw [Nat.mul_comm, Nat.mul_add_mod, Nat.mod_eq_of_lt hjl]
    rw [e1, e2]
    have hx : d[i]! = x := by
      rw [getElem!_pos d i hil]
      exact (Array.getElem?_eq_some_iff.1 hi).2
    rw [hx]
    have hc : (encOf dof x)[j]? = some c.val := by unfold encOf; rw [List.getElem?_map, hj]; rfl
    simp only [id_eq, Option.some.injEq]
    rw [getElem!_pos _ j (List.getElem?_eq_some_iff.1 hc).1]
    exact (List.getElem?_eq_some_iff.1 hc).2
theorem sort_others {w : World} {b base k n : Nat} {enc : α → List Value} {d : Array α} {os : Array Obj} {i : Nat} (hi : i < w.heap.size) (hne : i ≠ b) : (sortWorldK enc k w b base n d os).heap[i]? = w.heap[i]? := by
  simp only [sortWorldK, grow, putRowK, putRow, mapBlock, Sort.ahead]
  rw [Array.getElem?_append_left (by simpa using hi), Array.getElem?_modify, if_neg (Ne.symm hne)]
theorem world_grow {w w' : World} (hs : w.heap.size ≤ w'.heap.size) (hf : ∀ i, i < w.heap.size → w'.heap[i]? = w.heap[i]?) (ho : Out w w') : ∃ q os, w' = grow (w.drewN q) os := by
  refine ⟨w'.drawn - w.drawn, w'.heap.extract w.heap.size w'.heap.size, ?_⟩
  obtain ⟨⟨h1, h2⟩, h3, h4⟩ := ho
  have hh : w'.heap = w.heap ++ w'.heap.extract w.heap.size w'.heap.size := by
    apply Array.ext_getElem?
    intro i
    by_cases hi : i < w.heap.size
    · rw [hf i hi, Array.getElem?_append_left hi]
    · rw [Array.getElem?_append_right (by omega), Array.getElem?_extract]
      by_cases hj : i < w'.heap.size
      · rw [if_pos (by omega)]; congr 1; omega
      · rw [if_neg (by omega)]; exact Array.getElem?_eq_none (by omega)
  cases w'; cases w
  simp only [grow, World.drewN] at *
  subst h1; subst h2; subst h3
  congr 1
  · omega
theorem sort_callV (L : SlLaysF0.n6 P ρ) (k : Nat) (hk0 : 0 < k) (aE : ∀ w, (isAgg (ρ.t 24)).run P w = .ok true w) (zE : ∀ w, (Go.sizeOf (ρ.t 24)).run P w = .ok k w)
    (dof : α → List D) (hk : ∀ x, (dof x).length = k) (hlit : ∀ x, ∀ c ∈ dof x, c.lit = true) (cf : α → α → Int) (hO : SWO (ltOf cf)) {g : FuncId}
    (hcmp : ∀ x y, CallP P g [.d (.agg (dof x)), .d (.agg (dof y))] (.d (.i .i64 (cf x y)))) (heg : ∀ args w, (callFunc g args).run P w = .ok (.enter g args) w)
    {h : Hp} {n ver len : Nat} {full : Bool} {l : List α} (hn : h[n]? = some (.row ver k false (l.map fun x => .agg (dof x)))) (hl : len = l.length) (hsz : l.length < 4611686018427387904)
    {kk : V → Hp → Prop} (hkk : ∀ l' : List α, l'.Perm l → (∀ (i j : Nat) (x y : α), i < j → l'[i]? = some x → l'[j]? = some y → ¬ cf y x < 0) → kk (.tup []) (h.set n (.row ver k false (l'.map fun x => .agg (dof x))))) :
    CallV P (ρ.f 6) [.sref n ver 0 len full, .fn g []] h kk := by
  intro w S β argv hr hv
  obtain ⟨hv1, hv2⟩ := hv
  have e0 : ∃ v0 v1, argv = #[v0, v1] := by
    have : argv.size = 2 := hv1
    exact ⟨argv[0], argv[1], by
      apply Array.ext
      · simp [this]
      · intro i h1 h2
        match i, h2 with
        | 0, _ => rfl
        | 1, _ => rfl⟩
  obtain ⟨v0, v1, rfl⟩ := e0
  have r0 := hv2 0 _ v0 rfl rfl
  have r1 := hv2 1 _ v1 rfl rfl
  clear hv1 hv2
  obtain ⟨rfl⟩ : v1 = .func (.func g) #[] #[] := by
    cases r1 with
    | fn _ _ arr h1 _ =>
      have : arr = #[] := Array.eq_empty_of_size_eq_zero (by simpa using h1)
      subst this; rfl
  clear r1
  cases r0 with
  | sref _ hs =>
  obtain ⟨a, cap, rfl, hc, _, hs⟩ := hs
  rw [hn] at hs
  obtain ⟨_, hs⟩ := hs
  replace hs := hs rfl
  obtain ⟨hk0', hshape, hrow⟩ := hr.blk n _ hn
  subst hl
  have hent : ∀ (args : Array Value) (w : World), (callFunc (ρ.f 6) args).run P w = .ok (.enter (ρ.f 6) args) w := L.f6.enters rfl
  by_cases hnil : l = []
  · subst hnil
    refine .inl ⟨hent _ _, (AnyF.slices_SortFunc_none L a cap _ w).mono fun e w' ⟨he, hw⟩ => ?_⟩
    subst hw
    have hset : h.set n (.row ver k false (([] : List α).map fun x => .agg (dof x))) = h := set_self hn
    exact ⟨_, he, .tup [], h, S, β, by rw [← hset]; exact hkk [] (List.Perm.refl _) (by simp), hr, .tup [] #[] rfl (by simp), Evol.refl _ _ _ _⟩
  · have hpos : 0 < l.length := List.length_pos_iff.2 hnil
    rcases hrow with ⟨hx, _⟩ | ⟨b, base, cells, elem, b1, b2, b3, b4, b5⟩
    · simp [hnil] at hx
    have hnoS : ∀ o, ¬ S b o := fun o ho => by have := (b5 o ho).1; cases this
    simp only [List.length_map] at b3
    have ha : a = some ⟨b, base, none⟩ := by
      rcases hs with ⟨q1, _⟩ | ⟨b', base', _, _, _, q1, q2, _⟩
      · rw [q1] at b1; simp at b1
      · rw [b1] at q1; simp at q1; obtain ⟨rfl, rfl⟩ := q1
        simpa using q2 (by omega)
    subst ha
    have hblk : b < w.heap.size := (Array.getElem?_eq_some_iff.1 b2).1
    have hH : HoldsK (encOf dof) k w b base l.toArray := by
      intro j hj
      rw [size_flatK, List.size_toArray] at hj
      obtain ⟨s1, s2, s3⟩ := split_idx hj
      have hx : l[j / k]? = some l[j / k] := List.getElem?_eq_getElem s1
      have hjc : j % k < (dof l[j / k]).length := by rw [hk]; exact s2
      obtain ⟨u, u1, u2⟩ := b4 (j / k) (.agg (dof l[j / k])) (j % k) (dof l[j / k])[j % k] (by simp [hx]) (List.getElem?_eq_getElem hjc)
      rw [Nat.add_assoc, s3] at u1
      have hcl : (dof l[j / k])[j % k].lit = true := hlit _ _ (List.getElem_mem hjc)
      rw [dr_val u2 hcl] at u1
      refine ⟨?_, ?_⟩
      · rw [cell_of_row w b (base + j) cells elem (0, 0) b2, u1, get_flatK _ _ _ _ (by simpa using hj)]
        rw [getElem!_pos l.toArray (j / k) (by simpa using s1)]
        simp only [List.getElem_toArray, id_eq]
        rw [getElem!_pos (encOf dof l[j / k]) (j % k) (by simp [encOf, hk, s2])]
        simp [encOf]
      · simp [World.frozen?, b2]
    have hlay : CmpLays P g #[] (encOf dof) k cf b base l.toArray.size w := by
      intro m os dk hds x y
      generalize hW : sortWorldK (encOf dof) k w b base m dk os = W
      have hcell : ∀ b' o, S b' o → W.cell? ⟨b', o, none⟩ = w.cell? ⟨b', o, none⟩ := fun b' o ho => by
        have hne : b' ≠ b := by rintro rfl; exact hnoS o ho
        subst hW
        exact World.cell?_of_block (a := ⟨b', o, none⟩) (sort_others (hr.old _ _ ho) hne)
      have hsize : w.heap.size ≤ W.heap.size := by
        subst hW
        simp [sortWorldK, grow, putRowK, putRow, mapBlock, Sort.ahead]
      have hgl : GlobOk W S := ⟨fun p hp j c hj => by
        obtain ⟨q1, u, q2, q3, q4⟩ := hr.glob.cells p hp j c hj
        exact ⟨q1, u, by rw [hcell _ _ q4]; exact q2, q3.evol (fun _ _ h => h) hcell, q4⟩, fun p hp => by
        obtain ⟨cs, e, f, h1, h2⟩ := hr.glob.size p hp
        by_cases hpb : p.1 = b
        · rw [hpb] at h1 ⊢
          rw [b2] at h1
          cases h1
          obtain ⟨cells', c1, c2, _⟩ := sort_cells (w' := W) b2 (by rw [hds]; simpa using b3) hW.symm hk
          exact ⟨cells', _, _, c1, c2.trans h2⟩
        · have hlt := (Array.getElem?_eq_some_iff.1 h1).1
          exact ⟨cs, e, f, by subst hW; rw [sort_others hlt hpb]; exact h1, h2⟩⟩
      have hr0 : HR W S [] [] := hr_nil (fun b' o ho => Nat.lt_of_lt_of_le (hr.old b' o ho) hsize) hgl
      have hel : ∀ z : α, VR W S [] [] (.d (.agg (dof z))) (.agg (encOf dof z).toArray) := fun z => by
        refine .d (.agg _ _ (by simp [encOf]) (fun j c hj => lit_flat (hlit z c (List.mem_of_getElem? hj))) fun j c u hj hu => ?_)
        simp only [encOf, List.getElem?_toArray, List.getElem?_map, hj, Option.map_some, Option.some.injEq] at hu
        subst hu
        exact dr_of_val (hlit z c (List.mem_of_getElem? hj))
      have hcall := hcmp x y W S [] [] (#[.agg (encOf dof x).toArray, .agg (encOf dof y).toArray] ++ #[]) hr0 ⟨rfl, fun j c u hj hu => by
        match j, hj with
        | 0, hj => simp at hj hu; subst hj; subst hu; exact hel x
        | 1, hj => simp at hj hu; subst hj; subst hu; exact hel y⟩
      rcases hcall with ⟨_, hcall⟩ | ⟨v, w', hcall, _⟩
      · refine hcall.mono fun e w' he => ?_
        obtain ⟨v, rfl, S', β', _, hv, hE⟩ := he
        refine ⟨?_, world_grow hE.size (fun i hi => hE.frame i hi (by rintro ⟨q, p, hq⟩; simp at hq)) hE.outer⟩
        cases hv with
        | d hd => cases hd; rfl
      · rw [heg] at hcall; cases hcall
    have hcon := AnyQ.slices_SortFunc L k aE zE (encOf dof) (fun x => by simp [encOf, hk]) (fun x v hv => by
      simp only [encOf, List.mem_map] at hv
      obtain ⟨c, hc, rfl⟩ := hv
      have := hlit x c hc
      cases c <;> simp [D.lit] at this <;> rfl) cf hO g #[] b base cap l.toArray w heg hlay hH hblk (by simpa using hsz)
    refine .inl ⟨hent _ _, ?_⟩
    simp only [List.size_toArray] at hcon
    refine hcon.mono fun e w' he => ?_
    obtain ⟨rfl, d', m, os, hp, hso, hw'⟩ := he
    obtain ⟨p1, p2, p3⟩ := hp
    simp only [List.size_toArray] at p1
    have hperm : d'.toList.Perm l := by
      have e1 : d'.extract 0 l.length = d' := by rw [← p1]; simp
      have e2 : l.toArray.extract 0 l.length = l.toArray := by
        have : l.length = l.toArray.size := by simp
        rw [this]; simp
      rw [e1, e2] at p3
      simpa using p3
    obtain ⟨cells', c1, c2, c3⟩ := sort_cells (w' := w') b2 (by rw [p1]; exact b3) hw' hk
    have hsorted : ∀ (i j : Nat) (x y : α), i < j → d'.toList[i]? = some x → d'.toList[j]? = some y → ¬ cf y x < 0 := fun i j x y hij hx hy => by
      have hj : j < l.length := by
        have := (List.getElem?_eq_some_iff.1 hy).1
        simpa [p1] using this
      have := hso i j (Nat.zero_le _) hij hj
      have ex : d'[i]! = x := by
        have : d'[i]? = some x := by simpa using hx
        rw [getElem!_pos d' i (Array.getElem?_eq_some_iff.1 this).1]
        exact (Array.getElem?_eq_some_iff.1 this).2
      have ey : d'[j]! = y := by
        have : d'[j]? = some y := by simpa using hy
        rw [getElem!_pos d' j (Array.getElem?_eq_some_iff.1 this).1]
        exact (Array.getElem?_eq_some_iff.1 this).2
      rw [ex, ey] at this
      unfold ltOf at this
      exact of_decide_eq_false this
    have hsize : w.heap.size ≤ w'.heap.size := by
      subst hw'
      simp [sortWorldK, grow, putRowK, putRow, mapBlock, Sort.ahead]
    have hother : ∀ i, i < w.heap.size → i ≠ b → w'.heap[i]? = w.heap[i]? := fun i hi hne => by subst hw'; exact sort_others hi hne
    have hout : Out w w' := by
      subst hw'
      exact ⟨⟨rfl, rfl⟩, rfl, Nat.le_add_right _ _⟩
    have hset : β.set n (some (b, base)) = β := set_self b1
    have := updF hr hn (w' := w') (blk' := .row ver k false (d'.toList.map fun x => .agg (dof x))) (some (b, base)) hsize
      (fun i hi hne => hother i hi (fun e => hne base (by rw [e]; exact b1)))
      (fun i p c e' f hp hi => by
        rw [b1] at hp; simp at hp; obtain ⟨rfl, _⟩ := hp
        rw [b2] at hi; simp at hi; obtain ⟨rfl, rfl, rfl⟩ := hi
        exact ⟨cells', c1, c2⟩)
      (fun i p l' hp hi => by
        rw [b1] at hp; simp at hp; obtain ⟨rfl, _⟩ := hp
        rw [b2] at hi; cases hi)
      (fun ad had => by
        by_cases hab : ad.block = b
        · unfold World.frozen?; rw [hab, c1, b2]
        · exact World.frozen?_of_block (hother _ had hab))
      (fun i p o hp hS => by
        rw [b1] at hp; simp at hp; obtain ⟨rfl, _⟩ := hp
        exact absurd hS (hnoS o))
      (fun b' p hb => by cases hb; exact .inl ⟨_, b1⟩)
      (by rw [b1]; exact .inr ⟨ver, false, _, rfl, Nat.le_refl _, fun _ => rfl⟩)
      (fun E => ?_) hout
    · rw [hset] at this
      exact ⟨_, rfl, .tup [], _, S, β, hkk _ hperm hsorted, this.1, .tup [] #[] rfl (by simp), this.2⟩
    · rw [hset]
      refine ⟨hk0, fun i x hx => ?_, .inr ⟨b, base, cells', elem, b1, c1, by rw [List.length_map, c2]; simp only [Array.length_toList, p1]; exact b3, fun i x j c hx hc => ?_, fun o ho => absurd ho (hnoS o)⟩⟩
      · simp only [List.getElem?_map, Option.map_eq_some_iff] at hx
        obtain ⟨y, _, rfl⟩ := hx
        exact ⟨hk y, fun j c hc => lit_flat (hlit y c (List.mem_of_getElem? hc))⟩
      · simp only [List.getElem?_map, Option.map_eq_some_iff] at hx
        obtain ⟨y, hy, rfl⟩ := hx
        exact ⟨_, c3 i j y c (by simpa using hy) hc, dr_of_val (hlit y c (List.mem_of_getElem? hc))⟩
theorem ACall.sort (L : SlLaysF0.n6 P ρ) (k : Nat) (hk0 : 0 < k) (aE : ∀ w, (isAgg (ρ.t 24)).run P w = .ok true w) (zE : ∀ w, (Go.sizeOf (ρ.t 24)).run P w = .ok k w)
    (dof : α → List D) (hk : ∀ x, (dof x).length = k) (hlit : ∀ x, ∀ c ∈ dof x, c.lit = true) (cf : α → α → Int) (hO : SWO (ltOf cf)) {g : FuncId}
    (hcmp : ∀ x y, CallP P g [.d (.agg (dof x)), .d (.agg (dof y))] (.d (.i .i64 (cf x y)))) (heg : ∀ args w, (callFunc g args).run P w = .ok (.enter g args) w)
    {h : Hp} {n ver len : Nat} {full : Bool} {l : List α} (hn : h[n]? = some (.row ver k false (l.map fun x => .agg (dof x)))) (hl : len = l.length) (hsz : l.length < 4611686018427387904)
    {kk : V → Hp → Prop} (hkk : ∀ l' : List α, l'.Perm l → (∀ (i j : Nat) (x y : α), i < j → l'[i]? = some x → l'[j]? = some y → ¬ cf y x < 0) → kk (.tup []) (h.set n (.row ver k false (l'.map fun x => .agg (dof x))))) :
    ACall P (ρ.f 6) [.sref n ver 0 len full, .fn g []] h kk := ⟨sort_callV L k hk0 aE zE dof hk hlit cf hO hcmp heg hn hl hsz hkk⟩
end Go.PM
