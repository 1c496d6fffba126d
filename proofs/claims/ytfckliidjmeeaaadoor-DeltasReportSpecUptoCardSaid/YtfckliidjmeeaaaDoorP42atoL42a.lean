/- Deltas, plain: the texts of a report say what was reported. -/
import Derived.Test.YtfckliidjmeeaaaDoorD42ptoD42u
namespace Go.PM
open Go.Proofs
set_option maxRecDepth 10000
def valD (l : List UInt8) : Nat := l.foldl (fun a c => 10 * a + (c.toNat - 48)) 0
theorem dig_val {k : Nat} (h : k < 10) : (UInt8.ofNat (48 + k)).toNat = 48 + k := by
  rw [UInt8.toNat_ofNat']; omega
theorem valD_decs (u : Nat) : valD (Go.Lib.decDigits u) = u := by
  induction u using Nat.strongRecOn with
  | _ u ih =>
    by_cases h : u < 10
    · rw [Go.Lib.decDigits, dif_pos h]
      show 10 * 0 + ((UInt8.ofNat (48 + u)).toNat - 48) = u
      rw [dig_val h]; omega
    · rw [Go.Lib.decDigits, dif_neg h]
      unfold valD
      rw [List.foldl_append]
      show 10 * valD (Go.Lib.decDigits (u / 10)) + ((UInt8.ofNat (48 + u % 10)).toNat - 48) = u
      rw [ih (u / 10) (by omega), dig_val (by omega)]; omega
theorem decs_inj {u v : Nat} (h : decs u = decs v) : u = v := by
  rw [← valD_decs u, show Go.Lib.decDigits u = Go.Lib.decDigits v from h, valD_decs]
theorem decs_dig (u : Nat) : ∀ c ∈ decs u, 48 ≤ c.toNat := by
  induction u using Nat.strongRecOn with
  | _ u ih =>
    intro c hc
    by_cases h : u < 10
    · rw [show decs u = _ from Go.Lib.decDigits_one h] at hc
      rw [List.mem_singleton.1 hc, dig_val h]; omega
    · rw [show decs u = decs (u / 10) ++ [UInt8.ofNat (48 + u % 10)] from by unfold decs; rw [Go.Lib.decDigits, dif_neg h]] at hc
      rcases List.mem_append.1 hc with hc | hc
      · exact ih (u / 10) (by omega) c hc
      · rw [List.mem_singleton.1 hc, dig_val (by omega)]; omega
theorem itoa_pos {n : Int} (h : ¬ n < 0) : itoa n = decs n.toNat := by
  obtain ⟨m, rfl⟩ : ∃ m : Nat, n = m := ⟨n.toNat, by omega⟩
  rw [itoa_nat]; rfl
theorem itoa_inj {m n : Int} (h : itoa m = itoa n) : m = n := by
  by_cases hm : m < 0 <;> by_cases hn : n < 0
  · rw [itoa_negs hm, itoa_negs hn] at h
    have := decs_inj (List.cons.inj h).2
    omega
  · rw [itoa_negs hm, itoa_pos hn] at h
    have := decs_dig n.toNat 45 (by rw [← h]; exact .head _)
    exact absurd this (by decide)
  · rw [itoa_pos hm, itoa_negs hn] at h
    have := decs_dig m.toNat 45 (by rw [h]; exact .head _)
    exact absurd this (by decide)
  · rw [itoa_pos hm, itoa_pos hn] at h
    have := decs_inj h
    omega
theorem cut_inj {s : UInt8} : ∀ {a b c d : List UInt8}, s ∉ a → s ∉ c → a ++ s :: b = c ++ s :: d → a = c ∧ b = d
  | [], _, [], _, _, _, h => ⟨rfl, (List.cons.inj h).2⟩
  | [], _, y :: c, _, _, h2, h => absurd (List.mem_cons.2 (.inl (List.cons.inj h).1)) h2
  | x :: a, _, [], _, h1, _, h => absurd (List.mem_cons.2 (.inl (List.cons.inj h).1.symm)) h1
  | x :: a, b, y :: c, d, h1, h2, h => by
    obtain ⟨e, h⟩ := List.cons.inj h
    have := cut_inj (fun hh => h1 (.tail _ hh)) (fun hh => h2 (.tail _ hh)) h
    exact ⟨by rw [e, this.1], this.2⟩
def J (ws : List (List UInt8)) : List UInt8 := ws.flatMap fun w => 32 :: w
def Code1 {α : Type} (g : α → List (List UInt8)) : Prop := ∀ x y r s, g x ++ r = g y ++ s → x = y ∧ r = s
def wordsM {α : Type} (f : α → Part) (l : List α) : List (List UInt8) := itoa l.length :: l.flatMap fun x => (f x).words
end Go.PM
/- Deltas, plain: a report's names are distinct, and equal reports are reports of the same. -/
namespace Go.PM
open Go.Proofs
set_option maxRecDepth 10000
theorem entM_nm (w : List UInt8) (i : Int) (l : List Part) : (entM w i l).nm = nameM w i := by unfold Ent.nm entM; exact ba_mk _
theorem nameM_eq (w : List UInt8) (i : Int) : nameM w i = w ++ 32 :: itoa i := by simp [nameM]
theorem nameM_inj {w w' : List UInt8} {i j : Int} (hw : (32 : UInt8) ∉ w) (hw' : (32 : UInt8) ∉ w') (h : nameM w i = nameM w' j) : w = w' ∧ i = j := by
  rw [nameM_eq, nameM_eq] at h
  obtain ⟨h1, h2⟩ := cut_inj hw hw' h
  exact ⟨h1, itoa_inj h2⟩
theorem entsM_mem {α : Type} {w : List UInt8} {f : α → List Part} {l : List α} {e : Ent} : e ∈ entsM w f l ↔ ∃ (i : Nat) (x : α), l[i]? = some x ∧ e = entM w (i : Nat) (f x) := by
  unfold entsM
  rw [List.mem_mapIdx]
  constructor
  · rintro ⟨i, hi, rfl⟩
    exact ⟨i, l[i], List.getElem?_eq_getElem hi, rfl⟩
  · rintro ⟨i, x, hx, rfl⟩
    obtain ⟨hi, rfl⟩ := List.getElem?_eq_some_iff.1 hx
    exact ⟨i, hi, rfl⟩
theorem entsM_d {α : Type} {w : List UInt8} (hw : (32 : UInt8) ∉ w) (f : α → List Part) (l : List α) : dE (entsM w f l) := by
  unfold dE entsM
  rw [List.pairwise_iff_getElem]
  intro i j hi hj hij he
  rw [List.getElem_mapIdx, List.getElem_mapIdx, entM_nm, entM_nm] at he
  have := (nameM_inj hw hw he).2
  omega
def Tag (w : List UInt8) (l : List Ent) : Prop := ∀ e ∈ l, ∃ i : Int, e.nm = nameM w i
theorem entsM_tag {α : Type} (w : List UInt8) (f : α → List Part) (l : List α) : Tag w (entsM w f l) := fun e he => by
  obtain ⟨i, x, _, rfl⟩ := entsM_mem.1 he
  exact ⟨i, entM_nm _ _ _⟩
abbrev Secs := List (List UInt8 × List Ent)
structure SecOk (gs : Secs) : Prop where
  nd : (gs.map (·.1)).Nodup
  sp : ∀ g ∈ gs, (32 : UInt8) ∉ g.1
  tag : ∀ g ∈ gs, Tag g.1 g.2
  d : ∀ g ∈ gs, dE g.2
theorem secs_d : ∀ {gs : Secs}, SecOk gs → dE (gs.flatMap (·.2))
  | [], _ => .nil
  | x :: gs, h => by
    rw [List.flatMap_cons]
    refine List.pairwise_append.2 ⟨h.d x (.head _), secs_d ⟨(List.nodup_cons.1 h.nd).2, fun g hg => h.sp g (.tail _ hg), fun g hg => h.tag g (.tail _ hg), fun g hg => h.d g (.tail _ hg)⟩, fun a ha b hb => ?_⟩
    obtain ⟨g, hg, hb⟩ := List.mem_flatMap.1 hb
    obtain ⟨i, hi⟩ := h.tag x (.head _) a ha
    obtain ⟨j, hj⟩ := h.tag g (.tail _ hg) b hb
    rw [hi, hj]
    intro he
    have hk := (nameM_inj (h.sp x (.head _)) (h.sp g (.tail _ hg)) he).1
    exact (List.nodup_cons.1 h.nd).1 (List.mem_map.2 ⟨g, hg, hk.symm⟩)
def secs (x : Rep) : Secs := [(wLine, entsM wLine (oneP Lin.part) x.p.lines), (wNeed, entsM wNeed Nee.parts x.p.needs), (wLot, entsM wLot Lo.parts x.p.lots), (wCost, entsM wCost (oneP .int) x.p.costs), (wJob, entsM wJob Jo.parts x.p.jobs), (wPeg, entsM wPeg Pe.parts x.p.pegs), (wLate, entsM wLate (oneP .int) x.p.late), (wPrice, entsM wPrice (oneP .ratio) x.c), (wVerdict, entsM wVerdict Ver.parts x.v), (wAnswer, entsM wAnswer Ans.parts x.a)]
theorem report_secs (x : Rep) : reportM x = headM x.p :: (secs x).flatMap (·.2) := by
  unfold reportM planM secs
  simp only [List.flatMap_cons, List.flatMap_nil, List.append_nil, List.append_assoc, List.cons_append, List.nil_append]
theorem secs_ok (x : Rep) : SecOk (secs x) := by
  refine ⟨?_, ?_, ?_, ?_⟩
  · rw [show (secs x).map (·.1) = [wLine, wNeed, wLot, wCost, wJob, wPeg, wLate, wPrice, wVerdict, wAnswer] from rfl]
    decide
  all_goals
    intro g hg
    simp only [secs, List.mem_cons, List.not_mem_nil, or_false] at hg
  · rcases hg with rfl | rfl | rfl | rfl | rfl | rfl | rfl | rfl | rfl | rfl <;> dsimp only <;> decide
  · rcases hg with rfl | rfl | rfl | rfl | rfl | rfl | rfl | rfl | rfl | rfl <;> exact entsM_tag _ _ _
  · rcases hg with rfl | rfl | rfl | rfl | rfl | rfl | rfl | rfl | rfl | rfl <;> exact entsM_d (by decide) _ _
theorem head_nm (p : Pla) : (headM p).nm = wPlan := by unfold Ent.nm headM; exact ba_mk _
theorem head_out {gs : Secs} (h : SecOk gs) {e : Ent} (he : e ∈ gs.flatMap (·.2)) : e.nm ≠ wPlan := by
  obtain ⟨g, hg, he⟩ := List.mem_flatMap.1 he
  obtain ⟨j, hj⟩ := h.tag g hg e he
  rw [hj, nameM_eq]
  intro hh
  have : (32 : UInt8) ∈ wPlan := by rw [← hh]; simp
  exact absurd this (by decide)
theorem report_d (x : Rep) : dE (reportM x) := by
  rw [report_secs]
  refine List.pairwise_cons.2 ⟨fun e he => ?_, secs_d (secs_ok x)⟩
  rw [head_nm]
  exact (head_out (secs_ok x) he).symm
end Go.PM
/- Deltas, plain: what is small, and what follows for texts. -/
namespace Go.PM
open Go.Proofs
set_option maxRecDepth 10000
def Lin.w (x : Lin) : Prop := okI x.a ∧ okI x.b ∧ okI x.c
def Rat.w (x : Rat) : Prop := x.n.size ≤ 1048576 ∧ x.d.size ≤ 1048576
def Nee.w (x : Nee) : Prop := x.l.w ∧ okI x.day ∧ x.amt.w ∧ okI x.kind ∧ okI x.no
def Lo.w (x : Lo) : Prop := x.l.w ∧ okI x.day ∧ okI x.amt
def Jo.w (x : Jo) : Prop := okI x.a ∧ okI x.b ∧ okI x.c ∧ okI x.s ∧ okI x.e ∧ okI x.f
def Pe.w (x : Pe) : Prop := okI x.kind ∧ okI x.no ∧ okI x.need ∧ x.amt.w
def Rd.w (x : Rd) : Prop := okI x.a ∧ okI x.b ∧ okI x.c ∧ okI x.s ∧ okI x.e
def LW {α : Type} (p : α → Prop) (l : List α) : Prop := l.length ≤ 1048576 ∧ ∀ x ∈ l, p x
def Bran.w (x : Bran) : Prop := LW okI x.ch ∧ okI x.k ∧ okI x.v ∧ okI x.p
structure Ver.w (x : Ver) : Prop where
  kind : okI x.kind
  wth : LW okI x.wth
  wo : LW okI x.wo
  leaves : LW Bran.w x.leaves
structure Ans.w (x : Ans) : Prop where
  amts : LW (LW okI) x.amts
  conf : LW okI x.conf
  reads : LW Rd.w x.reads
structure Pla.w (x : Pla) : Prop where
  start : okI x.start
  days : okI x.days
  lines : LW Lin.w x.lines
  needs : LW Nee.w x.needs
  lots : LW Lo.w x.lots
  costs : LW okI x.costs
  jobs : LW Jo.w x.jobs
  pegs : LW Pe.w x.pegs
  late : LW okI x.late
structure Rep.w (x : Rep) : Prop where
  p : x.p.w
  c : LW Rat.w x.c
  v : LW Ver.w x.v
  a : LW Ans.w x.a
def sumL {α : Type} (f : α → Nat) (l : List α) : Nat := (l.map f).sum
theorem sumL_next {α : Type} {f : α → Nat} {l : List α} {i : Nat} {x : α} (h : l[i]? = some x) : sumL f (l.take (i + 1)) = sumL f (l.take i) + f x := by
  unfold sumL
  rw [List.take_add_one, h]
  simp
theorem sumL_take {α : Type} (f : α → Nat) (l : List α) (i : Nat) : sumL f (l.take i) ≤ sumL f l := by
  unfold sumL
  conv => rhs; rw [← List.take_append_drop i l]
  rw [List.map_append, List.sum_append]; omega
theorem sumL_mem {α : Type} {f : α → Nat} {l : List α} {x : α} (h : x ∈ l) : f x ≤ sumL f l := by
  unfold sumL
  induction l with
  | nil => cases h
  | cons y l ih =>
    simp only [List.map_cons, List.sum_cons]
    rcases List.mem_cons.1 h with rfl | h
    · omega
    · have := ih h; omega
theorem sumL_le {α : Type} {f : α → Nat} {l : List α} {b : Nat} (h : ∀ x ∈ l, f x ≤ b) : sumL f l ≤ l.length * b := by
  unfold sumL
  induction l with
  | nil => simp
  | cons y l ih =>
    simp only [List.map_cons, List.sum_cons, List.length_cons, Nat.add_mul, Nat.one_mul]
    have h1 := h y (.head _)
    have h2 := ih fun x hx => h x (.tail _ hx)
    omega
def Ver.n (x : Ver) : Nat := x.wth.length + x.wo.length + x.leaves.length + sumL (fun b : Bran => b.ch.length) x.leaves
def Ans.n (x : Ans) : Nat := x.amts.length + x.conf.length + x.reads.length + sumL (fun l : List Int => l.length) x.amts
def Rat.k (x : Rat) : Nat := (x.n.size + x.d.size) / 100
def Rep.n0 (x : Rep) : Nat := x.p.lines.length + x.p.needs.length + x.p.lots.length + x.p.costs.length + x.p.jobs.length + x.p.pegs.length + x.p.late.length + x.c.length + x.v.length + x.a.length
def Rep.n1 (x : Rep) : Nat := x.n0 + sumL Ver.n x.v
def Rep.n2 (x : Rep) : Nat := x.n1 + sumL Ans.n x.a
def Rep.n3 (x : Rep) : Nat := x.n2 + sumL (fun y : Nee => y.amt.k) x.p.needs
def Rep.n4 (x : Rep) : Nat := x.n3 + sumL (fun y : Pe => y.amt.k) x.p.pegs
def Rep.n (x : Rep) : Nat := x.n4 + sumL Rat.k x.c
theorem mulb {a b x y : Nat} (h1 : a ≤ x) (h2 : b ≤ y) : a * b ≤ x * y := Nat.mul_le_mul h1 h2
theorem Rep.n_lt {x : Rep} (h : x.w) : x.n < 2 ^ 62 := by
  have hv : ∀ y ∈ x.v, y.n ≤ 3 * 1048576 + 1048576 * 1048576 := fun y hy => by
    have w := h.v.2 y hy
    have h1 := sumL_le (f := fun b : Bran => b.ch.length) (l := y.leaves) (b := 1048576) fun b hb => (w.leaves.2 b hb).1.1
    have h2 := mulb w.leaves.1 (Nat.le_refl 1048576)
    have h3 := w.wth.1; have h4 := w.wo.1; have h5 := w.leaves.1
    unfold Ver.n; omega
  have ha : ∀ y ∈ x.a, y.n ≤ 3 * 1048576 + 1048576 * 1048576 := fun y hy => by
    have w := h.a.2 y hy
    have h1 := sumL_le (f := fun l : List Int => l.length) (l := y.amts) (b := 1048576) fun b hb => (w.amts.2 b hb).1
    have h2 := mulb w.amts.1 (Nat.le_refl 1048576)
    have h3 := w.conf.1; have h4 := w.reads.1; have h5 := w.amts.1
    unfold Ans.n; omega
  have rk : ∀ r : Rat, r.w → r.k ≤ 1048576 := fun r hr => by
    have h1 := hr.1; have h2 := hr.2
    unfold Rat.k; omega
  have s1 := Nat.le_trans (sumL_le hv) (mulb h.v.1 (Nat.le_refl _))
  have s2 := Nat.le_trans (sumL_le ha) (mulb h.a.1 (Nat.le_refl _))
  have s3 := Nat.le_trans (sumL_le (f := fun y : Nee => y.amt.k) (l := x.p.needs) fun y hy => rk _ (h.p.needs.2 y hy).2.2.1) (mulb h.p.needs.1 (Nat.le_refl _))
  have s4 := Nat.le_trans (sumL_le (f := fun y : Pe => y.amt.k) (l := x.p.pegs) fun y hy => rk _ (h.p.pegs.2 y hy).2.2.2) (mulb h.p.pegs.1 (Nat.le_refl _))
  have s5 := Nat.le_trans (sumL_le (f := Rat.k) (l := x.c) fun y hy => rk _ (h.c.2 y hy)) (mulb h.c.1 (Nat.le_refl _))
  have l1 := h.p.lines.1; have l2 := h.p.needs.1; have l3 := h.p.lots.1; have l4 := h.p.costs.1; have l5 := h.p.jobs.1; have l6 := h.p.pegs.1; have l7 := h.p.late.1
  have l8 := h.c.1; have l9 := h.v.1; have l10 := h.a.1
  unfold Rep.n Rep.n4 Rep.n3 Rep.n2 Rep.n1 Rep.n0
  omega
def lenP : Part → Nat
  | .int _ => 22
  | .bool _ => 22
  | .ints l => 22 * (l.length + 1)
  | .ratio r => 2 * (r.n.size + r.d.size) + 3
  | .line _ _ _ => 66
  | .branch l _ _ _ => 22 * (l.length + 4)
  | .read _ _ _ _ _ => 110
theorem outT_lenW : ∀ (ws : List (List UInt8)) (xs : List UInt8), (outT xs ws).length ≤ xs.length + (ws.map fun w => w.length + 1).sum
  | [], xs => by simp [outT]
  | w :: ws, xs => by
    rw [outT_cons]
    have := outT_lenW ws (outW xs w)
    have hw : (outW xs w).length ≤ xs.length + w.length + 1 := by
      unfold outW; split
      · rename_i h; subst h; simp
      · simp; omega
    simp only [List.map_cons, List.sum_cons]; omega
theorem lenI : ∀ (l : List Int), (∀ n ∈ l, okI n) → ((wordsI l).map fun w => w.length + 1).sum ≤ 22 * l.length
  | [], _ => by simp [wordsI]
  | n :: l, h => by
    have hi := itoa_len n (h n (.head _))
    have ih := lenI l fun m hm => h m (.tail _ hm)
    have e : wordsI (n :: l) = itoa n :: wordsI l := rfl
    rw [e]
    simp only [List.map_cons, List.sum_cons, List.length_cons]; omega
theorem lenL (l : List Int) (h : ∀ n ∈ l, okI n) (hl : l.length < 2 ^ 40) : ((wordsL l).map fun w => w.length + 1).sum ≤ 22 * (l.length + 1) := by
  have := lenI (((l.length : Nat) : Int) :: l) (by
    intro n hn
    rcases List.mem_cons.1 hn with rfl | hn
    · exact ⟨by omega, by omega⟩
    · exact h n hn)
  exact this
theorem ratM_len (r : Rat) : (ratM r).length ≤ 2 * (r.n.size + r.d.size) + 2 := by
  unfold ratM
  simp only [List.length_append, List.length_cons, hexL_len, b_len]
  split <;> simp <;> omega
theorem words_len (p : Part) (h : p.ok) : (p.words.map fun w => w.length + 1).sum ≤ lenP p := by
  cases p with
  | int n => exact lenI [n] (by intro m hm; rw [List.mem_singleton.1 hm]; exact h)
  | bool x => exact lenI [if x then 1 else 0] (by cases x <;> simp [okI])
  | ints l => exact lenL l h.1 (by have := h.2; omega)
  | ratio r =>
    have := ratM_len r
    simp only [Part.words, List.map_cons, List.map_nil, List.sum_cons, List.sum_nil, lenP]; omega
  | line a b c => exact lenI [a, b, c] (by simpa [Part.ok] using h)
  | branch l a b c =>
    have h1 := lenL l h.1.1 (by have := h.1.2; omega)
    have h2 := lenI [a, b, c] (by simpa [Part.ok] using h.2)
    simp only [Part.words, List.map_append, List.sum_append, lenP]
    simp only [List.length_cons, List.length_nil] at h2; omega
  | read a b c d e => exact lenI [a, b, c, d, e] (by simpa [Part.ok] using h)
theorem txt_len (l : List Part) (h : ∀ p ∈ l, p.ok) : (txt l).length ≤ (l.map lenP).sum := by
  have h1 := outT_lenW (wordsP l) []
  have h2 : ((wordsP l).map fun w => w.length + 1).sum ≤ (l.map lenP).sum := by
    clear h1
    induction l with
    | nil => simp [wordsP]
    | cons p l ih =>
      have hp := words_len p (h p (.head _))
      have hl := ih fun q hq => h q (.tail _ hq)
      rw [wordsP_cons]
      simp only [List.map_append, List.sum_append, List.map_cons, List.sum_cons]; omega
  unfold txt
  simp only [List.length_nil] at h1; omega
theorem okP_of {l : List Part} (hl : l.length < 2 ^ 28) (h : ∀ p ∈ l, p.ok) (hs : (l.map lenP).sum < 2 ^ 28) : okP l :=
  ⟨hl, h, Nat.lt_of_le_of_lt (txt_len l h) hs⟩
theorem okP_line {x : Lin} (h : x.w) : okP (oneP Lin.part x) :=
  okP_of (by simp [oneP]) (by intro p hp; rw [List.mem_singleton.1 hp]; exact h) (by simp [oneP, Lin.part, lenP])
theorem okP_int {x : Int} (h : okI x) : okP (oneP .int x) :=
  okP_of (by simp [oneP]) (by intro p hp; rw [List.mem_singleton.1 hp]; exact h) (by simp [oneP, lenP])
theorem okP_ratio {x : Rat} (h : x.w) : okP (oneP .ratio x) :=
  okP_of (by simp [oneP]) (by intro p hp; rw [List.mem_singleton.1 hp]; exact ⟨Nat.lt_of_le_of_lt h.1 (by decide), Nat.lt_of_le_of_lt h.2 (by decide)⟩) (by
    have h1 := h.1; have h2 := h.2
    simp only [oneP, List.map_cons, List.map_nil, List.sum_cons, List.sum_nil, lenP]; omega)
theorem okP_need {x : Nee} (h : x.w) : okP x.parts := by
  obtain ⟨a, b, c, d, e⟩ := h
  refine okP_of (by simp [Nee.parts]) ?_ ?_
  · intro p hp
    simp only [Nee.parts, List.mem_cons, List.not_mem_nil, or_false] at hp
    rcases hp with rfl | rfl | rfl | rfl | rfl
    · exact a
    · exact b
    · exact ⟨Nat.lt_of_le_of_lt c.1 (by decide), Nat.lt_of_le_of_lt c.2 (by decide)⟩
    · exact d
    · exact e
  · have h1 := c.1; have h2 := c.2
    simp only [Nee.parts, Lin.part, List.map_cons, List.map_nil, List.sum_cons, List.sum_nil, lenP]; omega
theorem okP_lot {x : Lo} (h : x.w) : okP x.parts := by
  obtain ⟨a, b, c⟩ := h
  refine okP_of (by simp [Lo.parts]) ?_ (by simp [Lo.parts, Lin.part, lenP])
  intro p hp
  simp only [Lo.parts, List.mem_cons, List.not_mem_nil, or_false] at hp
  rcases hp with rfl | rfl | rfl
  · exact a
  · exact b
  · exact c
theorem okP_job {x : Jo} (h : x.w) : okP x.parts := by
  obtain ⟨a, b, c, d, e, f⟩ := h
  refine okP_of (by simp [Jo.parts]) ?_ (by simp [Jo.parts, lenP])
  intro p hp
  simp only [Jo.parts, List.mem_cons, List.not_mem_nil, or_false] at hp
  rcases hp with rfl | rfl | rfl | rfl | rfl | rfl
  · exact a
  · exact b
  · exact c
  · exact d
  · exact e
  · exact f
theorem okP_peg {x : Pe} (h : x.w) : okP x.parts := by
  obtain ⟨a, b, c, d⟩ := h
  refine okP_of (by simp [Pe.parts]) ?_ ?_
  · intro p hp
    simp only [Pe.parts, List.mem_cons, List.not_mem_nil, or_false] at hp
    rcases hp with rfl | rfl | rfl | rfl
    · exact a
    · exact b
    · exact c
    · exact ⟨Nat.lt_of_le_of_lt d.1 (by decide), Nat.lt_of_le_of_lt d.2 (by decide)⟩
  · have h1 := d.1; have h2 := d.2
    simp only [Pe.parts, List.map_cons, List.map_nil, List.sum_cons, List.sum_nil, lenP]; omega
theorem mem_parts {α : Type} {f : α → Part} {l : List α} {p : Part} (h : p ∈ partsM f l) : p = .int l.length ∨ ∃ x ∈ l, p = f x := by
  rcases List.mem_cons.1 h with h | h
  · exact .inl h
  · obtain ⟨x, hx, rfl⟩ := List.mem_map.1 h
    exact .inr ⟨x, hx, rfl⟩
theorem sum_parts {α : Type} (f : α → Part) (l : List α) : ((partsM f l).map lenP).sum = 22 + sumL (fun x => lenP (f x)) l := by
  unfold partsM sumL
  simp [lenP, List.map_map, Function.comp_def]
theorem sumL_add {α : Type} (f : α → Nat) (k c : Nat) (l : List α) : sumL (fun x => k * (f x + c)) l = k * sumL f l + k * c * l.length := by
  unfold sumL
  induction l with
  | nil => simp
  | cons x l ih =>
    rw [List.map_cons, List.sum_cons, ih, List.map_cons, List.sum_cons, List.length_cons, Nat.mul_add k (f x) c, Nat.mul_add k (f x), Nat.mul_add (k * c), Nat.mul_one]
    omega
theorem lenP_int (n : Int) : lenP (.int n) = 22 := rfl
theorem lenP_bool (x : Bool) : lenP (.bool x) = 22 := rfl
theorem lenP_ints (l : List Int) : lenP (.ints l) = 22 * (l.length + 1) := rfl
theorem okP_ver {x : Ver} (h : x.w) (hn : x.n ≤ 300) : okP x.parts := by
  have hn' := hn
  unfold Ver.n at hn'
  refine okP_of ?_ ?_ ?_
  · simp [Ver.parts, partsM]; omega
  · intro p hp
    unfold Ver.parts at hp
    rcases List.mem_append.1 hp with hp | hp
    · simp only [List.mem_cons, List.not_mem_nil, or_false] at hp
      rcases hp with rfl | rfl | rfl
      · exact h.kind
      · exact ⟨h.wth.2, by omega⟩
      · exact ⟨h.wo.2, by omega⟩
    · rcases mem_parts hp with rfl | ⟨b, hb, rfl⟩
      · exact ⟨by omega, by omega⟩
      · have hw := h.leaves.2 b hb
        have hl := sumL_mem (f := fun b : Bran => b.ch.length) hb
        exact ⟨⟨hw.1.2, by have := hw.1.1; omega⟩, hw.2⟩
  · unfold Ver.parts
    rw [List.map_append, List.sum_append, sum_parts]
    have e := sumL_add (fun b : Bran => b.ch.length) 22 4 x.leaves
    have e' : sumL (fun b : Bran => lenP b.part) x.leaves = sumL (fun b : Bran => 22 * (b.ch.length + 4)) x.leaves := rfl
    simp only [List.map_cons, List.map_nil, List.sum_cons, List.sum_nil, lenP_int, lenP_bool, lenP_ints]
    omega
theorem okR_ver {x : Ver} (h : x.w) (hn : x.n ≤ 300) : x.okR := by
  have hn' := hn
  unfold Ver.n at hn'
  refine ⟨h.kind, ⟨h.wth.2, by omega⟩, ⟨h.wo.2, by omega⟩, by omega, fun b hb => ?_, (okP_ver h hn).txt⟩
  have hw := h.leaves.2 b hb
  exact ⟨⟨hw.1.2, by have := hw.1.1; omega⟩, hw.2⟩
theorem okP_ans {x : Ans} (h : x.w) (hn : x.n ≤ 300) : okP x.parts := by
  have hn' := hn
  unfold Ans.n at hn'
  refine okP_of ?_ ?_ ?_
  · simp [Ans.parts, partsM]; omega
  · intro p hp
    unfold Ans.parts at hp
    rcases List.mem_append.1 hp with hp | hp
    · rcases List.mem_append.1 hp with hp | hp
      · rcases List.mem_append.1 hp with hp | hp
        · rw [List.mem_singleton.1 hp]; trivial
        · rcases mem_parts hp with rfl | ⟨b, hb, rfl⟩
          · exact ⟨by omega, by omega⟩
          · have hw := h.amts.2 b hb
            exact ⟨hw.2, by have := hw.1; omega⟩
      · rw [List.mem_singleton.1 hp]; exact ⟨h.conf.2, by omega⟩
    · rcases mem_parts hp with rfl | ⟨b, hb, rfl⟩
      · exact ⟨by omega, by omega⟩
      · exact h.reads.2 b hb
  · unfold Ans.parts
    simp only [List.map_append, List.sum_append, sum_parts]
    have e := sumL_add (fun b : List Int => b.length) 22 1 x.amts
    have e' : sumL (fun b : List Int => lenP (.ints b)) x.amts = sumL (fun b : List Int => 22 * (b.length + 1)) x.amts := rfl
    have e2 := sumL_le (f := fun b : Rd => lenP b.part) (l := x.reads) (b := 110) fun _ _ => Nat.le_refl _
    simp only [List.map_cons, List.map_nil, List.sum_cons, List.sum_nil, lenP_int, lenP_bool, lenP_ints]
    omega
theorem okR_ans {x : Ans} (h : x.w) (hn : x.n ≤ 300) : x.okR := by
  have hn' := hn
  unfold Ans.n at hn'
  exact ⟨by omega, fun l hl => ⟨(h.amts.2 l hl).2, by have := (h.amts.2 l hl).1; omega⟩, ⟨h.conf.2, by omega⟩, by omega, h.reads.2, (okP_ans h hn).txt⟩
theorem Rep.n_v {x : Rep} (h : x.n ≤ 300) : ∀ y ∈ x.v, y.n ≤ 300 := fun y hy => by
  have := sumL_mem (f := Ver.n) hy
  unfold Rep.n Rep.n4 Rep.n3 Rep.n2 Rep.n1 at h; omega
theorem Rep.n_a {x : Rep} (h : x.n ≤ 300) : ∀ y ∈ x.a, y.n ≤ 300 := fun y hy => by
  have := sumL_mem (f := Ans.n) hy
  unfold Rep.n Rep.n4 Rep.n3 Rep.n2 at h; omega
theorem okL_of {α : Type} {f : α → List Part} {l : List α} (h : l.length ≤ 1048576) (hp : ∀ x ∈ l, okP (f x)) : okL f l := ⟨by omega, hp⟩
theorem Rep.ok_of {x : Rep} (h : x.w) (hn : x.n ≤ 300) : x.ok where
  p := {
    head := okP_of (by simp) (by
      intro p hp
      simp only [List.mem_cons, List.not_mem_nil, or_false] at hp
      rcases hp with rfl | rfl
      · exact h.p.start
      · exact h.p.days) (by simp [lenP])
    lines := okL_of h.p.lines.1 fun y hy => okP_line (h.p.lines.2 y hy)
    needs := okL_of h.p.needs.1 fun y hy => okP_need (h.p.needs.2 y hy)
    lots := okL_of h.p.lots.1 fun y hy => okP_lot (h.p.lots.2 y hy)
    costs := okL_of h.p.costs.1 fun y hy => okP_int (h.p.costs.2 y hy)
    jobs := okL_of h.p.jobs.1 fun y hy => okP_job (h.p.jobs.2 y hy)
    pegs := okL_of h.p.pegs.1 fun y hy => okP_peg (h.p.pegs.2 y hy)
    late := okL_of h.p.late.1 fun y hy => okP_int (h.p.late.2 y hy) }
  c := okL_of h.c.1 fun y hy => okP_ratio (h.c.2 y hy)
  v := okL_of h.v.1 fun y hy => okP_ver (h.v.2 y hy) (Rep.n_v hn y hy)
  a := okL_of h.a.1 fun y hy => okP_ans (h.a.2 y hy) (Rep.n_a hn y hy)
  leaves := fun y hy => by have := (h.v.2 y hy).leaves.1; omega
  amts := fun y hy => ⟨by have := (h.a.2 y hy).amts.1; omega, by have := (h.a.2 y hy).reads.1; omega⟩
end Go.PM
