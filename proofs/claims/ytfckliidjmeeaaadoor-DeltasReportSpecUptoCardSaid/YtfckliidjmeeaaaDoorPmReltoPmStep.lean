/-
  PM, part 3: how abstract values and the abstract heap stand to the model's world.
-/
import Derived.Test.YtfckliidjmeeaaaDoorPmDefstoPmEval
import Derived.Carry
import Derived.RowKit3
import Derived.Laws.CopyRow
import Derived.Laws.Rows
import Derived.Laws.Cells
import Derived.Laws.AppendOwn
import Derived.Deep.Draws
set_option linter.unusedSectionVars false
namespace Go.PM
variable [Glob]
abbrev Stb := Nat → Nat → Prop
abbrev Bet := List (Option (Nat × Nat))
def V.flat : V → Bool
  | .u => false
  | .d x => x.flat
  | .agg _ => false
  | .tup _ => false
  | _ => true
def one : Value → Bool
  | .agg _ => false
  | .tuple _ => false
  | _ => true
inductive DR (w : World) (S : Stb) : D → Value → Prop where
  | b (x : Bool) : DR w S (.b x) (.bool x)
  | i (k : IntKind) (n : Int) : DR w S (.i k n) (.int k n)
  | s (x : ByteArray) : DR w S (.s x) (.string x)
  | k (v : Value) : one v = true → DR w S (.k v) v
  | agg (cs : List D) (arr : Array Value) : arr.size = cs.length → (∀ (j : Nat) (c : D), cs[j]? = some c → c.flat = true) →
      (∀ (j : Nat) (c : D) (u : Value), cs[j]? = some c → arr[j]? = some u → DR w S c u) → DR w S (.agg cs) (.agg arr)
  | sl (sz : Nat) (full : Bool) (xs : List D) (a : Option Addr) (cap b off : Nat) (uf : Nat → Nat → Value) : xs.length ≤ cap → (full = true → cap = xs.length) → (sz = 0 → xs = []) →
      (xs ≠ [] → a = some ⟨b, off, none⟩) → (∀ (i : Nat) (x : D), xs[i]? = some x → x.cells.length = sz) →
      (∀ (i : Nat) (x : D) (j : Nat) (c : D), xs[i]? = some x → x.cells[j]? = some c → c.flat = true ∧ w.cell? ⟨b, off + i * sz + j, none⟩ = some (uf i j) ∧ S b (off + i * sz + j)) →
      (∀ (i : Nat) (x : D) (j : Nat) (c : D), xs[i]? = some x → x.cells[j]? = some c → DR w S c (uf i j)) → DR w S (.sl sz full xs) (.slice a xs.length cap)
  | any (t : TypeId) (x : D) (v : Value) : DR w S x v → DR w S (.any t x) (.iface t v)
theorem DR.one {w : World} {S : Stb} {x : D} {v : Value} (h : DR w S x v) (hx : x.flat = true) : one v = true := by
  cases h <;> simp_all [PM.one, D.flat]
theorem DR.evol {w w' : World} {S S' : Stb} {x : D} {v : Value} (h : DR w S x v) (hS : ∀ b o, S b o → S' b o)
    (hc : ∀ b o, S b o → w'.cell? ⟨b, o, none⟩ = w.cell? ⟨b, o, none⟩) : DR w' S' x v := by
  induction h with
  | b x => exact .b x
  | i k n => exact .i k n
  | s x => exact .s x
  | k v hv => exact .k v hv
  | agg cs arr h1 h2 _ ih => exact .agg cs arr h1 h2 ih
  | sl sz full xs a cap b off uf h1 h2 h3 h4 h5 h6 _ ih =>
    refine .sl sz full xs a cap b off uf h1 h2 h3 h4 h5 (fun i x j c hi hj => ?_) ih
    obtain ⟨f1, f2, f3⟩ := h6 i x j c hi hj
    exact ⟨f1, by rw [hc _ _ f3]; exact f2, hS _ _ f3⟩
  | any t x v _ ih => exact .any t x v ih
def PR (h : Hp) (β : Bet) (n ver e o : Nat) (v : Value) : Prop :=
  match h[n]? with
  | some .gone => ∃ b q, v = .pointer (some ⟨b, q, none⟩)
  | some (.var _) => ∃ b, β[n]? = some (some (b, 0)) ∧ ver = 0 ∧ e = 0 ∧ v = .pointer (some ⟨b, o, none⟩)
  | some (.vard _) => ∃ b, β[n]? = some (some (b, 0)) ∧ ver = 0 ∧ e = 0 ∧ v = .pointer (some ⟨b, o, none⟩)
  | some (.miter _ _ _ _) => ∃ b, β[n]? = some (some (b, 0)) ∧ ver = 0 ∧ e = 0 ∧ v = .pointer (some ⟨b, o, none⟩)
  | some (.row ver' sz _ _) => ver ≤ ver' ∧ (∃ b q, v = .pointer (some ⟨b, q, none⟩)) ∧ (ver = ver' → ∃ b base, β[n]? = some (some (b, base)) ∧ v = .pointer (some ⟨b, base + e * sz + o, none⟩))
  | _ => False
def SR (w : World) (h : Hp) (β : Bet) (n ver lo len : Nat) (full : Bool) (v : Value) : Prop :=
  ∃ a cap, v = .slice a len cap ∧ len ≤ cap ∧ (full = true → cap = len) ∧ match h[n]? with
  | some .gone => True
  | some (.row ver' sz _ _) => ver ≤ ver' ∧ (ver = ver' →
      ((β[n]? = some none ∧ cap = 0) ∨ ∃ b base cells elem fz, β[n]? = some (some (b, base)) ∧ (0 < cap → a = some ⟨b, base + lo * sz, none⟩) ∧ w.heap[b]? = some (.cells cells elem fz) ∧ base + (lo + cap) * sz ≤ cells.size))
  | some (.var _) => ver = 1 ∧ ∃ b cells elem fz, β[n]? = some (some (b, 0)) ∧ (0 < cap → a = some ⟨b, lo, none⟩) ∧ w.heap[b]? = some (.cells cells elem fz) ∧ lo + cap ≤ cells.size
  | some (.vard _) => ver = 1 ∧ ∃ b cells elem fz, β[n]? = some (some (b, 0)) ∧ (0 < cap → a = some ⟨b, lo, none⟩) ∧ w.heap[b]? = some (.cells cells elem fz) ∧ lo + cap ≤ cells.size
  | _ => False
def isLoop : Option Blk → Prop
  | some (.loop ..) => True
  | some .gone => True
  | _ => False
def isMap : Option Blk → Prop
  | some (.map _ _ _) => True
  | some (.mapo _ _ _ _ _) => True
  | some (.mapn _ _) => True
  | some .gone => True
  | _ => False
inductive VR (w : World) (S : Stb) (h : Hp) (β : Bet) : V → Value → Prop where
  | u (v : Value) : VR w S h β .u v
  | d {x : D} {v : Value} : DR w S x v → VR w S h β (.d x) v
  | agg (cs : List V) (arr : Array Value) : arr.size = cs.length → (∀ (j : Nat) (c : V), cs[j]? = some c → c.flat = true) →
      (∀ (j : Nat) (c : V) (u : Value), cs[j]? = some c → arr[j]? = some u → VR w S h β c u) → VR w S h β (.agg cs) (.agg arr)
  | tup (cs : List V) (arr : Array Value) : arr.size = cs.length →
      (∀ (j : Nat) (c : V) (u : Value), cs[j]? = some c → arr[j]? = some u → VR w S h β c u) → VR w S h β (.tup cs) (.tuple arr)
  | ptr {n ver e o : Nat} {v : Value} : one v = true → PR h β n ver e o v → VR w S h β (.ptr n ver e o) v
  | rp (cs : List D) (o b off : Nat) (uf : Nat → Value) : (∀ (j : Nat) (c : D), cs[j]? = some c → c.flat = true ∧ w.cell? ⟨b, off + j, none⟩ = some (uf j) ∧ S b (off + j)) →
      (∀ (j : Nat) (c : D), cs[j]? = some c → DR w S c (uf j)) → VR w S h β (.rp cs o) (.pointer (some ⟨b, off + o, none⟩))
  | sref {n ver lo len : Nat} {full : Bool} {v : Value} : one v = true → SR w h β n ver lo len full v → VR w S h β (.sref n ver lo len full) v
  | fn (f : FuncId) (cap : List V) (arr : Array Value) : arr.size = cap.length →
      (∀ (j : Nat) (c : V) (u : Value), cap[j]? = some c → arr[j]? = some u → VR w S h β c u) → VR w S h β (.fn f cap) (.func (.func f) #[] arr)
  | yld {n b : Nat} : isLoop h[n]? → (h[n]? ≠ some .gone → β[n]? = some (some (b, 0))) → VR w S h β (.yld n) (.func (.yield b) #[] #[])
  | map {n b : Nat} : isMap h[n]? → (h[n]? ≠ some .gone → β[n]? = some (some (b, 0))) → VR w S h β (.map n) (.map (some b))
theorem VR.one {w : World} {S : Stb} {h : Hp} {β : Bet} {x : V} {v : Value} (hr : VR w S h β x v) (hx : x.flat = true) : one v = true := by
  cases hr <;> simp_all [V.flat, PM.one]
  exact DR.one ‹_› hx
def VRow (bt : Option (Option (Nat × Nat))) (blk' : Blk) (bt' : Option (Option (Nat × Nat))) : Prop := ∃ ver ro xs, blk' = .row ver 1 ro xs ∧ 1 ≤ ver ∧ (ver = 1 → bt' = bt)
def MapLike (T : TT) (kt : TypeId) (b : Blk) : Prop := (∃ es, b = .map T kt es) ∨ ∃ sz es l, b = .mapo T kt sz es l
def BEv (blk : Blk) (bt : Option (Option (Nat × Nat))) (blk' : Blk) (bt' : Option (Option (Nat × Nat))) : Prop :=
  match blk with
  | .res => True
  | .gone => blk' = .gone
  | .var _ => blk' = .gone ∨ (((∃ cs, blk' = .var cs) ∨ ∃ cs, blk' = .vard cs) ∧ bt' = bt) ∨ VRow bt blk' bt'
  | .vard _ => blk' = .gone ∨ (((∃ cs, blk' = .var cs) ∨ ∃ cs, blk' = .vard cs) ∧ bt' = bt) ∨ VRow bt blk' bt'
  | .row ver sz _ _ => blk' = .gone ∨ ∃ ver' ro xs, blk' = .row ver' sz ro xs ∧ ver ≤ ver' ∧ (ver = ver' → bt' = bt)
  | .map T kt _ => blk' = .gone ∨ MapLike T kt blk' ∧ bt' = bt
  | .mapo T kt _ _ _ => blk' = .gone ∨ MapLike T kt blk' ∧ bt' = bt
  | .mapn T kt => blk' = .gone ∨ (blk' = .mapn T kt ∨ MapLike T kt blk') ∧ bt' = bt
  | .miter T kt _ _ => blk' = .gone ∨ (∃ l c, blk' = .miter T kt l c) ∧ bt' = bt
  | .loop .. => blk' = .gone ∨ (∃ a b c d e f g, blk' = .loop a b c d e f g) ∧ bt' = bt
def img (β : Bet) (b : Nat) : Prop := ∃ (n p : Nat), β[n]? = some (some (b, p))
def Out (w w' : World) : Prop := (w'.os = w.os ∧ w'.output = w.output) ∧ w'.tape = w.tape ∧ w.drawn ≤ w'.drawn
theorem Out.refl (w : World) : Out w w := ⟨⟨rfl, rfl⟩, rfl, Nat.le_refl _⟩
theorem Out.trans {w w1 w2 : World} (a : Out w w1) (b : Out w1 w2) : Out w w2 := ⟨⟨b.1.1.trans a.1.1, b.1.2.trans a.1.2⟩, b.2.1.trans a.2.1, Nat.le_trans a.2.2 b.2.2⟩
structure Evol0 (w : World) (S : Stb) (h : Hp) (β : Bet) (w' : World) (S' : Stb) (h' : Hp) (β' : Bet) : Prop where
  shape : ∀ (i : Nat) c e f, w.heap[i]? = some (.cells c e f) → ∃ c', w'.heap[i]? = some (.cells c' e f) ∧ c'.size = c.size
  sub : ∀ b o, S b o → S' b o
  cell : ∀ b o, S b o → w'.cell? ⟨b, o, none⟩ = w.cell? ⟨b, o, none⟩
  blk : ∀ (n : Nat) (b : Blk), h[n]? = some b → ∃ b', h'[n]? = some b' ∧ BEv b β[n]? b' β'[n]?
structure Evol (w : World) (S : Stb) (h : Hp) (β : Bet) (w' : World) (S' : Stb) (h' : Hp) (β' : Bet) : Prop where
  outer : Out w w'
  size : w.heap.size ≤ w'.heap.size
  frame : ∀ (i : Nat), i < w.heap.size → ¬ img β i → w'.heap[i]? = w.heap[i]?
  shape : ∀ (i : Nat) c e f, w.heap[i]? = some (.cells c e f) → ∃ c', w'.heap[i]? = some (.cells c' e f) ∧ c'.size = c.size
  loops : ∀ (i : Nat) l, w.heap[i]? = some (.loop l) → ∃ l', w'.heap[i]? = some (.loop l')
  froz : ∀ a, a.block < w.heap.size → w'.frozen? a = w.frozen? a
  sub : ∀ b o, S b o → S' b o
  new : ∀ b o, S' b o → S b o ∨ w.heap.size ≤ b ∨ img β b
  cell : ∀ b o, S b o → w'.cell? ⟨b, o, none⟩ = w.cell? ⟨b, o, none⟩
  imgs : ∀ (b : Nat), img β' b → img β b ∨ w.heap.size ≤ b
  len : h.length ≤ h'.length
  blk : ∀ (n : Nat) (b : Blk), h[n]? = some b → ∃ b', h'[n]? = some b' ∧ BEv b β[n]? b' β'[n]?
theorem BEv.refl (b : Blk) (t : Option (Option (Nat × Nat))) : BEv b t b t := by
  cases b <;> simp [BEv, MapLike]
theorem Evol.refl (w : World) (S : Stb) (h : Hp) (β : Bet) : Evol w S h β w S h β where
  outer := Out.refl _
  size := Nat.le_refl _
  frame := fun _ _ _ => rfl
  shape := fun _ c _ _ hi => ⟨c, hi, rfl⟩
  loops := fun _ l hl => ⟨l, hl⟩
  froz := fun _ _ => rfl
  sub := fun _ _ h => h
  new := fun _ _ h => .inl h
  cell := fun _ _ _ => rfl
  imgs := fun _ h => .inl h
  len := Nat.le_refl _
  blk := fun _ b hb => ⟨b, hb, BEv.refl _ _⟩
theorem BEv.trans {a b c : Blk} {ta tb tc : Option (Option (Nat × Nat))} (h1 : BEv a ta b tb) (h2 : BEv b tb c tc) : BEv a ta c tc := by
  cases a with
  | res => trivial
  | gone => simp only [BEv] at h1; subst h1; exact h2
  | var cs =>
    rcases h1 with rfl | ⟨⟨cs', rfl⟩ | ⟨cs', rfl⟩, rfl⟩ | ⟨v1, ro, xs, rfl, hv, ht⟩
    · exact .inl h2
    · exact h2
    · exact h2
    · rcases h2 with rfl | ⟨v2, ro2, xs2, rfl, hv2, ht2⟩
      · exact .inl rfl
      · exact .inr (.inr ⟨v2, ro2, xs2, rfl, by omega, fun e => by rw [ht2 (by omega), ht (by omega)]⟩)
  | vard cs =>
    rcases h1 with rfl | ⟨⟨cs', rfl⟩ | ⟨cs', rfl⟩, rfl⟩ | ⟨v1, ro, xs, rfl, hv, ht⟩
    · exact .inl h2
    · exact h2
    · exact h2
    · rcases h2 with rfl | ⟨v2, ro2, xs2, rfl, hv2, ht2⟩
      · exact .inl rfl
      · exact .inr (.inr ⟨v2, ro2, xs2, rfl, by omega, fun e => by rw [ht2 (by omega), ht (by omega)]⟩)
  | row ver sz ro xs =>
    rcases h1 with rfl | ⟨ver', ro', xs', rfl, hv, ht⟩
    · exact .inl h2
    · rcases h2 with rfl | ⟨ver2, ro2, xs2, rfl, hv2, ht2⟩
      · exact .inl rfl
      · exact .inr ⟨ver2, ro2, xs2, rfl, by omega, fun e => by rw [ht2 (by omega), ht (by omega)]⟩
  | map T kt es =>
    rcases h1 with rfl | ⟨⟨es', rfl⟩ | ⟨_, _, _, rfl⟩, rfl⟩
    · exact .inl h2
    · exact h2
    · exact h2
  | mapn T kt =>
    rcases h1 with rfl | ⟨rfl | ⟨es', rfl⟩ | ⟨_, _, _, rfl⟩, rfl⟩
    · exact .inl h2
    · exact h2
    · exact h2.imp id fun h => ⟨.inr h.1, h.2⟩
    · exact h2.imp id fun h => ⟨.inr h.1, h.2⟩
  | mapo T kt sz es l =>
    rcases h1 with rfl | ⟨⟨es', rfl⟩ | ⟨_, _, _, rfl⟩, rfl⟩
    · exact .inl h2
    · exact h2
    · exact h2
  | miter T kt l c =>
    rcases h1 with rfl | ⟨⟨l', c', rfl⟩, rfl⟩
    · exact .inl h2
    · exact h2
  | loop =>
    rcases h1 with rfl | ⟨⟨a, b, c, d, e, f, g, rfl⟩, rfl⟩
    · exact .inl h2
    · exact h2
theorem Evol.trans {w w1 w2 : World} {S S1 S2 : Stb} {h h1 h2 : Hp} {β β1 β2 : Bet} (a : Evol w S h β w1 S1 h1 β1) (b : Evol w1 S1 h1 β1 w2 S2 h2 β2) : Evol w S h β w2 S2 h2 β2 where
  outer := a.outer.trans b.outer
  size := Nat.le_trans a.size b.size
  frame := fun i hi hn => by
    rw [b.frame i (Nat.lt_of_lt_of_le hi a.size) (fun h => by rcases a.imgs i h with h | h; exact hn h; omega), a.frame i hi hn]
  shape := fun i c e f hi => by
    obtain ⟨c1, h1, s1⟩ := a.shape i c e f hi
    obtain ⟨c2, h2, s2⟩ := b.shape i c1 e f h1
    exact ⟨c2, h2, by omega⟩
  loops := fun i l hl => by
    obtain ⟨l1, h1⟩ := a.loops i l hl
    exact b.loops i l1 h1
  froz := fun x hx => (b.froz x (Nat.lt_of_lt_of_le hx a.size)).trans (a.froz x hx)
  sub := fun x y h => b.sub _ _ (a.sub _ _ h)
  new := fun x y h => by
    rcases b.new x y h with h | h | h
    · exact a.new x y h
    · exact .inr (.inl (Nat.le_trans a.size h))
    · rcases a.imgs x h with h | h
      · exact .inr (.inr h)
      · exact .inr (.inl h)
  cell := fun x y h => (b.cell x y (a.sub _ _ h)).trans (a.cell x y h)
  imgs := fun x h => by
    rcases b.imgs x h with h | h
    · exact a.imgs x h
    · exact .inr (Nat.le_trans a.size h)
  len := Nat.le_trans a.len b.len
  blk := fun n x hx => by
    obtain ⟨y, hy, e1⟩ := a.blk n x hx
    obtain ⟨z, hz, e2⟩ := b.blk n y hy
    exact ⟨z, hz, e1.trans e2⟩
theorem PR.evol0 {w w' : World} {S S' : Stb} {h h' : Hp} {β β' : Bet} (E : Evol0 w S h β w' S' h' β') {n ver e o : Nat} {v : Value} (hp : PR h β n ver e o v) : PR h' β' n ver e o v := by
  unfold PR at hp ⊢
  cases hn : h[n]? with
  | none => simp [hn] at hp
  | some b =>
    obtain ⟨b', hb', ev⟩ := E.blk n b hn
    rw [hn] at hp
    rw [hb']
    cases b with
    | res => exact hp.elim
    | gone => simp only [BEv] at ev; subst ev; exact hp
    | var cs =>
      rcases ev with rfl | ⟨⟨cs', rfl⟩ | ⟨cs', rfl⟩, ht⟩ | ⟨v1, ro, xs, rfl, hv1, ht⟩
      · obtain ⟨b, _, _, _, hv⟩ := hp; exact ⟨_, _, hv⟩
      · simpa [ht] using hp
      · simpa [ht] using hp
      · obtain ⟨b, _, rfl, _, hv⟩ := hp; exact ⟨by omega, ⟨_, _, hv⟩, fun e => by omega⟩
    | vard cs =>
      rcases ev with rfl | ⟨⟨cs', rfl⟩ | ⟨cs', rfl⟩, ht⟩ | ⟨v1, ro, xs, rfl, hv1, ht⟩
      · obtain ⟨b, _, _, _, hv⟩ := hp; exact ⟨_, _, hv⟩
      · simpa [ht] using hp
      · simpa [ht] using hp
      · obtain ⟨b, _, rfl, _, hv⟩ := hp; exact ⟨by omega, ⟨_, _, hv⟩, fun e => by omega⟩
    | row ver1 sz ro xs =>
      obtain ⟨h1, h0, h2⟩ := hp
      rcases ev with rfl | ⟨ver', ro', xs', rfl, hv, ht⟩
      · exact h0
      · refine ⟨by omega, h0, fun e => ?_⟩
        rw [ht (by omega)]
        exact h2 (by omega)
    | map => exact hp.elim
    | mapo => exact hp.elim
    | mapn => exact hp.elim
    | miter =>
      rcases ev with rfl | ⟨⟨_, _, rfl⟩, ht⟩
      · obtain ⟨b, _, _, _, hv⟩ := hp; exact ⟨_, _, hv⟩
      · simpa [ht] using hp
    | loop => exact hp.elim
theorem SR.evol0 {w w' : World} {S S' : Stb} {h h' : Hp} {β β' : Bet} (E : Evol0 w S h β w' S' h' β') {n ver lo len : Nat} {full : Bool} {v : Value} (hp : SR w h β n ver lo len full v) : SR w' h' β' n ver lo len full v := by
  obtain ⟨a, cap, rfl, hc, hf, hp⟩ := hp
  refine ⟨a, cap, rfl, hc, hf, ?_⟩
  cases hn : h[n]? with
  | none => simp [hn] at hp
  | some b =>
    obtain ⟨b', hb', ev⟩ := E.blk n b hn
    rw [hn] at hp
    rw [hb']
    cases b with
    | res => exact hp.elim
    | gone => simp only [BEv] at ev; subst ev; trivial
    | var cs =>
      obtain ⟨h1, b, cells, elem, fz, g1, g2, g3, g4⟩ := hp
      obtain ⟨c', k1, k2⟩ := E.shape b cells elem fz g3
      rcases ev with rfl | ⟨⟨cs', rfl⟩ | ⟨cs', rfl⟩, ht⟩ | ⟨v1, ro, xs, rfl, hv1, ht⟩
      · trivial
      · exact ⟨h1, b, c', elem, fz, by rw [ht]; exact g1, g2, k1, by omega⟩
      · exact ⟨h1, b, c', elem, fz, by rw [ht]; exact g1, g2, k1, by omega⟩
      · exact ⟨by omega, fun e => .inr ⟨b, 0, c', elem, fz, by rw [ht (by omega)]; exact g1, fun h => by rw [g2 h]; simp, k1, by omega⟩⟩
    | vard cs =>
      obtain ⟨h1, b, cells, elem, fz, g1, g2, g3, g4⟩ := hp
      obtain ⟨c', k1, k2⟩ := E.shape b cells elem fz g3
      rcases ev with rfl | ⟨⟨cs', rfl⟩ | ⟨cs', rfl⟩, ht⟩ | ⟨v1, ro, xs, rfl, hv1, ht⟩
      · trivial
      · exact ⟨h1, b, c', elem, fz, by rw [ht]; exact g1, g2, k1, by omega⟩
      · exact ⟨h1, b, c', elem, fz, by rw [ht]; exact g1, g2, k1, by omega⟩
      · exact ⟨by omega, fun e => .inr ⟨b, 0, c', elem, fz, by rw [ht (by omega)]; exact g1, fun h => by rw [g2 h]; simp, k1, by omega⟩⟩
    | row ver1 sz ro xs =>
      rcases ev with rfl | ⟨ver', ro', xs', rfl, hv, ht⟩
      · trivial
      · obtain ⟨h1, h2⟩ := hp
        refine ⟨by omega, fun e => ?_⟩
        rw [ht (by omega)]
        rcases h2 (by omega) with hr | ⟨b, base, cells, elem, fz, g1, g2, g3, g4⟩
        · exact .inl hr
        · obtain ⟨c', k1, k2⟩ := E.shape b cells elem fz g3
          exact .inr ⟨b, base, c', elem, fz, g1, g2, k1, by omega⟩
    | map => exact hp.elim
    | mapo => exact hp.elim
    | mapn => exact hp.elim
    | miter => exact hp.elim
    | loop => exact hp.elim
theorem PR.ptr {h : Hp} {β : Bet} {n ver e o : Nat} {v : Value} (hp : PR h β n ver e o v) : ∃ b q, v = .pointer (some ⟨b, q, none⟩) := by
  unfold PR at hp
  split at hp
  · exact hp
  · obtain ⟨b, _, _, _, hv⟩ := hp; exact ⟨_, _, hv⟩
  · obtain ⟨b, _, _, _, hv⟩ := hp; exact ⟨_, _, hv⟩
  · obtain ⟨b, _, _, _, hv⟩ := hp; exact ⟨_, _, hv⟩
  · exact hp.2.1
  · exact hp.elim
theorem PR.add {h : Hp} {β : Bet} {n ver e o b q : Nat} (hp : PR h β n ver e o (.pointer (some ⟨b, q, none⟩))) (k : Nat) : PR h β n ver e (o + k) (.pointer (some ⟨b, q + k, none⟩)) := by
  unfold PR at hp ⊢
  split at hp
  · exact ⟨_, _, rfl⟩
  · obtain ⟨b', h1, h2, h3, h4⟩ := hp
    simp at h4; obtain ⟨rfl, rfl⟩ := h4
    exact ⟨_, h1, h2, h3, rfl⟩
  · obtain ⟨b', h1, h2, h3, h4⟩ := hp
    simp at h4; obtain ⟨rfl, rfl⟩ := h4
    exact ⟨_, h1, h2, h3, rfl⟩
  · obtain ⟨b', h1, h2, h3, h4⟩ := hp
    simp at h4; obtain ⟨rfl, rfl⟩ := h4
    exact ⟨_, h1, h2, h3, rfl⟩
  · obtain ⟨h1, _, h2⟩ := hp
    refine ⟨h1, ⟨_, _, rfl⟩, fun e => ?_⟩
    obtain ⟨b', base, g1, g2⟩ := h2 e
    simp at g2; obtain ⟨rfl, rfl⟩ := g2
    exact ⟨_, _, g1, by rw [Nat.add_assoc]⟩
  · exact hp.elim
theorem VR.evol0 {w w' : World} {S S' : Stb} {h h' : Hp} {β β' : Bet} (E : Evol0 w S h β w' S' h' β') {x : V} {v : Value} (hr : VR w S h β x v) : VR w' S' h' β' x v := by
  induction hr with
  | u v => exact .u v
  | d hx => exact .d (hx.evol E.sub E.cell)
  | agg cs arr h1 h2 _ ih => exact .agg cs arr h1 h2 ih
  | tup cs arr h1 _ ih => exact .tup cs arr h1 ih
  | ptr h1 h2 => exact .ptr h1 (h2.evol0 E)
  | rp cs o b off uf h1 h2 =>
    refine .rp cs o b off uf (fun j c hj => ?_) (fun j c hj => (h2 j c hj).evol E.sub E.cell)
    obtain ⟨f1, f2, f3⟩ := h1 j c hj
    exact ⟨f1, by rw [E.cell _ _ f3]; exact f2, E.sub _ _ f3⟩
  | sref h1 h2 => exact .sref h1 (h2.evol0 E)
  | fn f cap arr h1 _ ih => exact .fn f cap arr h1 ih
  | @yld n b h1 h2 =>
    cases hn : h[n]? with
    | none => simp [hn, isLoop] at h1
    | some x =>
      obtain ⟨b', hb', ev⟩ := E.blk n x hn
      cases x <;> simp [hn, isLoop] at h1
      · simp only [BEv] at ev; subst ev
        exact .yld (by simp [hb', isLoop]) (fun e => absurd hb' e)
      · rcases ev with rfl | ⟨⟨_, _, _, _, _, _, _, rfl⟩, ht⟩
        · exact .yld (by simp [hb', isLoop]) (fun e => absurd hb' e)
        · exact .yld (by simp [hb', isLoop]) (fun _ => by rw [ht]; exact h2 (by simp [hn]))
  | @map n b h1 h2 =>
    cases hn : h[n]? with
    | none => simp [hn, isMap] at h1
    | some x =>
      obtain ⟨b', hb', ev⟩ := E.blk n x hn
      have fin : (b' = .gone ∨ ((∃ T kt, b' = .mapn T kt) ∨ ∃ T kt, MapLike T kt b') ∧ β'[n]? = β[n]?) → x ≠ .gone → VR w' S' h' β' (.map n) (.map (some b)) := fun e hx => by
        rcases e with rfl | ⟨⟨_, _, rfl⟩ | ⟨_, _, ⟨_, rfl⟩ | ⟨_, _, _, rfl⟩⟩, ht⟩
        · exact .map (by simp [hb', isMap]) (fun e => absurd hb' e)
        all_goals exact .map (by simp [hb', isMap]) (fun _ => by rw [ht]; exact h2 (by simp [hn, hx]))
      cases x <;> simp [hn, isMap] at h1
      · simp only [BEv] at ev; subst ev
        exact .map (by simp [hb', isMap]) (fun e => absurd hb' e)
      · exact fin (ev.imp id fun h => ⟨.inr ⟨_, _, h.1⟩, h.2⟩) (by simp)
      · exact fin (ev.imp id fun h => ⟨h.1.imp (fun h => ⟨_, _, h⟩) (fun h => ⟨_, _, h⟩), h.2⟩) (by simp)
      · exact fin (ev.imp id fun h => ⟨.inr ⟨_, _, h.1⟩, h.2⟩) (by simp)
theorem Evol.to0 {w w' : World} {S S' : Stb} {h h' : Hp} {β β' : Bet} (E : Evol w S h β w' S' h' β') : Evol0 w S h β w' S' h' β' := ⟨E.shape, E.sub, E.cell, E.blk⟩
theorem PR.evol {w w' : World} {S S' : Stb} {h h' : Hp} {β β' : Bet} (E : Evol w S h β w' S' h' β') {n ver e o : Nat} {v : Value} (hp : PR h β n ver e o v) : PR h' β' n ver e o v := hp.evol0 E.to0
theorem SR.evol {w w' : World} {S S' : Stb} {h h' : Hp} {β β' : Bet} (E : Evol w S h β w' S' h' β') {n ver lo len : Nat} {full : Bool} {v : Value} (hp : SR w h β n ver lo len full v) : SR w' h' β' n ver lo len full v := hp.evol0 E.to0
theorem VR.evol {w w' : World} {S S' : Stb} {h h' : Hp} {β β' : Bet} (E : Evol w S h β w' S' h' β') {x : V} {v : Value} (hr : VR w S h β x v) : VR w' S' h' β' x v := hr.evol0 E.to0
def TR (w : World) (S : Stb) (h : Hp) (β : Bet) (ts : Tm) (tmps : Array Value) : Prop := ∀ t, VR w S h β (look ts t) (tmps.getD t undef)
def tl (h : Hp) (β : Bet) (r : Nat) : Option (Option (Nat × Nat)) := β[h.length + r]?
def OwnR (w : World) (S : Stb) (h : Hp) (β : Bet) (sz : Nat) (xs : List D) (r : Nat) (v : Value) : Prop :=
  ∃ b base cells elem cap, tl h β r = some (some (b, base)) ∧ w.heap[b]? = some (.cells cells elem (0, 0)) ∧ v = .slice (some ⟨b, base, none⟩) xs.length cap ∧ xs.length ≤ cap ∧ base + cap * sz ≤ cells.size ∧
    (∀ (i : Nat) (x : D), xs[i]? = some x → x.cells.length = sz ∧ ∀ (j : Nat) (c : D), x.cells[j]? = some c → c.flat = true ∧ ∃ u, cells[base + i * sz + j]? = some u ∧ DR w S c u) ∧ ∀ o, ¬ S b o
def OwnE (w : World) (S : Stb) (h : Hp) (β : Bet) (T : TT) (kt : TypeId) (sz : Nat) (es : List (D × Option (List D))) (lent : Option (D × V × Option Nat)) (mes : Array MapEntry) (q : Nat → Nat) : Prop :=
  ∀ (j : Nat) (p : D × Option (List D)) (m : MapEntry), es[j]? = some p → mes[j]? = some m → keyOk T kt p.1 = true ∧ DR w S p.1 m.key ∧ match p.2 with
    | some xs => OwnR w S h β sz xs (q j) m.val
    | none => ∃ v, lent = some (p.1, v, some j) ∧ VR w S h β v m.val
def Born (mes : Array MapEntry) (clock : Nat) : Prop := (mes.toList.map (·.born)).Nodup ∧ ∀ m ∈ mes.toList, m.born < clock
theorem Born.nil : Born #[] 0 := ⟨by simp, by simp⟩
theorem Born.push {mes : Array MapEntry} {clock : Nat} (h : Born mes clock) (k v : Value) : Born (mes.push { key := k, val := v, born := clock }) (clock + 1) := by
  refine ⟨?_, fun m hm => ?_⟩
  · simp only [Array.toList_push, List.map_append, List.map_cons, List.map_nil]
    rw [List.nodup_append]
    refine ⟨h.1, by simp, fun a ha b hb => ?_⟩
    obtain ⟨m, hm, rfl⟩ := List.mem_map.1 ha
    have := h.2 m hm
    simp at hb
    omega
  · simp only [Array.toList_push, List.mem_append, List.mem_cons, List.not_mem_nil, or_false] at hm
    rcases hm with hm | rfl
    · have := h.2 m hm; omega
    · exact Nat.lt_succ_self _
theorem Born.of_map {mes mes' : Array MapEntry} {clock : Nat} (h : Born mes clock) (e : mes'.toList.map (·.born) = mes.toList.map (·.born)) : Born mes' clock := by
  refine ⟨by rw [e]; exact h.1, fun m hm => ?_⟩
  have : m.born ∈ mes'.toList.map (·.born) := List.mem_map.2 ⟨m, hm, rfl⟩
  rw [e] at this
  obtain ⟨m', h1, h2⟩ := List.mem_map.1 this
  rw [← h2]; exact h.2 m' h1
theorem Born.modify {mes : Array MapEntry} {clock : Nat} (h : Born mes clock) (j : Nat) (f : MapEntry → MapEntry) (hf : ∀ m, (f m).born = m.born) : Born (mes.modify j f) clock := by
  refine h.of_map (List.ext_getElem? fun i => ?_)
  rw [List.getElem?_map, List.getElem?_map, Array.getElem?_toList, Array.getElem?_toList, Array.getElem?_modify]
  split
  · cases mes[i]? <;> simp [hf]
  · rfl
theorem Born.erase {mes : Array MapEntry} {clock : Nat} (h : Born mes clock) (j : Nat) : Born (mes.eraseIdxIfInBounds j) clock := by
  have hs : (mes.eraseIdxIfInBounds j).toList.Sublist mes.toList := by rw [Array.toList_eraseIdxIfInBounds]; exact List.eraseIdx_sublist _ _
  exact ⟨h.1.sublist (hs.map _), fun m hm => h.2 m (hs.subset hm)⟩
theorem Born.idx {mes : Array MapEntry} (h : ∀ (j : Nat) (m : MapEntry), mes[j]? = some m → m.born = j) : Born mes mes.size := by
  have e : mes.toList.map (·.born) = List.range mes.size := by
    refine List.ext_getElem? fun i => ?_
    rw [List.getElem?_map, Array.getElem?_toList]
    by_cases hi : i < mes.size
    · rw [Array.getElem?_eq_getElem hi, List.getElem?_range hi]
      simp [h i _ (Array.getElem?_eq_getElem hi)]
    · rw [Array.getElem?_eq_none (by omega), List.getElem?_eq_none (by simp; omega)]; rfl
  refine ⟨by rw [e]; exact List.nodup_range, fun m hm => ?_⟩
  have : m.born ∈ mes.toList.map (·.born) := List.mem_map.2 ⟨m, hm, rfl⟩
  rw [e] at this
  exact List.mem_range.1 this
def LeftR (w : World) (S : Stb) (T : TT) (kt : TypeId) (left : List (D × D)) (L : List MapEntry) : Prop :=
  left.length = L.length ∧ ∀ (i : Nat) (p : D × D) (m : MapEntry), left[i]? = some p → L[i]? = some m → keyOk T kt p.1 = true ∧ DR w S p.1 m.key ∧ DR w S p.2 m.val
def unseen (mes : Array MapEntry) (seen : Array Nat) : Array MapEntry := mes.filter fun e => !seen.contains e.born
def BR (w : World) (S : Stb) (h : Hp) (β : Bet) (n : Nat) : Blk → Prop
  | .res => β[n]? = some none
  | .gone => β[n]? = some none
  | .var cs => ∃ b cells elem, β[n]? = some (some (b, 0)) ∧ w.heap[b]? = some (.cells cells elem (0, 0)) ∧ cells.size = cs.length ∧
      (∀ (j : Nat) (c : V) (u : Value), cs[j]? = some c → cells[j]? = some u → c.flat = true ∧ VR w S h β c u) ∧ ∀ o, ¬ S b o
  | .vard cs => ∃ b cells elem, β[n]? = some (some (b, 0)) ∧ w.heap[b]? = some (.cells cells elem (0, 0)) ∧ cells.size = cs.length ∧
      (∀ (j : Nat) (c : D) (u : Value), cs[j]? = some c → cells[j]? = some u → c.flat = true ∧ DR w S c u) ∧ ∀ o, ¬ S b o
  | .row _ sz ro xs => 0 < sz ∧ (∀ (i : Nat) (x : D), xs[i]? = some x → x.cells.length = sz ∧ ∀ (j : Nat) (c : D), x.cells[j]? = some c → c.flat = true) ∧
      ((xs = [] ∧ β[n]? = some none) ∨ ∃ b base cells elem, β[n]? = some (some (b, base)) ∧ w.heap[b]? = some (.cells cells elem (0, 0)) ∧ base + xs.length * sz ≤ cells.size ∧
        (∀ (i : Nat) (x : D) (j : Nat) (c : D), xs[i]? = some x → x.cells[j]? = some c → ∃ u, cells[base + i * sz + j]? = some u ∧ DR w S c u) ∧
        ∀ o, S b o → ro = true ∧ o < base + xs.length * sz)
  | .map T kt es => ∃ b mes clock, β[n]? = some (some (b, 0)) ∧ w.heap[b]? = some (.map mes clock) ∧ mes.size = es.length ∧
      (∀ (j : Nat) (p : D × D) (m : MapEntry), es[j]? = some p → mes[j]? = some m → keyOk T kt p.1 = true ∧ DR w S p.1 m.key ∧ DR w S p.2 m.val) ∧ Born mes clock ∧ ∀ o, ¬ S b o
  | .mapn _ _ => ∃ b, β[n]? = some (some (b, 0)) ∧ w.heap[b]? = some (.map #[] 0) ∧ ∀ o, ¬ S b o
  | .mapo T kt sz es lent => 0 < sz ∧ ∃ b mes, β[n]? = some (some (b, 0)) ∧ w.heap[b]? = some (.map mes es.length) ∧ mes.size = es.length ∧ (∀ (j : Nat) (m : MapEntry), mes[j]? = some m → m.born = j) ∧
      (∃ q : Nat → Nat, OwnE w S h β T kt sz es lent mes q ∧ ∀ (i j : Nat), (∃ k xs, es[i]? = some (k, some xs)) → (∃ k xs, es[j]? = some (k, some xs)) → q i = q j → i = j) ∧
      (match lent with
        | none => True
        | some (k, v, there) => v.flat = true ∧ eqD T 4 kt k.cells k.cells = true ∧ match there with
          | some j => es[j]? = some (k, none) ∧ ∀ (i : Nat) (p : D × Option (List D)), i ≠ j → es[i]? = some p → eqD T 4 kt k.cells p.1.cells = false
          | none => v = .d (.sl 0 true []) ∧ ∀ p ∈ es, eqD T 4 kt k.cells p.1.cells = false) ∧ ∀ o, ¬ S b o
  | .miter T kt left cur => ∃ r mb q mes since seen last clock, β[n]? = some (some (r, 0)) ∧ w.heap[r]? = some (.mapIter (some mb) since seen last) ∧ tl h β q = some (some (mb, 0)) ∧ w.heap[mb]? = some (.map mes clock) ∧
      (since ≤ last ∧ since ≤ clock ∧ Born mes since) ∧ LeftR w S T kt left (unseen mes seen).toList ∧
      (match cur with
        | none => True
        | some p => ∃ (seen0 : Array Nat) (m : MapEntry), seen = seen0.push m.born ∧ last = clock ∧ m ∈ mes.toList ∧ DR w S p.1 m.key ∧ DR w S p.2 m.val) ∧ (∀ o, ¬ S r o) ∧ ∀ o, ¬ S mb o
  | .loop st pend N ts ps as body => ∃ b l, β[n]? = some (some (b, 0)) ∧ w.heap[b]? = some (.loop l) ∧ l.pending = pend ∧ l.params.toList = ps ∧ l.assign = as ∧ l.body = body ∧
      l.tmps.size = N ∧ TR w S h β ts l.tmps ∧ (∀ o, ¬ S b o) ∧
      l.state = (match st with | .ready => Go.LoopState.ready | .busy => .busy | .done => .done | .exhausted => .exhausted)
structure GlobOk (w : World) (S : Stb) : Prop where
  cells : ∀ p ∈ Glob.cells, ∀ (j : Nat) (c : D), p.2[j]? = some c → c.flat = true ∧ ∃ u, w.cell? ⟨p.1, j, none⟩ = some u ∧ DR w S c u ∧ S p.1 j
  size : ∀ p ∈ Glob.cells, ∃ cs e f, w.heap[p.1]? = some (.cells cs e f) ∧ cs.size = p.2.length
theorem GlobOk.evol0 {w w' : World} {S S' : Stb} {h h' : Hp} {β β' : Bet} (g : GlobOk w S) (E : Evol0 w S h β w' S' h' β') : GlobOk w' S' := ⟨fun p hp j c hj => by
  obtain ⟨h1, u, h2, h3, h4⟩ := g.cells p hp j c hj
  exact ⟨h1, u, by rw [E.cell _ _ h4]; exact h2, h3.evol E.sub E.cell, E.sub _ _ h4⟩, fun p hp => by
  obtain ⟨cs, e, f, h1, h2⟩ := g.size p hp
  obtain ⟨cs', h3, h4⟩ := E.shape _ _ _ _ h1
  exact ⟨cs', e, f, h3, h4.trans h2⟩⟩
theorem GlobOk.evol {w w' : World} {S S' : Stb} {h h' : Hp} {β β' : Bet} (g : GlobOk w S) (E : Evol w S h β w' S' h' β') : GlobOk w' S' := g.evol0 E.to0
structure HR (w : World) (S : Stb) (h : Hp) (β : Bet) : Prop where
  len : h.length ≤ β.length
  blk : ∀ (n : Nat) (b : Blk), h[n]? = some b → BR w S h β n b
  inj : ∀ (n m b p q : Nat), β[n]? = some (some (b, p)) → β[m]? = some (some (b, q)) → n = m
  old : ∀ b o, S b o → b < w.heap.size
  glob : GlobOk w S
  tlt : ∀ r b p, tl h β r = some (some (b, p)) → b < w.heap.size
  one : ∀ (n m : Nat) (b c : Blk), h[n]? = some b → h[m]? = some c → b.own = true → c.own = true → n = m
end Go.PM
/-
  PM, part 4: one block turns; the rest stays.
-/
set_option linter.unusedSectionVars false
namespace Go.PM
variable [Glob]
theorem one_eq (v : Value) : one v = v.oneCell' := by cases v <;> rfl
theorem HR.lt {w : World} {S : Stb} {h : Hp} {β : Bet} (hr : HR w S h β) {n b p : Nat} (hn : β[n]? = some (some (b, p))) : b < w.heap.size := by
  by_cases hlt : n < h.length
  case neg =>
    refine hr.tlt (n - h.length) b p ?_
    unfold tl
    rw [show h.length + (n - h.length) = n by omega]
    exact hn
  have hb := hr.blk n h[n] (List.getElem?_eq_getElem hlt)
  have key : ∀ {b' : Nat} {o : Obj}, w.heap[b']? = some o → b' < w.heap.size := fun h => (Array.getElem?_eq_some_iff.1 h).1
  cases hx : h[n] with
  | res => rw [hx] at hb; simp only [BR] at hb; rw [hn] at hb; simp at hb
  | gone => rw [hx] at hb; simp only [BR] at hb; rw [hn] at hb; simp at hb
  | var cs =>
    rw [hx] at hb; obtain ⟨b', c, e, h1, h2, _⟩ := hb
    rw [hn] at h1; simp at h1; obtain ⟨rfl, _⟩ := h1; exact key h2
  | vard cs =>
    rw [hx] at hb; obtain ⟨b', c, e, h1, h2, _⟩ := hb
    rw [hn] at h1; simp at h1; obtain ⟨rfl, _⟩ := h1; exact key h2
  | row ver sz ro xs =>
    rw [hx] at hb; obtain ⟨_, _, ⟨_, h1⟩ | ⟨b', base, c, e, h1, h2, _⟩⟩ := hb
    · rw [hn] at h1; simp at h1
    · rw [hn] at h1; simp at h1; obtain ⟨rfl, _⟩ := h1; exact key h2
  | map T kt es =>
    rw [hx] at hb; obtain ⟨b', c, e, h1, h2, _⟩ := hb
    rw [hn] at h1; simp at h1; obtain ⟨rfl, _⟩ := h1; exact key h2
  | mapn T kt =>
    rw [hx] at hb; obtain ⟨b', h1, h2, _⟩ := hb
    rw [hn] at h1; simp at h1; obtain ⟨rfl, _⟩ := h1; exact key h2
  | mapo T kt sz es l =>
    rw [hx] at hb; obtain ⟨_, b', c, h1, h2, _⟩ := hb
    rw [hn] at h1; simp at h1; obtain ⟨rfl, _⟩ := h1; exact key h2
  | miter T kt l c =>
    rw [hx] at hb; obtain ⟨b', mb, q, mes, since, seen, last, clock, h1, h2, _⟩ := hb
    rw [hn] at h1; simp at h1; obtain ⟨rfl, _⟩ := h1; exact key h2
  | loop =>
    rw [hx] at hb; obtain ⟨b', l, h1, h2, _⟩ := hb
    rw [hn] at h1; simp at h1; obtain ⟨rfl, _⟩ := h1; exact key h2
theorem BR.keep0 {w w' : World} {S S' : Stb} {h h' : Hp} {β β' : Bet} (E : Evol0 w S h β w' S' h' β') {m : Nat} {blk : Blk} (hβ : β'[m]? = β[m]?)
    (hT : blk.own = true → ∀ r b p, tl h β r = some (some (b, p)) → tl h' β' r = some (some (b, p)) ∧ w'.heap[b]? = w.heap[b]? ∧ ∀ o, S' b o → S b o)
    (hb : ∀ b p, β[m]? = some (some (b, p)) → w'.heap[b]? = w.heap[b]? ∧ ∀ o, S' b o → S b o) (hx : BR w S h β m blk) : BR w' S' h' β' m blk := by
  cases blk with
  | res => simp only [BR] at hx ⊢; rw [hβ]; exact hx
  | gone => simp only [BR] at hx ⊢; rw [hβ]; exact hx
  | var cs =>
    obtain ⟨b, c, e, h1, h2, h3, h4, h5⟩ := hx
    obtain ⟨k1, k2⟩ := hb b 0 h1
    exact ⟨b, c, e, by rw [hβ]; exact h1, by rw [k1]; exact h2, h3, fun j x u hj hu => ⟨(h4 j x u hj hu).1, (h4 j x u hj hu).2.evol0 E⟩, fun o ho => h5 o (k2 o ho)⟩
  | vard cs =>
    obtain ⟨b, c, e, h1, h2, h3, h4, h5⟩ := hx
    obtain ⟨k1, k2⟩ := hb b 0 h1
    exact ⟨b, c, e, by rw [hβ]; exact h1, by rw [k1]; exact h2, h3, fun j x u hj hu => ⟨(h4 j x u hj hu).1, (h4 j x u hj hu).2.evol E.sub E.cell⟩, fun o ho => h5 o (k2 o ho)⟩
  | row ver sz ro xs =>
    obtain ⟨h0, h1, h2⟩ := hx
    refine ⟨h0, h1, ?_⟩
    rcases h2 with ⟨h2, h3⟩ | ⟨b, base, c, e, h2, h3, h4, h5, h6⟩
    · exact .inl ⟨h2, by rw [hβ]; exact h3⟩
    · obtain ⟨k1, k2⟩ := hb b base h2
      refine .inr ⟨b, base, c, e, by rw [hβ]; exact h2, by rw [k1]; exact h3, h4, fun i x j y hi hj => ?_, fun o ho => h6 o (k2 o ho)⟩
      obtain ⟨u, hu, hd⟩ := h5 i x j y hi hj
      exact ⟨u, hu, hd.evol E.sub E.cell⟩
  | map T kt es =>
    obtain ⟨b, c, e, h1, h2, h3, h4, h5⟩ := hx
    obtain ⟨k1, k2⟩ := hb b 0 h1
    refine ⟨b, c, e, by rw [hβ]; exact h1, by rw [k1]; exact h2, h3, fun j p m hj hu => ?_, h5.1, fun o ho => h5.2 o (k2 o ho)⟩
    obtain ⟨a1, a2, a3⟩ := h4 j p m hj hu
    exact ⟨a1, a2.evol E.sub E.cell, a3.evol E.sub E.cell⟩
  | mapn T kt =>
    obtain ⟨b, h1, h2, h3⟩ := hx
    obtain ⟨k1, k2⟩ := hb b 0 h1
    exact ⟨b, by rw [hβ]; exact h1, by rw [k1]; exact h2, fun o ho => h3 o (k2 o ho)⟩
  | mapo T kt sz es l =>
    obtain ⟨h0, b, c, h1, h2, h3, hborn, ⟨q, h4, hq⟩, h5, h6⟩ := hx
    obtain ⟨k1, k2⟩ := hb b 0 h1
    refine ⟨h0, b, c, by rw [hβ]; exact h1, by rw [k1]; exact h2, h3, hborn, ⟨q, fun j p m hj hu => ?_, hq⟩, h5, fun o ho => h6 o (k2 o ho)⟩
    obtain ⟨a1, a2, a3⟩ := h4 j p m hj hu
    refine ⟨a1, a2.evol E.sub E.cell, ?_⟩
    obtain ⟨key, x⟩ := p
    cases x with
    | none =>
      obtain ⟨v, v1, v2⟩ := a3
      exact ⟨v, v1, v2.evol0 E⟩
    | some xs =>
      obtain ⟨b2, base, cells, elem, cap, g1, g2, g3, g4, g5, g6, g7⟩ := a3
      obtain ⟨t1, t2, t3⟩ := hT rfl _ _ _ g1
      refine ⟨b2, base, cells, elem, cap, t1, by rw [t2]; exact g2, g3, g4, g5, fun i x hi => ?_, fun o ho => g7 o (t3 o ho)⟩
      obtain ⟨f1, f2⟩ := g6 i x hi
      refine ⟨f1, fun j c hj => ?_⟩
      obtain ⟨f3, u, f4, f5⟩ := f2 j c hj
      exact ⟨f3, u, f4, f5.evol E.sub E.cell⟩
  | miter T kt l c =>
    obtain ⟨r, mb, q, mes, since, seen, last, clock, h1, h2, h3, h4, h5, ⟨h6, h7⟩, h8, h9, h10⟩ := hx
    obtain ⟨k1, k2⟩ := hb r 0 h1
    obtain ⟨t1, t2, t3⟩ := hT rfl _ _ _ h3
    refine ⟨r, mb, q, mes, since, seen, last, clock, by rw [hβ]; exact h1, by rw [k1]; exact h2, t1, by rw [t2]; exact h4, h5, ⟨h6, fun i p m hi hm => ?_⟩, ?_, fun o ho => h9 o (k2 o ho), fun o ho => h10 o (t3 o ho)⟩
    · obtain ⟨a1, a2, a3⟩ := h7 i p m hi hm
      exact ⟨a1, a2.evol E.sub E.cell, a3.evol E.sub E.cell⟩
    · cases c with
      | none => trivial
      | some p =>
        obtain ⟨s0, m, e1, e2, e3, e4, e5⟩ := h8
        exact ⟨s0, m, e1, e2, e3, e4.evol E.sub E.cell, e5.evol E.sub E.cell⟩
  | loop st pend N ts ps as body =>
    obtain ⟨b, l, h1, h2, h3, h4, h5, h6, h7, h8, h9, h10⟩ := hx
    obtain ⟨k1, k2⟩ := hb b 0 h1
    exact ⟨b, l, by rw [hβ]; exact h1, by rw [k1]; exact h2, h3, h4, h5, h6, h7, fun t => (h8 t).evol0 E, fun o ho => h9 o (k2 o ho), h10⟩
theorem BR.keep {w w' : World} {S S' : Stb} {h h' : Hp} {β β' : Bet} (E : Evol w S h β w' S' h' β') {m : Nat} {blk : Blk} (hβ : β'[m]? = β[m]?)
    (hT : blk.own = true → ∀ r b p, tl h β r = some (some (b, p)) → tl h' β' r = some (some (b, p)) ∧ w'.heap[b]? = w.heap[b]? ∧ ∀ o, S' b o → S b o)
    (hb : ∀ b p, β[m]? = some (some (b, p)) → w'.heap[b]? = w.heap[b]? ∧ ∀ o, S' b o → S b o) (hx : BR w S h β m blk) : BR w' S' h' β' m blk := BR.keep0 E.to0 hβ hT hb hx
theorem tl_set {h : Hp} {β : Bet} {n : Nat} (hn : n < h.length) (b : Blk) (t : Option (Nat × Nat)) (r : Nat) : tl (h.set n b) (β.set n t) r = tl h β r := by
  unfold tl
  rw [List.length_set, List.getElem?_set_ne (by omega)]
theorem tl_seth {h : Hp} {β : Bet} {n : Nat} (b : Blk) (r : Nat) : tl (h.set n b) β r = tl h β r := by
  unfold tl
  rw [List.length_set]
theorem tl_img {h : Hp} {β : Bet} {r b p : Nat} (ht : tl h β r = some (some (b, p))) : img β b := ⟨_, p, ht⟩
theorem HR.tne {w : World} {S : Stb} {h : Hp} {β : Bet} (hr : HR w S h β) {n b p r c q : Nat} (hn : n < h.length) (h1 : β[n]? = some (some (b, p))) (h2 : tl h β r = some (some (c, q))) : c ≠ b := by
  rintro rfl
  have := hr.inj _ _ _ _ _ h1 h2
  omega
theorem one_set {h : Hp} {n : Nat} {blk blk' : Blk} (ho : ∀ (n m : Nat) (b c : Blk), h[n]? = some b → h[m]? = some c → b.own = true → c.own = true → n = m) (hn : h[n]? = some blk) (hb : blk'.own = true → blk.own = true) :
    ∀ (k m : Nat) (b c : Blk), (h.set n blk')[k]? = some b → (h.set n blk')[m]? = some c → b.own = true → c.own = true → k = m := by
  have key : ∀ {m : Nat} {c : Blk}, (h.set n blk')[m]? = some c → c.own = true → ∃ c' : Blk, h[m]? = some c' ∧ c'.own = true := fun {m c} hm hc => by
    by_cases hmn : n = m
    · subst hmn
      have hl := (List.getElem?_eq_some_iff.1 hn).1
      rw [List.getElem?_set_self hl] at hm
      cases hm
      exact ⟨blk, hn, hb hc⟩
    · rw [List.getElem?_set_ne hmn] at hm
      exact ⟨c, hm, hc⟩
  intro k m b c h1 h2 h3 h4
  obtain ⟨b', e1, e2⟩ := key h1 h3
  obtain ⟨c', e3, e4⟩ := key h2 h4
  exact ho _ _ _ _ e1 e3 e2 e4
theorem updG {w w' : World} {S : Stb} {h : Hp} {β : Bet} (hr : HR w S h β) {n : Nat} {blk blk' : Blk} (hn : h[n]? = some blk) (t' : Option (Nat × Nat))
    (size : w.heap.size ≤ w'.heap.size)
    (others : ∀ i, i < w.heap.size → (∀ p, β[n]? ≠ some (some (i, p))) → w'.heap[i]? = w.heap[i]?)
    (own : ∀ i p c e f, β[n]? = some (some (i, p)) → w.heap[i]? = some (.cells c e f) → ∃ c', w'.heap[i]? = some (.cells c' e f) ∧ c'.size = c.size)
    (ownl : ∀ i p l, β[n]? = some (some (i, p)) → w.heap[i]? = some (.loop l) → ∃ l', w'.heap[i]? = some (.loop l'))
    (froz : ∀ a, a.block < w.heap.size → w'.frozen? a = w.frozen? a)
    (cell : ∀ i p o, β[n]? = some (some (i, p)) → S i o → w'.cell? ⟨i, o, none⟩ = w.cell? ⟨i, o, none⟩)
    (ht : ∀ b p, t' = some (b, p) → (∃ q, β[n]? = some (some (b, q))) ∨ w.heap.size ≤ b)
    (hev : BEv blk β[n]? blk' (some t'))
    (hbr : Evol w S h β w' S (h.set n blk') (β.set n t') → BR w' S (h.set n blk') (β.set n t') n blk') (hout : Out w w' := by exact ⟨⟨rfl, rfl⟩, rfl, by first | exact Nat.le_refl _ | exact Nat.le_succ _⟩) (hone : ∀ (k m : Nat) (b c : Blk), (h.set n blk')[k]? = some b → (h.set n blk')[m]? = some c → b.own = true → c.own = true → k = m) :
    HR w' S (h.set n blk') (β.set n t') ∧ Evol w S h β w' S (h.set n blk') (β.set n t') := by
  have hnl : n < h.length := (List.getElem?_eq_some_iff.1 hn).1
  have hnb : n < β.length := Nat.lt_of_lt_of_le hnl hr.len
  have hset : (β.set n t')[n]? = some t' := by simp [hnb]
  have E : Evol w S h β w' S (h.set n blk') (β.set n t') := by
    constructor
    · exact hout
    · exact size
    · intro i hi hni
      exact others i hi fun p hp => hni ⟨n, p, hp⟩
    · intro i c e f hi
      by_cases hc : ∃ p, β[n]? = some (some (i, p))
      · obtain ⟨p, hp⟩ := hc
        exact own i p c e f hp hi
      · rw [others i (Array.getElem?_eq_some_iff.1 hi).1 fun p hp => hc ⟨p, hp⟩]
        exact ⟨c, hi, rfl⟩
    · intro i l hi
      by_cases hc : ∃ p, β[n]? = some (some (i, p))
      · obtain ⟨p, hp⟩ := hc
        exact ownl i p l hp hi
      · rw [others i (Array.getElem?_eq_some_iff.1 hi).1 fun p hp => hc ⟨p, hp⟩]
        exact ⟨l, hi⟩
    · exact froz
    · exact fun _ _ h => h
    · exact fun _ _ h => .inl h
    · intro b o hs
      by_cases hc : ∃ p, β[n]? = some (some (b, p))
      · obtain ⟨p, hp⟩ := hc
        exact cell b p o hp hs
      · exact World.cell?_of_block (a := ⟨b, o, none⟩) (others b (hr.old b o hs) fun p hp => hc ⟨p, hp⟩)
    · rintro b ⟨m, p, hm⟩
      by_cases hmn : m = n
      · subst hmn
        rw [hset] at hm
        rcases ht b p (by simpa using hm) with ⟨q, hq⟩ | hb
        · exact .inl ⟨m, q, hq⟩
        · exact .inr hb
      · rw [List.getElem?_set_ne (Ne.symm hmn)] at hm
        exact .inl ⟨m, p, hm⟩
    · simp
    · intro m b hm
      by_cases hmn : m = n
      · subst hmn
        rw [hn] at hm; cases hm
        exact ⟨blk', by simp [hnl], by rw [hset]; exact hev⟩
      · exact ⟨b, by rw [List.getElem?_set_ne (Ne.symm hmn)]; exact hm, by rw [List.getElem?_set_ne (Ne.symm hmn)]; exact BEv.refl _ _⟩
  have htl : ∀ r b p, tl h β r = some (some (b, p)) → w'.heap[b]? = w.heap[b]? := fun r b p hb => by
    refine others b (hr.lt hb) fun q hq => ?_
    exact hr.tne hnl hq hb rfl
  refine ⟨⟨by simpa using hr.len, fun m b hm => ?_, ?_, fun b o hs => Nat.lt_of_lt_of_le (hr.old b o hs) size, hr.glob.evol E, fun r b p hb => by
      rw [tl_set hnl] at hb
      exact Nat.lt_of_lt_of_le (hr.tlt r b p hb) size, hone⟩, E⟩
  · by_cases hmn : m = n
    · subst hmn
      have : b = blk' := by simpa [hnl] using hm.symm
      subst this
      exact hbr E
    · rw [List.getElem?_set_ne (Ne.symm hmn)] at hm
      refine BR.keep E (by rw [List.getElem?_set_ne (Ne.symm hmn)]) (fun _ r b p hb => ⟨by rw [tl_set hnl]; exact hb, htl r b p hb, fun _ h => h⟩) (fun b' p hb' => ⟨?_, fun _ h => h⟩) (hr.blk m b hm)
      exact others b' (hr.lt hb') fun q hq => hmn (hr.inj m n b' p q hb' hq)
  · intro m1 m2 b p q h1 h2
    have hcase : ∀ m p, (β.set n t')[m]? = some (some (b, p)) → (m ≠ n ∧ β[m]? = some (some (b, p))) ∨ (m = n ∧ t' = some (b, p)) := by
      intro m p hm
      by_cases hmn : m = n
      · subst hmn; rw [hset] at hm; exact .inr ⟨rfl, by simpa using hm⟩
      · rw [List.getElem?_set_ne (Ne.symm hmn)] at hm; exact .inl ⟨hmn, hm⟩
    rcases hcase m1 p h1 with ⟨a1, a2⟩ | ⟨a1, a2⟩ <;> rcases hcase m2 q h2 with ⟨b1, b2⟩ | ⟨b1, b2⟩
    · exact hr.inj _ _ _ _ _ a2 b2
    · rcases ht b q b2 with ⟨r, hr'⟩ | hge
      · exact absurd (hr.inj _ _ _ _ _ a2 hr') a1
      · exact absurd (hr.lt a2) (by omega)
    · rcases ht b p a2 with ⟨r, hr'⟩ | hge
      · exact absurd (hr.inj _ _ _ _ _ b2 hr') b1
      · exact absurd (hr.lt b2) (by omega)
    · omega
theorem updF {w w' : World} {S : Stb} {h : Hp} {β : Bet} (hr : HR w S h β) {n : Nat} {blk blk' : Blk} (hn : h[n]? = some blk) (t' : Option (Nat × Nat))
    (size : w.heap.size ≤ w'.heap.size)
    (others : ∀ i, i < w.heap.size → (∀ p, β[n]? ≠ some (some (i, p))) → w'.heap[i]? = w.heap[i]?)
    (own : ∀ i p c e f, β[n]? = some (some (i, p)) → w.heap[i]? = some (.cells c e f) → ∃ c', w'.heap[i]? = some (.cells c' e f) ∧ c'.size = c.size)
    (ownl : ∀ i p l, β[n]? = some (some (i, p)) → w.heap[i]? = some (.loop l) → ∃ l', w'.heap[i]? = some (.loop l'))
    (froz : ∀ a, a.block < w.heap.size → w'.frozen? a = w.frozen? a)
    (cell : ∀ i p o, β[n]? = some (some (i, p)) → S i o → w'.cell? ⟨i, o, none⟩ = w.cell? ⟨i, o, none⟩)
    (ht : ∀ b p, t' = some (b, p) → (∃ q, β[n]? = some (some (b, q))) ∨ w.heap.size ≤ b)
    (hev : BEv blk β[n]? blk' (some t'))
    (hbr : Evol w S h β w' S (h.set n blk') (β.set n t') → BR w' S (h.set n blk') (β.set n t') n blk') (hout : Out w w' := by exact ⟨⟨rfl, rfl⟩, rfl, by first | exact Nat.le_refl _ | exact Nat.le_succ _⟩) (hone : blk'.own = true → blk.own = true := by first | exact fun h => nomatch h | exact fun h => h | exact fun _ => rfl) :
    HR w' S (h.set n blk') (β.set n t') ∧ Evol w S h β w' S (h.set n blk') (β.set n t') :=
  updG hr hn t' size others own ownl froz cell ht hev hbr hout (one_set hr.one hn hone)
theorem upd {w w' : World} {S : Stb} {h : Hp} {β : Bet} (hr : HR w S h β) {n : Nat} {blk blk' : Blk} (hn : h[n]? = some blk) (t' : Option (Nat × Nat))
    (size : w.heap.size ≤ w'.heap.size)
    (others : ∀ i, i < w.heap.size → (∀ p, β[n]? ≠ some (some (i, p))) → w'.heap[i]? = w.heap[i]?)
    (own : ∀ i p c e f, β[n]? = some (some (i, p)) → w.heap[i]? = some (.cells c e f) → ∃ c', w'.heap[i]? = some (.cells c' e f) ∧ c'.size = c.size)
    (ownl : ∀ i p l, β[n]? = some (some (i, p)) → w.heap[i]? = some (.loop l) → ∃ l', w'.heap[i]? = some (.loop l'))
    (froz : ∀ a, w'.frozen? a = w.frozen? a)
    (cell : ∀ i p o, β[n]? = some (some (i, p)) → S i o → w'.cell? ⟨i, o, none⟩ = w.cell? ⟨i, o, none⟩)
    (ht : ∀ b p, t' = some (b, p) → (∃ q, β[n]? = some (some (b, q))) ∨ w.heap.size ≤ b)
    (hev : BEv blk β[n]? blk' (some t'))
    (hbr : Evol w S h β w' S (h.set n blk') (β.set n t') → BR w' S (h.set n blk') (β.set n t') n blk') (hout : Out w w' := by exact ⟨⟨rfl, rfl⟩, rfl, by first | exact Nat.le_refl _ | exact Nat.le_succ _⟩) (hone : blk'.own = true → blk.own = true := by first | exact fun h => nomatch h | exact fun h => h | exact fun _ => rfl) :
    HR w' S (h.set n blk') (β.set n t') ∧ Evol w S h β w' S (h.set n blk') (β.set n t') :=
  updF hr hn t' size others own ownl (fun a _ => froz a) cell ht hev hbr hout hone
theorem drawn {w : World} {S : Stb} {h : Hp} {β : Bet} (hr : HR w S h β) : HR w.drew S h β ∧ Evol w S h β w.drew S h β := by
  have E : Evol w S h β w.drew S h β :=
    ⟨⟨⟨rfl, rfl⟩, rfl, Nat.le_succ _⟩, Nat.le_refl _, fun _ _ _ => rfl, fun _ c _ _ hi => ⟨c, hi, rfl⟩, fun _ l hl => ⟨l, hl⟩, fun _ _ => rfl, fun _ _ h => h, fun _ _ h => .inl h, fun _ _ _ => rfl, fun _ h => .inl h, Nat.le_refl _, fun _ b hb => ⟨b, hb, BEv.refl _ _⟩⟩
  exact ⟨⟨hr.len, fun n b hn => BR.keep E rfl (fun _ _ _ _ h => ⟨h, rfl, fun _ h => h⟩) (fun _ _ _ => ⟨rfl, fun _ h => h⟩) (hr.blk n b hn), hr.inj, hr.old, hr.glob.evol E, hr.tlt, hr.one⟩, E⟩
theorem padded {w : World} {S : Stb} {h : Hp} {β : Bet} (hr : HR w S h β) (m : Nat) : ∃ β', HR w S (h ++ List.replicate m .res) β' ∧ Evol w S h β w S (h ++ List.replicate m .res) β' := by
  have hlen := hr.len
  obtain ⟨β', hβ'⟩ : ∃ β', β' = β.take h.length ++ (List.replicate m none ++ β.drop h.length) := ⟨_, rfl⟩
  have htk : (β.take h.length).length = h.length := by rw [List.length_take]; omega
  have hold : ∀ (k : Nat), k < h.length → β'[k]? = β[k]? := fun k hk => by
    rw [hβ', List.getElem?_append_left (by omega), List.getElem?_take_of_lt hk]
  have hmid : ∀ (k : Nat), h.length ≤ k → k < h.length + m → β'[k]? = some none := fun k h1 h2 => by
    rw [hβ', List.getElem?_append_right (by omega), List.getElem?_append_left (by rw [List.length_replicate]; omega), List.getElem?_replicate, if_pos (by omega)]
  have htail : ∀ (k : Nat), h.length + m ≤ k → β'[k]? = β[k - m]? := fun k h1 => by
    rw [hβ', List.getElem?_append_right (by omega), List.getElem?_append_right (by rw [List.length_replicate]; omega), List.getElem?_drop, List.length_replicate]
    congr 1; omega
  have hcase : ∀ (k b p : Nat), β'[k]? = some (some (b, p)) → (k < h.length ∧ β[k]? = some (some (b, p))) ∨ (h.length + m ≤ k ∧ β[k - m]? = some (some (b, p))) := fun k b p hk => by
    by_cases h1 : k < h.length
    · exact .inl ⟨h1, by rw [← hold k h1]; exact hk⟩
    · by_cases h2 : k < h.length + m
      · rw [hmid k (by omega) h2] at hk; cases hk
      · exact .inr ⟨by omega, by rw [← htail k (by omega)]; exact hk⟩
  have htl : ∀ r, tl (h ++ List.replicate m .res) β' r = tl h β r := fun r => by
    unfold tl
    rw [List.length_append, List.length_replicate, htail _ (by omega)]
    congr 1; omega
  refine ⟨β', ?_⟩
  have E : Evol w S h β w S (h ++ List.replicate m .res) β' := by
    refine ⟨Out.refl _, Nat.le_refl _, fun _ _ _ => rfl, fun _ c _ _ hi => ⟨c, hi, rfl⟩, fun _ l hl => ⟨l, hl⟩, fun _ _ => rfl, fun _ _ h => h, fun _ _ h => .inl h, fun _ _ _ => rfl, ?_, by simp, ?_⟩
    · rintro b ⟨k, p, hk⟩
      rcases hcase k b p hk with ⟨_, h1⟩ | ⟨_, h1⟩
      · exact .inl ⟨_, p, h1⟩
      · exact .inl ⟨_, p, h1⟩
    · intro k b hk
      have hkl : k < h.length := (List.getElem?_eq_some_iff.1 hk).1
      exact ⟨b, by rw [List.getElem?_append_left hkl]; exact hk, by rw [hold k hkl]; exact BEv.refl _ _⟩
  refine ⟨⟨by rw [hβ']; simp only [List.length_append, List.length_replicate, htk, List.length_drop]; omega, fun k b hk => ?_, ?_, hr.old, hr.glob.evol E, fun r b p hb => by rw [htl] at hb; exact hr.tlt r b p hb, ?_⟩, E⟩
  · by_cases hkl : k < h.length
    · rw [List.getElem?_append_left hkl] at hk
      exact BR.keep E (hold k hkl) (fun _ r b p hb => ⟨by rw [htl]; exact hb, rfl, fun _ h => h⟩) (fun _ _ _ => ⟨rfl, fun _ h => h⟩) (hr.blk k b hk)
    · rw [List.getElem?_append_right (by omega), List.getElem?_replicate] at hk
      split at hk <;> simp at hk
      subst hk
      simp only [BR]
      exact hmid k (by omega) (by omega)
  · intro k1 k2 b p q h1 h2
    rcases hcase _ _ _ h1 with ⟨a1, a2⟩ | ⟨a1, a2⟩ <;> rcases hcase _ _ _ h2 with ⟨b1, b2⟩ | ⟨b1, b2⟩
    all_goals (have := hr.inj _ _ _ _ _ a2 b2; omega)
  · have key : ∀ {m' : Nat} {c : Blk}, (h ++ List.replicate m Blk.res)[m']? = some c → c.own = true → h[m']? = some c := fun {m' c} hm hc => by
      by_cases hkl : m' < h.length
      · rw [List.getElem?_append_left hkl] at hm; exact hm
      · rw [List.getElem?_append_right (by omega), List.getElem?_replicate] at hm
        split at hm <;> simp at hm
        subst hm; cases hc
    exact fun n1 n2 b c h1 h2 h3 h4 => hr.one _ _ _ _ (key h1 h3) (key h2 h4) h3 h4
theorem frozen_alloc_cells (w : World) (c : Array Value) (t : TypeId) (a : Addr) : (w.alloc (.cells c t)).frozen? a = w.frozen? a := by
  by_cases h : a.block = w.heap.size
  · have e1 : (w.alloc (.cells c t)).heap[a.block]? = some (.cells c t) := by rw [h]; exact heap_alloc_new w _
    have e2 : w.heap[a.block]? = none := by rw [h]; simp
    simp [World.frozen?, e1, e2]
  · exact World.frozen?_alloc_old _ _ _ h
theorem frozen_alloc_obj (w : World) (o : Obj) (ho : ∀ c t f, o ≠ .cells c t f) (a : Addr) : (w.alloc o).frozen? a = w.frozen? a := by
  by_cases h : a.block = w.heap.size
  · have e1 : (w.alloc o).heap[a.block]? = some o := by rw [h]; exact heap_alloc_new w _
    have e2 : w.heap[a.block]? = none := by rw [h]; simp
    unfold World.frozen?
    rw [e1, e2]
    cases o <;> first | rfl | exact absurd rfl (ho _ _ _)
  · exact World.frozen?_alloc_old _ _ _ h
theorem old_at (w : World) (o : Obj) (i : Nat) (hi : i < w.heap.size) : (w.alloc o).heap[i]? = w.heap[i]? := heap_alloc_old w o i hi
theorem alloced {w : World} {S : Stb} {h : Hp} {β : Bet} (hr : HR w S h β) {n : Nat} (hn : h[n]? = some .res) (o : Obj) (blk' : Blk) (base : Nat)
    (hfz : ∀ a, (w.alloc o).frozen? a = w.frozen? a)
    (hbr : Evol w S h β (w.alloc o) S (h.set n blk') (β.set n (some (w.heap.size, base))) → (∀ o, ¬ S w.heap.size o) → (β.set n (some (w.heap.size, base)))[n]? = some (some (w.heap.size, base)) →
      (w.alloc o).heap[w.heap.size]? = some o → BR (w.alloc o) S (h.set n blk') (β.set n (some (w.heap.size, base))) n blk') (hone : blk'.own = false := by rfl) :
    HR (w.alloc o) S (h.set n blk') (β.set n (some (w.heap.size, base))) ∧ Evol w S h β (w.alloc o) S (h.set n blk') (β.set n (some (w.heap.size, base))) := by
  have hnone : β[n]? = some none := by have := hr.blk n _ hn; simpa [BR] using this
  have hnb : n < β.length := (List.getElem?_eq_some_iff.1 hnone).1
  refine upd hr hn (some (w.heap.size, base)) (by simp) (fun i hi _ => heap_alloc_old w o i hi) (fun i p c e f hp => by rw [hnone] at hp; simp at hp) (fun i p l hp => by rw [hnone] at hp; simp at hp) hfz
    (fun i p o hp => by rw [hnone] at hp; simp at hp) (fun b p hb => .inr (by cases hb; exact Nat.le_refl _)) (by simp [BEv]) (fun E => hbr E (fun o ho => absurd (hr.old _ _ ho) (by omega)) (by simp [hnb]) (heap_alloc_new w o)) (hone := fun h => absurd (hone.symm.trans h) (by decide))
theorem written {w : World} {S : Stb} {h : Hp} {β : Bet} (hr : HR w S h β) {n b base : Nat} {blk blk' : Blk} (hn : h[n]? = some blk) (hb : β[n]? = some (some (b, base))) {cells cells' : Array Value} {e : TypeId}
    (hw : w.heap[b]? = some (.cells cells e (0, 0))) (hsz : cells'.size = cells.size) (base' : Nat)
    (hS : ∀ o, S b o → cells'[o]? = cells[o]?) (hev : BEv blk (some (some (b, base))) blk' (some (some (b, base'))))
    (hbr : Evol w S h β (w.setRow b cells') S (h.set n blk') (β.set n (some (b, base'))) → (β.set n (some (b, base')))[n]? = some (some (b, base')) →
      (w.setRow b cells').heap[b]? = some (.cells cells' e (0, 0)) → BR (w.setRow b cells') S (h.set n blk') (β.set n (some (b, base'))) n blk') (hone : blk'.own = false := by rfl) :
    HR (w.setRow b cells') S (h.set n blk') (β.set n (some (b, base'))) ∧ Evol w S h β (w.setRow b cells') S (h.set n blk') (β.set n (some (b, base'))) := by
  have hnb : n < β.length := (List.getElem?_eq_some_iff.1 hb).1
  have hnew := setRow_heap w b cells cells' e (0, 0) hw
  refine upd hr hn (some (b, base')) (by simp) (fun i hi hne => setRow_other w b i _ (fun e => hne base (by rw [e]; exact hb))) (fun i p c e' f hp hi => ?_) (fun i p l hp hi => by rw [hb] at hp; simp at hp; obtain ⟨rfl, _⟩ := hp; rw [hw] at hi; simp at hi) (fun a => ?_) (fun i p o hp hs => ?_)
    (fun b' p hb' => .inl ⟨base, by cases hb'; exact hb⟩) (by rw [hb]; exact hev) (fun E => hbr E (by simp [hnb]) hnew) (hone := fun h => absurd (hone.symm.trans h) (by decide))
  · rw [hb] at hp; simp at hp; obtain ⟨rfl, _⟩ := hp
    rw [hw] at hi; simp at hi; obtain ⟨rfl, rfl, rfl⟩ := hi
    exact ⟨cells', hnew, hsz⟩
  · by_cases hab : a.block = b
    · unfold World.frozen?
      rw [hab, hnew, hw]
    · exact World.frozen?_of_block (setRow_other w b a.block _ hab)
  · rw [hb] at hp; simp at hp; obtain ⟨rfl, _⟩ := hp
    rw [cell_of_row _ b o cells' e (0, 0) hnew, cell_of_row _ b o cells e (0, 0) hw]
    exact hS o hs
theorem set_self {α : Type} {l : List α} {n : Nat} {x : α} (h : l[n]? = some x) : l.set n x = l := by
  apply List.ext_getElem?
  intro i
  by_cases hi : n = i
  · subst hi
    rw [List.getElem?_set_self (List.getElem?_eq_some_iff.1 h).1, h]
  · rw [List.getElem?_set_ne hi]
def setL : Hp → List Nat → List Blk → Hp
  | h, [], _ => h
  | h, n :: ns, bs => match bs with
    | [] => h
    | b :: bs => setL (h.set n b) ns bs
theorem setL_same : ∀ {ns : List Nat} {bs : List Blk} {h : Hp}, (∀ (i n : Nat) (b : Blk), ns[i]? = some n → bs[i]? = some b → h[n]? = some b) → setL h ns bs = h
  | [], bs, h, _ => by simp [setL]
  | n :: ns, [], h, _ => by simp [setL]
  | n :: ns, b :: bs, h, hh => by
    rw [setL, set_self (hh 0 n b rfl rfl)]
    exact setL_same fun i m c hi hc => hh (i + 1) m c hi hc
theorem setsK_iff : ∀ (ns : List Nat) (bs : List Blk) (h : Hp) (k : Hp → Prop), setsK h ns bs k → k (setL h ns bs)
  | [], bs, h, k, hk => by simpa [setsK, setL] using hk
  | n :: ns, [], h, k, hk => by simpa [setsK, setL] using hk
  | n :: ns, b :: bs, h, k, hk => by
    simp only [setsK] at hk
    have := (setK_iff.1 hk).2
    simpa [setL] using setsK_iff ns bs (h.set n b) k this
theorem getsK_iff : ∀ {ns : List Nat} {h : Hp} {k : List Blk → Prop}, getsK h ns k → ∃ bs, bs.length = ns.length ∧ (∀ (i n : Nat), ns[i]? = some n → h[n]? = bs[i]?) ∧ k bs
  | [], h, k, hk => ⟨[], rfl, fun i n hi => by simp at hi, hk⟩
  | n :: ns, h, k, hk => by
    simp only [getsK] at hk
    obtain ⟨b, hb, hk⟩ := nthK_iff.1 hk
    obtain ⟨bs, h1, h2, h3⟩ := getsK_iff hk
    refine ⟨b :: bs, by simp [h1], fun i m hi => ?_, h3⟩
    cases i with
    | zero => simp at hi; subst hi; simpa using hb
    | succ i => simpa using h2 i m (by simpa using hi)
end Go.PM
