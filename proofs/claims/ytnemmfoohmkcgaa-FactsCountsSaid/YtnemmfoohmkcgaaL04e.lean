/- The statements of layer 4: Counts. -/
import Derived.Test.YtnemmfoohmkcgaaL04d
namespace Go.PM
open Go.Proofs
set_option maxRecDepth 10000
set_option maxHeartbeats 4000000

def hitF (k : Key) (d t : Int) (f : Fact) : Prop := f.key = k ∧ f.from_ ≤ d ∧ d < f.to_ ∧ f.known ≤ t
instance (k : Key) (d t : Int) (f : Fact) : Decidable (hitF k d t f) := by unfold hitF; infer_instance
def badF (k : Key) (d t : Int) (i : Nat) (f : Fact) (j : Nat) (g : Fact) : Prop := hitF k d t g ∧ (before f g ∨ (i < j ∧ ¬ before g f))
instance (k : Key) (d t : Int) (i : Nat) (f : Fact) (j : Nat) (g : Fact) : Decidable (badF k d t i f j g) := by unfold badF; infer_instance
def lastF (l : List Fact) (k : Key) (d t : Int) (i : Nat) (f : Fact) : Prop := l[i]? = some f ∧ hitF k d t f ∧ ∀ (j : Nat) (g : Fact), l[j]? = some g → ¬ badF k d t i f j g
theorem snoc_get {l : List Fact} {f g : Fact} {j : Nat} (h : (l ++ [f])[j]? = some g) : (l[j]? = some g ∧ j < l.length) ∨ (j = l.length ∧ g = f) := by
  rcases Nat.lt_or_ge j l.length with hj | hj
  · rw [List.getElem?_append_left hj] at h; exact .inl ⟨h, hj⟩
  · rw [List.getElem?_append_right hj] at h
    have : j - l.length = 0 := by
      rcases Nat.eq_zero_or_pos (j - l.length) with h0 | h0
      · exact h0
      · rw [List.getElem?_eq_none (show [f].length ≤ j - l.length from h0)] at h; cases h
    rw [this] at h
    exact .inr ⟨by omega, by simpa using h.symm⟩
theorem last_spec (k : Key) (d t : Int) : ∀ n (l : List Fact), l.length = n → (atF l k d t = none ∧ ∀ f ∈ l, ¬ hitF k d t f) ∨ ∃ i f, lastF l k d t i f ∧ atF l k d t = some f
  | 0, l, h => by
    cases l with
    | nil => exact .inl ⟨rfl, by simp⟩
    | cons => cases h
  | n + 1, l, h => by
    obtain ⟨m, f, rfl⟩ : ∃ m f, l = m ++ [f] := by
      have hne : l ≠ [] := fun e => by rw [e] at h; cases h
      exact ⟨l.dropLast, l.getLast hne, (List.dropLast_concat_getLast hne).symm⟩
    have hm : m.length = n := by simpa using h
    rw [atF_snoc]
    have keep : ∀ {i : Nat} {g : Fact}, lastF m k d t i g → ¬ badF k d t i g m.length f → lastF (m ++ [f]) k d t i g := fun {i g} h1 h2 => by
      refine ⟨?_, h1.2.1, fun j x hx => ?_⟩
      · rw [List.getElem?_append_left (List.getElem?_eq_some_iff.1 h1.1).1]; exact h1.1
      · rcases snoc_get hx with ⟨hx, _⟩ | ⟨rfl, rfl⟩
        · exact h1.2.2 j x hx
        · exact h2
    by_cases hf : hitF k d t f
    · rcases last_spec k d t n m hm with ⟨h0, hno⟩ | ⟨i, g, hi, h0⟩
      · refine .inr ⟨m.length, f, ⟨by simp, hf, fun j x hx hb => ?_⟩, ?_⟩
        · rcases snoc_get hx with ⟨hx, hj⟩ | ⟨rfl, rfl⟩
          · exact hno x (List.mem_of_getElem? hx) hb.1
          · rcases hb.2 with hb | hb
            · unfold before at hb; omega
            · omega
        · rw [h0]; unfold atStep
          rw [if_pos]; exact ⟨hf.1, hf.2.2.2, hf.2.1, hf.2.2.1, fun g hg => by cases hg⟩
      · by_cases hb : before f g
        · refine .inr ⟨i, g, keep hi ?_, ?_⟩
          · rintro ⟨_, h2 | ⟨_, h2⟩⟩
            · unfold before at *; omega
            · exact h2 hb
          · rw [h0]; unfold atStep
            rw [if_neg]
            rintro ⟨_, _, _, _, hn⟩
            exact (order_le _ _).1 (hn g rfl) hb
        · refine .inr ⟨m.length, f, ⟨by simp, hf, fun j x hx hbad => ?_⟩, ?_⟩
          · rcases snoc_get hx with ⟨hx, hj⟩ | ⟨rfl, rfl⟩
            · rcases hbad.2 with h2 | h2
              · have h3 := hi.2.2 j x hx
                refine h3 ⟨hbad.1, .inl ?_⟩
                unfold before at *; omega
              · omega
            · rcases hbad.2 with h2 | h2
              · unfold before at h2; omega
              · omega
          · rw [h0]; unfold atStep
            rw [if_pos]; exact ⟨hf.1, hf.2.2.2, hf.2.1, hf.2.2.1, fun x hx => by cases hx; exact (order_le _ _).2 hb⟩
    · have hs : atStep k d t (atF m k d t) f = atF m k d t := by
        unfold atStep
        rw [if_neg (fun h => hf ⟨h.1, h.2.2.1, h.2.2.2.1, h.2.1⟩)]
      rw [hs]
      rcases last_spec k d t n m hm with ⟨h0, hno⟩ | ⟨i, g, hi, h0⟩
      · refine .inl ⟨h0, fun x hx => ?_⟩
        rcases List.mem_append.1 hx with hx | hx
        · exact hno x hx
        · rw [List.mem_singleton.1 hx]; exact hf
      · exact .inr ⟨i, g, keep hi (fun h => hf h.1), h0⟩
theorem last_one {l : List Fact} {k : Key} {d t : Int} {i j : Nat} {f g : Fact} (h : lastF l k d t i f) (h2 : lastF l k d t j g) : i = j ∧ f = g := by
  have e : i = j := by
    rcases Nat.lt_trichotomy i j with hl | hl | hl
    · by_cases hb : before g f
      · exact absurd ⟨h.2.1, .inl hb⟩ (h2.2.2 i f h.1)
      · exact absurd ⟨h2.2.1, .inr ⟨hl, hb⟩⟩ (h.2.2 j g h2.1)
    · exact hl
    · by_cases hb : before f g
      · exact absurd ⟨h2.2.1, .inl hb⟩ (h.2.2 j g h2.1)
      · exact absurd ⟨h.2.1, .inr ⟨hl, hb⟩⟩ (h2.2.2 i f h.1)
  subst e
  have := h.1.symm.trans h2.1
  exact ⟨rfl, by simpa using this⟩
theorem last_at {l : List Fact} {k : Key} {d t : Int} {i : Nat} {f : Fact} (h : lastF l k d t i f) : atM l k d t = valOf (some f) := by
  rcases last_spec k d t _ l rfl with ⟨_, h2⟩ | ⟨j, g, h2, h3⟩
  · exact absurd h.2.1 (h2 f (List.mem_of_getElem? h.1))
  · obtain ⟨_, rfl⟩ := last_one h h2
    unfold atM; rw [h3]
/-- Some fact before the i-th hits; one of them is the last. -/
def someF (l : List Fact) (k : Key) (d t : Int) (i : Nat) : Prop := ∃ f ∈ l.take i, hitF k d t f
def metF (l : List Fact) (k : Key) (d t : Int) (i : Nat) : Prop := ∃ j, j < i ∧ ∃ f, lastF l k d t j f
theorem some_succ {l : List Fact} {i : Nat} {f : Fact} (hx : l[i]? = some f) (k : Key) (d t : Int) : someF l k d t (i + 1) ↔ someF l k d t i ∨ hitF k d t f := by
  unfold someF
  rw [List.take_add_one, hx]
  simp only [Option.toList_some, List.mem_append, List.mem_singleton]
  constructor
  · rintro ⟨g, hg | rfl, h⟩
    · exact .inl ⟨g, hg, h⟩
    · exact .inr h
  · rintro (⟨g, hg, h⟩ | h)
    · exact ⟨g, .inl hg, h⟩
    · exact ⟨f, .inr rfl, h⟩
theorem met_succ {l : List Fact} {i : Nat} {f : Fact} (hx : l[i]? = some f) (k : Key) (d t : Int) : metF l k d t (i + 1) ↔ metF l k d t i ∨ lastF l k d t i f := by
  unfold metF
  constructor
  · rintro ⟨j, hj, g, hg⟩
    by_cases hji : j = i
    · subst hji
      have := hx.symm.trans hg.1
      cases this
      exact .inr hg
    · exact .inl ⟨j, by omega, g, hg⟩
  · rintro (⟨j, hj, g, hg⟩ | h)
    · exact ⟨j, by omega, g, hg⟩
    · exact ⟨i, by omega, f, h⟩
theorem met_some (l : List Fact) (k : Key) (d t : Int) : metF l k d t l.length ↔ someF l k d t l.length := by
  unfold metF someF
  rw [List.take_length]
  constructor
  · rintro ⟨j, _, f, hf⟩
    exact ⟨f, List.mem_of_getElem? hf.1, hf.2.1⟩
  · rintro ⟨f, hf, hh⟩
    rcases last_spec k d t _ l rfl with ⟨_, h2⟩ | ⟨i, g, h2, _⟩
    · exact absurd hh (h2 f hf)
    · exact ⟨i, (List.getElem?_eq_some_iff.1 h2.1).1, g, h2⟩
theorem some_at {l : List Fact} {k : Key} {d t : Int} (h : ¬ someF l k d t l.length) : atM l k d t = none := by
  unfold someF at h
  rw [List.take_length] at h
  rcases last_spec k d t _ l rfl with ⟨h1, _⟩ | ⟨i, g, h2, _⟩
  · unfold atM; rw [h1]; rfl
  · exact absurd ⟨g, List.mem_of_getElem? h2.1, h2.2.1⟩ h
theorem met_0 (l : List Fact) (k : Key) (d t : Int) : ¬ metF l k d t 0 := by
  rintro ⟨j, hj, _⟩; omega
theorem some_0 (l : List Fact) (k : Key) (d t : Int) : ¬ someF l k d t 0 := by
  rintro ⟨f, hf, _⟩; simp at hf
def fineF (l : List Fact) (k : Key) (d t : Int) (i : Nat) (f : Fact) (J : Nat) : Prop := ∀ (j : Nat), j < J → ∀ y, l[j]? = some y → ¬ badF k d t i f j y
theorem fine_0 (l : List Fact) (k : Key) (d t : Int) (i : Nat) (f : Fact) : fineF l k d t i f 0 := fun j hj => by omega
theorem fine_succ {l : List Fact} {J : Nat} {y : Fact} (hx : l[J]? = some y) (k : Key) (d t : Int) (i : Nat) (f : Fact) : fineF l k d t i f (J + 1) ↔ fineF l k d t i f J ∧ ¬ badF k d t i f J y := by
  constructor
  · intro h
    exact ⟨fun j hj z hz => h j (by omega) z hz, h J (by omega) y hx⟩
  · rintro ⟨h1, h2⟩ j hj z hz
    by_cases hjj : j = J
    · subst hjj
      have := hz.symm.trans hx
      cases this
      exact h2
    · exact h1 j (by omega) z hz
theorem fine_all {l : List Fact} {i : Nat} {f : Fact} {k : Key} {d t : Int} (hx : l[i]? = some f) (hh : hitF k d t f) : lastF l k d t i f ↔ fineF l k d t i f l.length := by
  constructor
  · exact fun h j _ y hy => h.2.2 j y hy
  · exact fun h => ⟨hx, hh, fun j y hy => h j (List.getElem?_eq_some_iff.1 hy).1 y hy⟩
theorem law04_Counts (l : List Fact) (k : Key) (day known : Int) (hl : l.length < 2 ^ 63) : CallP Try.prog 8 [.d (SL 8 (l.map Fact.d)), .d k.d, .d (I day), .d (I known)] (retD [.b true]) := by
  refine exPure_sound (E := envOf Try.prog tt Try.f8.ntmps) (envOf_ok ttok mixed) Try.func8 (by rfl) rfl rfl (Nat.le_of_ble_eq_true rfl) ?_
  have hFew := ref04_Few l hl
  by_cases hs : l.length ≤ 30
  · rw [decide_eq_true hs] at hFew
    by_cases hpos : 0 < l.length
    · repeat' ((conv => whnf); first | with_reducible refine Dec.t (show true = true from rfl) ?_ | with_reducible refine Dec.t (show false = false from rfl) ?_ | with_reducible refine Dec.f (show ¬ (true = false) by decide) ?_ | with_reducible refine Dec.f (show ¬ (false = true) by decide) ?_ | refine Dec.t (by omega) ?_ | refine Dec.f (by omega) ?_ | refine Dec.split (fun _ => ?_) (fun _ => ?_) | refine Wr.id (by omega) ?_ | refine Chk.mk (by first | omega | exact rfl | (simp only [List.length_map]; omega) | (simp [room]; done) | (simp [room]; omega) | (simp [dropL, room]; done) | (simp [dropL, room]; omega)) ?_ | refine Nam.mk (List.length_map _) ?_ | refine Prep.skip ?_ | refine Eith.l ?_ | refine chk_t (x := D.flat _) (by assumption) ?_ | refine br_mk (fun _ => ?_) (fun _ => ?_) | refine Nam.mk (List.length_map _) ?_ | refine ACall.of (law04_sane) ?_ | refine APCall.of (law04_sane) ?_ | refine ACall.of hFew ?_ | fail)
      all_goals (conv => whnf)
      obtain ⟨q0, q1⟩ := and31 k.subj
      generalize bitsOp .and .i64 k.subj 31 = q at q0 q1 ⊢
      obtain ⟨m0, m1, g, hg⟩ := key_pick hpos q0
      generalize q.tmod l.length = r at m0 m1 hg ⊢
      refine Chk.mk m0 ?_
      have hA := facts_At l g.key day known (by omega)
      repeat' ((conv => whnf); first | with_reducible refine Dec.t (show true = true from rfl) ?_ | with_reducible refine Dec.t (show false = false from rfl) ?_ | with_reducible refine Dec.f (show ¬ (true = false) by decide) ?_ | with_reducible refine Dec.f (show ¬ (false = true) by decide) ?_ | refine Dec.t (by omega) ?_ | refine Dec.f (by omega) ?_ | refine Dec.split (fun _ => ?_) (fun _ => ?_) | refine Wr.id (by omega) ?_ | refine Chk.mk (by first | omega | exact rfl | (simp only [List.length_map]; omega) | (simp [room]; done) | (simp [room]; omega) | (simp [dropL, room]; done) | (simp [dropL, room]; omega)) ?_ | refine Nam.mk (List.length_map _) ?_ | refine Prep.skip ?_ | refine Eith.l ?_ | refine chk_t (x := D.flat _) (by assumption) ?_ | refine br_mk (fun _ => ?_) (fun _ => ?_) | refine Nam.mk (List.length_map _) ?_ | refine nthK_mk (map_get hg) ?_ | refine ACall.of (hA) ?_ | refine APCall.of (hA) ?_ | fail)
      all_goals (conv => whnf)
      refine ALoop.at (E := envOf Try.prog tt Try.f8.ntmps) (envOf_ok ttok mixed) (X := Nat × Bool × Bool) (fun x => [(13, .d (I x.1)), (11, .d (.b x.2.1)), (12, .d (.b x.2.2))]) (fun _ => []) (fun x => x.1 ≤ l.length ∧ (x.2.1 = true ↔ metF l g.key day known x.1) ∧ (x.2.2 = true ↔ someF l g.key day known x.1)) (fun x => l.length - x.1) (0, false, false) (by repeat (first | exact trivial | refine And.intro rfl ?_ | refine And.intro (congrArg (fun n => V.d (I n)) (wrap_nat _ (by omega))) ?_)) rfl
        ⟨Nat.zero_le _, iff_of_false (fun h => by cases h) (met_0 _ _ _ _), iff_of_false (fun h => by cases h) (some_0 _ _ _ _)⟩ ?_
      rintro ⟨i, met, som⟩ ⟨hi, hmet, hsom⟩
      simp only at hi hmet hsom
      dsimp only
      by_cases hlt : i < l.length
      · obtain ⟨f, hx, _⟩ := drop_get (l := l) (i := i) hlt
        have hms := met_succ hx g.key day known
        have hss := some_succ hx g.key day known
        have hfx : (l.map Fact.d)[((i : Nat) : Int).toNat]? = some f.d := by rw [Int.toNat_natCast]; exact map_get hx
        have hB := fun y => ref04_Before' f y
        have hB2 := fun y => ref04_Before' y f
        by_cases hh : hitF g.key day known f
        · obtain ⟨e1, e2, e3, e4⟩ := hh
          repeat' ((conv => whnf); first | with_reducible refine Dec.t (show true = true from rfl) ?_ | with_reducible refine Dec.t (show false = false from rfl) ?_ | with_reducible refine Dec.f (show ¬ (true = false) by decide) ?_ | with_reducible refine Dec.f (show ¬ (false = true) by decide) ?_ | refine Dec.t (by omega) ?_ | refine Dec.f (by omega) ?_ | refine Dec.split (fun _ => ?_) (fun _ => ?_) | refine Wr.id (by omega) ?_ | refine Chk.mk (by first | omega | exact rfl | (simp only [List.length_map]; omega) | (simp [room]; done) | (simp [room]; omega) | (simp [dropL, room]; done) | (simp [dropL, room]; omega)) ?_ | refine Nam.mk (List.length_map _) ?_ | refine Prep.skip ?_ | refine Eith.l ?_ | refine chk_t (x := D.flat _) (by assumption) ?_ | refine br_mk (fun _ => ?_) (fun _ => ?_) | refine Nam.mk (List.length_map _) ?_ | refine nthK_mk hfx ?_ | refine Nam.dec (eqKey f.key g.key) (fun _ => ?_) (fun hh => absurd e1 hh) | fail)
          all_goals (conv => whnf)
          refine ALoop.at (E := envOf Try.prog tt Try.f8.ntmps) (envOf_ok ttok mixed) (X := Nat × Bool) (fun x => [(15, .d (I x.1)), (14, .d (.b x.2))]) (fun _ => []) (fun x => x.1 ≤ l.length ∧ (x.2 = true ↔ fineF l g.key day known i f x.1)) (fun x => l.length - x.1) (0, true) (by repeat (first | exact trivial | refine And.intro rfl ?_ | refine And.intro (congrArg (fun n => V.d (I n)) (wrap_nat _ (by omega))) ?_)) rfl
            ⟨Nat.zero_le _, iff_of_true rfl (fine_0 _ _ _ _ _ _)⟩ ?_
          rintro ⟨j, last⟩ ⟨hj, hlast⟩
          simp only at hj hlast
          dsimp only
          by_cases hlj : j < l.length
          · obtain ⟨y, hy, _⟩ := drop_get (l := l) (i := j) hlj
            have hfs := fine_succ hy g.key day known i f
            have hfy : (l.map Fact.d)[((j : Nat) : Int).toNat]? = some y.d := by rw [Int.toNat_natCast]; exact map_get hy
            have c1 := hB y
            have c2 := hB2 y
            have kp : ¬ badF g.key day known i f j y → (last = true ↔ fineF l g.key day known i f (j + 1)) := fun h => by rw [hfs, hlast]; exact ⟨fun h2 => ⟨h2, h⟩, fun h2 => h2.1⟩
            have ls : badF g.key day known i f j y → (false = true ↔ fineF l g.key day known i f (j + 1)) := fun h => by rw [hfs]; exact iff_of_false (fun h => by cases h) fun h2 => h2.2 h
            by_cases hyk : y.key = g.key
            · by_cases hr : y.from_ ≤ day ∧ day < y.to_ ∧ y.known ≤ known
              · obtain ⟨r1, r2, r3⟩ := hr
                have hyh : hitF g.key day known y := ⟨hyk, r1, r2, r3⟩
                by_cases b1 : before f y
                · have ls := ls ⟨hyh, .inl b1⟩
                  rw [decide_eq_true b1] at c1
                  clear kp hfs hB hB2 hms hss
                  repeat' ((conv => whnf); first | with_reducible refine Dec.t (show true = true from rfl) ?_ | with_reducible refine Dec.t (show false = false from rfl) ?_ | with_reducible refine Dec.f (show ¬ (true = false) by decide) ?_ | with_reducible refine Dec.f (show ¬ (false = true) by decide) ?_ | refine Dec.t (by omega) ?_ | refine Dec.f (by omega) ?_ | refine Dec.split (fun _ => ?_) (fun _ => ?_) | refine Wr.id (by omega) ?_ | refine Chk.mk (by first | omega | exact rfl | (simp only [List.length_map]; omega) | (simp [room]; done) | (simp [room]; omega) | (simp [dropL, room]; done) | (simp [dropL, room]; omega)) ?_ | refine Nam.mk (List.length_map _) ?_ | refine Prep.skip ?_ | refine Eith.l ?_ | refine chk_t (x := D.flat _) (by assumption) ?_ | refine br_mk (fun _ => ?_) (fun _ => ?_) | refine Nam.mk (List.length_map _) ?_ | refine nthK_mk hfx ?_ | refine nthK_mk hfy ?_ | refine Nam.dec (eqKey y.key g.key) (fun _ => ?_) (fun h => absurd hyk h) | refine ACall.of (c1) ?_ | refine APCall.of (c1) ?_ | refine ACall.of (c2) ?_ | refine APCall.of (c2) ?_ | fail)
                  all_goals (conv => whnf)
                  all_goals first | exact ⟨(j + 1, false), Wm.end (by repeat (first | exact trivial | refine And.intro rfl ?_ | refine And.intro (congrArg (fun n => V.d (I n)) (wrap_nat _ (by omega))) ?_)) rfl rfl rfl, ⟨by simp only; omega, ls⟩, by simp only; omega⟩
                · rw [decide_eq_false b1] at c1
                  by_cases hij : i < j
                  · by_cases b2 : before y f
                    · have kp := kp fun h => h.2.elim b1 fun h => h.2 b2
                      rw [decide_eq_true b2] at c2
                      clear ls hfs hB hB2 hms hss
                      repeat' ((conv => whnf); first | with_reducible refine Dec.t (show true = true from rfl) ?_ | with_reducible refine Dec.t (show false = false from rfl) ?_ | with_reducible refine Dec.f (show ¬ (true = false) by decide) ?_ | with_reducible refine Dec.f (show ¬ (false = true) by decide) ?_ | refine Dec.t (by omega) ?_ | refine Dec.f (by omega) ?_ | refine Dec.split (fun _ => ?_) (fun _ => ?_) | refine Wr.id (by omega) ?_ | refine Chk.mk (by first | omega | exact rfl | (simp only [List.length_map]; omega) | (simp [room]; done) | (simp [room]; omega) | (simp [dropL, room]; done) | (simp [dropL, room]; omega)) ?_ | refine Nam.mk (List.length_map _) ?_ | refine Prep.skip ?_ | refine Eith.l ?_ | refine chk_t (x := D.flat _) (by assumption) ?_ | refine br_mk (fun _ => ?_) (fun _ => ?_) | refine Nam.mk (List.length_map _) ?_ | refine nthK_mk hfx ?_ | refine nthK_mk hfy ?_ | refine Nam.dec (eqKey y.key g.key) (fun _ => ?_) (fun h => absurd hyk h) | refine ACall.of (c1) ?_ | refine APCall.of (c1) ?_ | refine ACall.of (c2) ?_ | refine APCall.of (c2) ?_ | fail)
                      all_goals (conv => whnf)
                      all_goals first | exact ⟨(j + 1, last), Wm.end (by repeat (first | exact trivial | refine And.intro rfl ?_ | refine And.intro (congrArg (fun n => V.d (I n)) (wrap_nat _ (by omega))) ?_)) rfl rfl rfl, ⟨by simp only; omega, kp⟩, by simp only; omega⟩
                    · have ls := ls ⟨hyh, .inr ⟨hij, b2⟩⟩
                      rw [decide_eq_false b2] at c2
                      clear kp hfs hB hB2 hms hss
                      repeat' ((conv => whnf); first | with_reducible refine Dec.t (show true = true from rfl) ?_ | with_reducible refine Dec.t (show false = false from rfl) ?_ | with_reducible refine Dec.f (show ¬ (true = false) by decide) ?_ | with_reducible refine Dec.f (show ¬ (false = true) by decide) ?_ | refine Dec.t (by omega) ?_ | refine Dec.f (by omega) ?_ | refine Dec.split (fun _ => ?_) (fun _ => ?_) | refine Wr.id (by omega) ?_ | refine Chk.mk (by first | omega | exact rfl | (simp only [List.length_map]; omega) | (simp [room]; done) | (simp [room]; omega) | (simp [dropL, room]; done) | (simp [dropL, room]; omega)) ?_ | refine Nam.mk (List.length_map _) ?_ | refine Prep.skip ?_ | refine Eith.l ?_ | refine chk_t (x := D.flat _) (by assumption) ?_ | refine br_mk (fun _ => ?_) (fun _ => ?_) | refine Nam.mk (List.length_map _) ?_ | refine nthK_mk hfx ?_ | refine nthK_mk hfy ?_ | refine Nam.dec (eqKey y.key g.key) (fun _ => ?_) (fun h => absurd hyk h) | refine ACall.of (c1) ?_ | refine APCall.of (c1) ?_ | refine ACall.of (c2) ?_ | refine APCall.of (c2) ?_ | fail)
                      all_goals (conv => whnf)
                      all_goals first | exact ⟨(j + 1, false), Wm.end (by repeat (first | exact trivial | refine And.intro rfl ?_ | refine And.intro (congrArg (fun n => V.d (I n)) (wrap_nat _ (by omega))) ?_)) rfl rfl rfl, ⟨by simp only; omega, ls⟩, by simp only; omega⟩
                  · have kp := kp fun h => h.2.elim b1 fun h => hij h.1
                    clear ls hfs hB hB2 hms hss
                    repeat' ((conv => whnf); first | with_reducible refine Dec.t (show true = true from rfl) ?_ | with_reducible refine Dec.t (show false = false from rfl) ?_ | with_reducible refine Dec.f (show ¬ (true = false) by decide) ?_ | with_reducible refine Dec.f (show ¬ (false = true) by decide) ?_ | refine Dec.t (by omega) ?_ | refine Dec.f (by omega) ?_ | refine Dec.split (fun _ => ?_) (fun _ => ?_) | refine Wr.id (by omega) ?_ | refine Chk.mk (by first | omega | exact rfl | (simp only [List.length_map]; omega) | (simp [room]; done) | (simp [room]; omega) | (simp [dropL, room]; done) | (simp [dropL, room]; omega)) ?_ | refine Nam.mk (List.length_map _) ?_ | refine Prep.skip ?_ | refine Eith.l ?_ | refine chk_t (x := D.flat _) (by assumption) ?_ | refine br_mk (fun _ => ?_) (fun _ => ?_) | refine Nam.mk (List.length_map _) ?_ | refine nthK_mk hfx ?_ | refine nthK_mk hfy ?_ | refine Nam.dec (eqKey y.key g.key) (fun _ => ?_) (fun h => absurd hyk h) | refine ACall.of (c1) ?_ | refine APCall.of (c1) ?_ | refine ACall.of (c2) ?_ | refine APCall.of (c2) ?_ | fail)
                    all_goals (conv => whnf)
                    all_goals first | exact ⟨(j + 1, last), Wm.end (by repeat (first | exact trivial | refine And.intro rfl ?_ | refine And.intro (congrArg (fun n => V.d (I n)) (wrap_nat _ (by omega))) ?_)) rfl rfl rfl, ⟨by simp only; omega, kp⟩, by simp only; omega⟩
              · have kp := kp fun h => hr ⟨h.1.2.1, h.1.2.2.1, h.1.2.2.2⟩
                clear ls hfs hB hB2 hms hss
                repeat' ((conv => whnf); first | with_reducible refine Dec.t (show true = true from rfl) ?_ | with_reducible refine Dec.t (show false = false from rfl) ?_ | with_reducible refine Dec.f (show ¬ (true = false) by decide) ?_ | with_reducible refine Dec.f (show ¬ (false = true) by decide) ?_ | refine Dec.t (by omega) ?_ | refine Dec.f (by omega) ?_ | refine Dec.split (fun _ => ?_) (fun _ => ?_) | refine Wr.id (by omega) ?_ | refine Chk.mk (by first | omega | exact rfl | (simp only [List.length_map]; omega) | (simp [room]; done) | (simp [room]; omega) | (simp [dropL, room]; done) | (simp [dropL, room]; omega)) ?_ | refine Nam.mk (List.length_map _) ?_ | refine Prep.skip ?_ | refine Eith.l ?_ | refine chk_t (x := D.flat _) (by assumption) ?_ | refine br_mk (fun _ => ?_) (fun _ => ?_) | refine Nam.mk (List.length_map _) ?_ | refine nthK_mk hfx ?_ | refine nthK_mk hfy ?_ | refine Nam.dec (eqKey y.key g.key) (fun _ => ?_) (fun h => absurd hyk h) | refine ACall.of (c1) ?_ | refine APCall.of (c1) ?_ | refine ACall.of (c2) ?_ | refine APCall.of (c2) ?_ | fail)
                all_goals (conv => whnf)
                all_goals first | exact ⟨(j + 1, last), Wm.end (by repeat (first | exact trivial | refine And.intro rfl ?_ | refine And.intro (congrArg (fun n => V.d (I n)) (wrap_nat _ (by omega))) ?_)) rfl rfl rfl, ⟨by simp only; omega, kp⟩, by simp only; omega⟩ | (exfalso; omega)
            · have kp := kp fun h => hyk h.1.1
              clear ls hfs hB hB2 hms hss
              repeat' ((conv => whnf); first | with_reducible refine Dec.t (show true = true from rfl) ?_ | with_reducible refine Dec.t (show false = false from rfl) ?_ | with_reducible refine Dec.f (show ¬ (true = false) by decide) ?_ | with_reducible refine Dec.f (show ¬ (false = true) by decide) ?_ | refine Dec.t (by omega) ?_ | refine Dec.f (by omega) ?_ | refine Dec.split (fun _ => ?_) (fun _ => ?_) | refine Wr.id (by omega) ?_ | refine Chk.mk (by first | omega | exact rfl | (simp only [List.length_map]; omega) | (simp [room]; done) | (simp [room]; omega) | (simp [dropL, room]; done) | (simp [dropL, room]; omega)) ?_ | refine Nam.mk (List.length_map _) ?_ | refine Prep.skip ?_ | refine Eith.l ?_ | refine chk_t (x := D.flat _) (by assumption) ?_ | refine br_mk (fun _ => ?_) (fun _ => ?_) | refine Nam.mk (List.length_map _) ?_ | refine nthK_mk hfx ?_ | refine nthK_mk hfy ?_ | refine Nam.dec (eqKey y.key g.key) (fun h => absurd h hyk) (fun _ => ?_) | refine ACall.of (c1) ?_ | refine APCall.of (c1) ?_ | refine ACall.of (c2) ?_ | refine APCall.of (c2) ?_ | fail)
              all_goals (conv => whnf)
              all_goals first | exact ⟨(j + 1, last), Wm.end (by repeat (first | exact trivial | refine And.intro rfl ?_ | refine And.intro (congrArg (fun n => V.d (I n)) (wrap_nat _ (by omega))) ?_)) rfl rfl rfl, ⟨by simp only; omega, kp⟩, by simp only; omega⟩
          · have : j = l.length := by omega
            subst this
            have hfa := fine_all hx ⟨e1, e2, e3, e4⟩
            have hsom' : true = true ↔ someF l g.key day known (i + 1) := iff_of_true rfl (hss.2 (.inr ⟨e1, e2, e3, e4⟩))
            cases last
            · have hnl : ¬ lastF l g.key day known i f := fun h => absurd (hlast.2 (hfa.1 h)) (by decide)
              have hmet' : met = true ↔ metF l g.key day known (i + 1) := by rw [hms, hmet]; exact ⟨.inl, fun h => h.elim id fun h => absurd h hnl⟩
              clear hfa hms hss hmet hsom hlast
              repeat' ((conv => whnf); first | with_reducible refine Dec.t (show true = true from rfl) ?_ | with_reducible refine Dec.t (show false = false from rfl) ?_ | with_reducible refine Dec.f (show ¬ (true = false) by decide) ?_ | with_reducible refine Dec.f (show ¬ (false = true) by decide) ?_ | refine Dec.t (by omega) ?_ | refine Dec.f (by omega) ?_ | refine Dec.split (fun _ => ?_) (fun _ => ?_) | refine Wr.id (by omega) ?_ | refine Chk.mk (by first | omega | exact rfl | (simp only [List.length_map]; omega) | (simp [room]; done) | (simp [room]; omega) | (simp [dropL, room]; done) | (simp [dropL, room]; omega)) ?_ | refine Nam.mk (List.length_map _) ?_ | refine Prep.skip ?_ | refine Eith.l ?_ | refine chk_t (x := D.flat _) (by assumption) ?_ | refine br_mk (fun _ => ?_) (fun _ => ?_) | refine Nam.mk (List.length_map _) ?_ | fail)
              all_goals (conv => whnf)
              exact ⟨(i + 1, met, true), Wm.end (by repeat (first | exact trivial | refine And.intro rfl ?_ | refine And.intro (congrArg (fun n => V.d (I n)) (wrap_nat _ (by omega))) ?_)) rfl rfl rfl, ⟨by simp only; omega, hmet', hsom'⟩, by simp only; omega⟩
            · have hl2 : lastF l g.key day known i f := hfa.2 (hlast.1 rfl)
              have hat := last_at hl2
              have hmet' : true = true ↔ metF l g.key day known (i + 1) := iff_of_true rfl (hms.2 (.inr hl2))
              clear hfa hms hss hmet hsom hlast
              by_cases hv : f.value < 0
              · have hat : atM l g.key day known = none := by rw [hat]; unfold valOf; simp only; rw [if_pos hv]
                rw [hat] at hA ⊢
                repeat' ((conv => whnf); first | with_reducible refine Dec.t (show true = true from rfl) ?_ | with_reducible refine Dec.t (show false = false from rfl) ?_ | with_reducible refine Dec.f (show ¬ (true = false) by decide) ?_ | with_reducible refine Dec.f (show ¬ (false = true) by decide) ?_ | refine Dec.t (by omega) ?_ | refine Dec.f (by omega) ?_ | refine Dec.split (fun _ => ?_) (fun _ => ?_) | refine Wr.id (by omega) ?_ | refine Chk.mk (by first | omega | exact rfl | (simp only [List.length_map]; omega) | (simp [room]; done) | (simp [room]; omega) | (simp [dropL, room]; done) | (simp [dropL, room]; omega)) ?_ | refine Nam.mk (List.length_map _) ?_ | refine Prep.skip ?_ | refine Eith.l ?_ | refine chk_t (x := D.flat _) (by assumption) ?_ | refine br_mk (fun _ => ?_) (fun _ => ?_) | refine Nam.mk (List.length_map _) ?_ | refine nthK_mk hfx ?_ | fail)
                all_goals (conv => whnf)
                all_goals first | (exfalso; rename_i hh; exact hh rfl) | exact ⟨(i + 1, true, true), Wm.end (by repeat (first | exact trivial | refine And.intro rfl ?_ | refine And.intro (congrArg (fun n => V.d (I n)) (wrap_nat _ (by omega))) ?_)) rfl rfl rfl, ⟨by simp only; omega, hmet', hsom'⟩, by simp only; omega⟩
              · have hat : atM l g.key day known = some f.value := by rw [hat]; unfold valOf; simp only; rw [if_neg hv]
                rw [hat] at hA ⊢
                repeat' ((conv => whnf); first | with_reducible refine Dec.t (show true = true from rfl) ?_ | with_reducible refine Dec.t (show false = false from rfl) ?_ | with_reducible refine Dec.f (show ¬ (true = false) by decide) ?_ | with_reducible refine Dec.f (show ¬ (false = true) by decide) ?_ | refine Dec.t (by omega) ?_ | refine Dec.f (by omega) ?_ | refine Dec.split (fun _ => ?_) (fun _ => ?_) | refine Wr.id (by omega) ?_ | refine Chk.mk (by first | omega | exact rfl | (simp only [List.length_map]; omega) | (simp [room]; done) | (simp [room]; omega) | (simp [dropL, room]; done) | (simp [dropL, room]; omega)) ?_ | refine Nam.mk (List.length_map _) ?_ | refine Prep.skip ?_ | refine Eith.l ?_ | refine chk_t (x := D.flat _) (by assumption) ?_ | refine br_mk (fun _ => ?_) (fun _ => ?_) | refine Nam.mk (List.length_map _) ?_ | refine nthK_mk hfx ?_ | fail)
                all_goals (conv => whnf)
                all_goals first | (exfalso; rename_i hh; exact hh rfl) | exact ⟨(i + 1, true, true), Wm.end (by repeat (first | exact trivial | refine And.intro rfl ?_ | refine And.intro (congrArg (fun n => V.d (I n)) (wrap_nat _ (by omega))) ?_)) rfl rfl rfl, ⟨by simp only; omega, hmet', hsom'⟩, by simp only; omega⟩
        · have hnl : ¬ lastF l g.key day known i f := fun h => hh h.2.1
          have hnext : (met = true ↔ metF l g.key day known (i + 1)) ∧ (som = true ↔ someF l g.key day known (i + 1)) := by
            rw [hms, hss]
            exact ⟨⟨fun h => .inl (hmet.1 h), fun h => h.elim hmet.2 fun h => absurd h hnl⟩, ⟨fun h => .inl (hsom.1 h), fun h => h.elim hsom.2 fun h => absurd h hh⟩⟩
          unfold hitF at hh
          repeat' ((conv => whnf); first | with_reducible refine Dec.t (show true = true from rfl) ?_ | with_reducible refine Dec.t (show false = false from rfl) ?_ | with_reducible refine Dec.f (show ¬ (true = false) by decide) ?_ | with_reducible refine Dec.f (show ¬ (false = true) by decide) ?_ | refine Dec.t (by omega) ?_ | refine Dec.f (by omega) ?_ | refine Dec.split (fun _ => ?_) (fun _ => ?_) | refine Wr.id (by omega) ?_ | refine Chk.mk (by first | omega | exact rfl | (simp only [List.length_map]; omega) | (simp [room]; done) | (simp [room]; omega) | (simp [dropL, room]; done) | (simp [dropL, room]; omega)) ?_ | refine Nam.mk (List.length_map _) ?_ | refine Prep.skip ?_ | refine Eith.l ?_ | refine chk_t (x := D.flat _) (by assumption) ?_ | refine br_mk (fun _ => ?_) (fun _ => ?_) | refine Nam.mk (List.length_map _) ?_ | refine nthK_mk hfx ?_ | refine Nam.dec (eqKey f.key g.key) (fun hk => ?_) (fun hk => ?_) | fail)
          all_goals (conv => whnf)
          all_goals first | exact ⟨(i + 1, met, som), Wm.end (by repeat (first | exact trivial | refine And.intro rfl ?_ | refine And.intro (congrArg (fun n => V.d (I n)) (wrap_nat _ (by omega))) ?_)) rfl rfl rfl, ⟨by simp only; omega, hnext.1, hnext.2⟩, by simp only; omega⟩ | (exfalso; exact hh ⟨hk, by omega, by omega, by omega⟩)
      · have : i = l.length := by omega
        subst this
        have he : met = som := by
          rw [Bool.eq_iff_iff, hmet, hsom]; exact met_some _ _ _ _
        subst he
        have hno : met = false → atM l g.key day known = none := fun h => some_at fun hs => by rw [hsom.2 hs] at h; cases h
        cases met
        · rw [hno rfl] at *
          repeat' ((conv => whnf); first | with_reducible refine Dec.t (show true = true from rfl) ?_ | with_reducible refine Dec.t (show false = false from rfl) ?_ | with_reducible refine Dec.f (show ¬ (true = false) by decide) ?_ | with_reducible refine Dec.f (show ¬ (false = true) by decide) ?_ | refine Dec.t (by omega) ?_ | refine Dec.f (by omega) ?_ | refine Dec.split (fun _ => ?_) (fun _ => ?_) | refine Wr.id (by omega) ?_ | refine Chk.mk (by first | omega | exact rfl | (simp only [List.length_map]; omega) | (simp [room]; done) | (simp [room]; omega) | (simp [dropL, room]; done) | (simp [dropL, room]; omega)) ?_ | refine Nam.mk (List.length_map _) ?_ | refine Prep.skip ?_ | refine Eith.l ?_ | refine chk_t (x := D.flat _) (by assumption) ?_ | refine br_mk (fun _ => ?_) (fun _ => ?_) | refine Nam.mk (List.length_map _) ?_ | fail)
          all_goals (conv => whnf)
          all_goals first | exact DLe.refl _ | (exfalso; rename_i hh; exact hh rfl)
        · cases hat : atM l g.key day known with
          | none =>
            repeat' ((conv => whnf); first | with_reducible refine Dec.t (show true = true from rfl) ?_ | with_reducible refine Dec.t (show false = false from rfl) ?_ | with_reducible refine Dec.f (show ¬ (true = false) by decide) ?_ | with_reducible refine Dec.f (show ¬ (false = true) by decide) ?_ | refine Dec.t (by omega) ?_ | refine Dec.f (by omega) ?_ | refine Dec.split (fun _ => ?_) (fun _ => ?_) | refine Wr.id (by omega) ?_ | refine Chk.mk (by first | omega | exact rfl | (simp only [List.length_map]; omega) | (simp [room]; done) | (simp [room]; omega) | (simp [dropL, room]; done) | (simp [dropL, room]; omega)) ?_ | refine Nam.mk (List.length_map _) ?_ | refine Prep.skip ?_ | refine Eith.l ?_ | refine chk_t (x := D.flat _) (by assumption) ?_ | refine br_mk (fun _ => ?_) (fun _ => ?_) | refine Nam.mk (List.length_map _) ?_ | fail)
            all_goals (conv => whnf)
            all_goals first | exact DLe.refl _ | (exfalso; rename_i hh; exact hh rfl)
          | some v =>
            repeat' ((conv => whnf); first | with_reducible refine Dec.t (show true = true from rfl) ?_ | with_reducible refine Dec.t (show false = false from rfl) ?_ | with_reducible refine Dec.f (show ¬ (true = false) by decide) ?_ | with_reducible refine Dec.f (show ¬ (false = true) by decide) ?_ | refine Dec.t (by omega) ?_ | refine Dec.f (by omega) ?_ | refine Dec.split (fun _ => ?_) (fun _ => ?_) | refine Wr.id (by omega) ?_ | refine Chk.mk (by first | omega | exact rfl | (simp only [List.length_map]; omega) | (simp [room]; done) | (simp [room]; omega) | (simp [dropL, room]; done) | (simp [dropL, room]; omega)) ?_ | refine Nam.mk (List.length_map _) ?_ | refine Prep.skip ?_ | refine Eith.l ?_ | refine chk_t (x := D.flat _) (by assumption) ?_ | refine br_mk (fun _ => ?_) (fun _ => ?_) | refine Nam.mk (List.length_map _) ?_ | fail)
            all_goals (conv => whnf)
            all_goals first | exact DLe.refl _ | (exfalso; rename_i hh; exact hh rfl)
    · have : l = [] := by cases l with | nil => rfl | cons => simp at hpos
      subst this
      have hA := facts_At [] k day known (by simp)
      rw [show atM [] k day known = none from rfl] at hA
      repeat' ((conv => whnf); first | with_reducible refine Dec.t (show true = true from rfl) ?_ | with_reducible refine Dec.t (show false = false from rfl) ?_ | with_reducible refine Dec.f (show ¬ (true = false) by decide) ?_ | with_reducible refine Dec.f (show ¬ (false = true) by decide) ?_ | refine Dec.t (by omega) ?_ | refine Dec.f (by omega) ?_ | refine Dec.split (fun _ => ?_) (fun _ => ?_) | refine Wr.id (by omega) ?_ | refine Chk.mk (by first | omega | exact rfl | (simp only [List.length_map]; omega) | (simp [room]; done) | (simp [room]; omega) | (simp [dropL, room]; done) | (simp [dropL, room]; omega)) ?_ | refine Nam.mk (List.length_map _) ?_ | refine Prep.skip ?_ | refine Eith.l ?_ | refine chk_t (x := D.flat _) (by assumption) ?_ | refine br_mk (fun _ => ?_) (fun _ => ?_) | refine Nam.mk (y := 0) rfl ?_ | refine ACall.of (law04_sane) ?_ | refine APCall.of (law04_sane) ?_ | refine ACall.of hFew ?_ | refine ACall.of (hA) ?_ | refine APCall.of (hA) ?_ | refine ALoop.rounds 1 ?_ | refine ALoopN.step (E := (envOf Try.prog tt Try.f8.ntmps)) (envOf_ok ttok mixed) ?_ | fail)
      all_goals (conv => whnf)
      all_goals first | exact DLe.refl _ | (exfalso; rename_i hh; exact hh rfl)
  · rw [decide_eq_false hs] at hFew
    repeat' ((conv => whnf); first | with_reducible refine Dec.t (show true = true from rfl) ?_ | with_reducible refine Dec.t (show false = false from rfl) ?_ | with_reducible refine Dec.f (show ¬ (true = false) by decide) ?_ | with_reducible refine Dec.f (show ¬ (false = true) by decide) ?_ | refine Dec.t (by omega) ?_ | refine Dec.f (by omega) ?_ | refine Dec.split (fun _ => ?_) (fun _ => ?_) | refine Wr.id (by omega) ?_ | refine Chk.mk (by first | omega | exact rfl | (simp only [List.length_map]; omega) | (simp [room]; done) | (simp [room]; omega) | (simp [dropL, room]; done) | (simp [dropL, room]; omega)) ?_ | refine Nam.mk (List.length_map _) ?_ | refine Prep.skip ?_ | refine Eith.l ?_ | refine chk_t (x := D.flat _) (by assumption) ?_ | refine br_mk (fun _ => ?_) (fun _ => ?_) | refine ACall.of (law04_sane) ?_ | refine APCall.of (law04_sane) ?_ | refine ACall.of hFew ?_ | fail)
    all_goals (conv => whnf)
    all_goals exact DLe.refl _

end Go.PM

