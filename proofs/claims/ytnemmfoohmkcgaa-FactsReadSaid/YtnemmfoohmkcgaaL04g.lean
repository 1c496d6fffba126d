/- The statements of layer 4: Read. -/
import Derived.Test.YtnemmfoohmkcgaaL04f
import Derived.Test.YtnemmfoohmkcgaaL04d
namespace Go.PM
open Go.Proofs
set_option maxRecDepth 10000
set_option maxHeartbeats 4000000

structure RunOk (p : Nat → Bool) (n : Nat) (L : List Spn) : Prop where
  apart : L.Pairwise fun s s' => s.to_ < s'.from_
  rng : ∀ s ∈ L, 0 ≤ s.from_ ∧ s.from_ < s.to_ ∧ s.to_ ≤ n
  cover : ∀ d : Nat, (∃ s ∈ L, s.from_ ≤ d ∧ (d : Int) < s.to_) ↔ (d < n ∧ p d = true)
theorem runs_ok (p : Nat → Bool) : ∀ n, RunOk p n (runsM p n)
  | 0 => ⟨List.Pairwise.nil, (by simp [runsM]), fun d => by simp [runsM]⟩
  | n + 1 => by
    have h := runs_ok p n
    rw [runsM]
    generalize runsM p n = L at h
    by_cases hp : p n = true
    · rw [if_pos hp]
      have new : (∀ s ∈ L, s.to_ < n) → RunOk p (n + 1) (extR L n) := fun hn => by
        rw [extR_new hn]
        refine ⟨?_, ?_, fun d => ?_⟩
        · rw [List.pairwise_append]
          exact ⟨h.apart, List.pairwise_singleton _ _, fun s hs t ht => by rw [List.mem_singleton.1 ht]; exact hn s hs⟩
        · intro s hs
          rcases List.mem_append.1 hs with hs | hs
          · have := h.rng s hs; omega
          · rw [List.mem_singleton.1 hs]; simp only; omega
        · have hc := h.cover d
          constructor
          · rintro ⟨s, hs, h1, h2⟩
            rcases List.mem_append.1 hs with hs | hs
            · have := hc.1 ⟨s, hs, h1, h2⟩; exact ⟨by omega, this.2⟩
            · rw [List.mem_singleton.1 hs] at h1 h2
              simp only at h1 h2
              have : d = n := by omega
              subst this; exact ⟨by omega, hp⟩
          · rintro ⟨h1, h2⟩
            by_cases hd : d = n
            · exact ⟨⟨n, (n : Int) + 1⟩, List.mem_append_right _ (.head _), by simp only; omega, by simp only; omega⟩
            · obtain ⟨s, hs, h3⟩ := hc.2 ⟨by omega, h2⟩
              exact ⟨s, List.mem_append_left _ hs, h3⟩
      rcases List.eq_nil_or_concat L with rfl | ⟨M, s, hL⟩
      · exact new (by simp)
      · rw [List.concat_eq_append] at hL
        subst hL
        have ha := h.apart
        rw [List.pairwise_append] at ha
        have hs := h.rng s (by simp)
        by_cases he : s.to_ = n
        · obtain ⟨f, t⟩ := s
          simp only at he hs
          subst he
          rw [extR_open]
          refine ⟨?_, ?_, fun d => ?_⟩
          · rw [List.pairwise_append]
            refine ⟨ha.1, List.pairwise_singleton _ _, fun x hx y hy => ?_⟩
            rw [List.mem_singleton.1 hy]
            exact ha.2.2 x hx ⟨f, n⟩ (.head _)
          · intro x hx
            rcases List.mem_append.1 hx with hx | hx
            · have := h.rng x (List.mem_append_left _ hx); omega
            · rw [List.mem_singleton.1 hx]; simp only; omega
          · have hc := h.cover d
            constructor
            · rintro ⟨x, hx, h1, h2⟩
              rcases List.mem_append.1 hx with hx | hx
              · have := hc.1 ⟨x, List.mem_append_left _ hx, h1, h2⟩; exact ⟨by omega, this.2⟩
              · rw [List.mem_singleton.1 hx] at h1 h2
                simp only at h1 h2
                by_cases hd : d = n
                · subst hd; exact ⟨by omega, hp⟩
                · have := hc.1 ⟨⟨f, n⟩, List.mem_append_right _ (.head _), h1, by simp only; omega⟩
                  exact ⟨by omega, this.2⟩
            · rintro ⟨h1, h2⟩
              by_cases hd : d = n
              · exact ⟨⟨f, (n : Int) + 1⟩, List.mem_append_right _ (.head _), by simp only; omega, by simp only; omega⟩
              · obtain ⟨x, hx, h3, h4⟩ := hc.2 ⟨by omega, h2⟩
                rcases List.mem_append.1 hx with hx | hx
                · exact ⟨x, List.mem_append_left _ hx, h3, h4⟩
                · rw [List.mem_singleton.1 hx] at h3 h4
                  simp only at h3 h4
                  exact ⟨⟨f, (n : Int) + 1⟩, List.mem_append_right _ (.head _), h3, by simp only; omega⟩
        · refine new fun x hx => ?_
          rcases List.mem_append.1 hx with hx | hx
          · have := ha.2.2 x hx s (.head _); omega
          · rw [List.mem_singleton.1 hx]; omega
    · rw [if_neg hp]
      refine ⟨h.apart, fun s hs => by have := h.rng s hs; omega, fun d => ?_⟩
      rw [h.cover d]
      constructor
      · rintro ⟨h1, h2⟩; exact ⟨by omega, h2⟩
      · rintro ⟨h1, h2⟩
        by_cases hd : d = n
        · subst hd; exact absurd h2 hp
        · exact ⟨by omega, h2⟩
theorem run_first {p : Nat → Bool} {n : Nat} {L : List Spn} (h : RunOk p n L) {s : Spn} (hs : s ∈ L) : p s.from_.toNat = true := by
  have hr := h.rng s hs
  exact ((h.cover s.from_.toNat).1 ⟨s, hs, by omega, by omega⟩).2
/-- What Read says of a key's runs: some run meets the days of the read. -/
def hitR (r : Read) (x : Dif) : Prop := x.key = r.key ∧ ∃ s ∈ x.days, max r.from_ s.from_ < min r.to_ s.to_
theorem alike_hit (l : List Fact) (r : Read) (b a : Int) : alikeM l [r] b a ↔ ¬ ∃ x ∈ changedM l b a, hitR r x := by
  have hrow : alikeM l [r] b a ↔ ∀ i : Nat, i < daysN r.from_ r.to_ → atM l r.key (lo0 r.from_ + i) b = atM l r.key (lo0 r.from_ + i) a := by
    have e := alike_points l r.key r.from_ r.to_ b a
    unfold pointsM at e
    unfold alikeM
    constructor
    · exact fun h => (pointsF_eq l r.key _ b a _).1 (e.2 (h r (.head _)))
    · intro h x hx
      rw [List.mem_singleton.1 hx]
      exact e.1 ((pointsF_eq l r.key _ b a _).2 h)
  have h1 := lo0_max r.from_
  have h2 := hi0_min r.to_
  have hd : daysN r.from_ r.to_ = (hi0 r.to_ - lo0 r.from_).toNat := rfl
  rw [hrow]
  constructor
  · rintro hall ⟨x, hx, hk, s, hs, hm⟩
    obtain ⟨k, hk1, hk2⟩ := List.mem_filterMap.1 hx
    unfold difM at hk2
    split at hk2
    · cases hk2
    · cases hk2
      simp only at hk hs
      subst hk
      have ho := runs_ok (difP l r.key b a) 1024
      have hr := ho.rng s hs
      obtain ⟨d, hdd⟩ : ∃ d : Nat, (d : Int) = max r.from_ s.from_ := ⟨(max r.from_ s.from_).toNat, by omega⟩
      have hc := (ho.cover d).1 ⟨s, hs, by omega, by omega⟩
      have hp := hc.2
      unfold difP at hp
      have hp := of_decide_eq_true hp
      have := hall (d - (lo0 r.from_).toNat) (by omega)
      rw [show lo0 r.from_ + ((d - (lo0 r.from_).toNat : Nat) : Int) = (d : Int) by omega] at this
      exact hp this
  · intro hno i hi
    refine Classical.byContradiction fun hne => hno ?_
    obtain ⟨d, hdd⟩ : ∃ d : Nat, (d : Int) = lo0 r.from_ + i := ⟨(lo0 r.from_ + i).toNat, by omega⟩
    rw [← hdd] at hne
    have ho := runs_ok (difP l r.key b a) 1024
    obtain ⟨s, hs, h3, h4⟩ := (ho.cover d).2 ⟨by omega, by unfold difP; exact decide_eq_true hne⟩
    have hkey : r.key ∈ keysR l := by
      refine (((keysR_spec l).2 r.key).2 ?_)
      refine Classical.byContradiction fun hn => hne ?_
      have hn : ∀ f ∈ l, f.key ≠ r.key := fun f hf he => hn ⟨f, hf, he⟩
      rw [at_nil _ _ hn, at_nil _ _ hn]
    refine ⟨⟨r.key, runsM (difP l r.key b a) 1024⟩, List.mem_filterMap.2 ⟨r.key, hkey, ?_⟩, rfl, s, hs, by omega⟩
    unfold difM
    rw [if_neg]
    intro he
    rw [he] at hs; cases hs
theorem opt_same {o1 o2 : Option Int} (h1 : o1.isSome = o2.isSome) (h2 : o1.getD 0 = o2.getD 0) : o1 = o2 := by
  cases o1 <;> cases o2 <;> simp_all
theorem law04_Read (l : List Fact) (r : Read) (b a : Int) (hl : l.length < 2 ^ 63) : CallP Try.prog 9 [.d (SL 8 (l.map Fact.d)), .d r.d, .d (I b), .d (I a)] (retD [.b true]) := by
  refine exPure_sound (E := envOf Try.prog tt Try.f9.ntmps) (envOf_ok ttok mixed) Try.func9 (by rfl) rfl rfl (Nat.le_of_ble_eq_true rfl) ?_
  by_cases hs : l.length ≤ 10
  · have c1 := facts_Changed l b a (by omega)
    have hhit := alike_hit l r b a
    have c2 := facts_Alike l [r] b a (by omega) (by simp)
    obtain ⟨n1, n2⟩ := changedM_len l b a
    repeat' ((conv => whnf); first | with_reducible refine Dec.t (show true = true from rfl) ?_ | with_reducible refine Dec.t (show false = false from rfl) ?_ | with_reducible refine Dec.f (show ¬ (true = false) by decide) ?_ | with_reducible refine Dec.f (show ¬ (false = true) by decide) ?_ | refine Dec.t (by omega) ?_ | refine Dec.f (by omega) ?_ | refine Dec.split (fun _ => ?_) (fun _ => ?_) | refine Wr.id (by omega) ?_ | refine Chk.mk (by first | omega | exact rfl | (simp only [List.length_map]; omega) | (simp [room]; done) | (simp [room]; omega) | (simp [dropL, room]; done) | (simp [dropL, room]; omega)) ?_ | refine Nam.mk (List.length_map _) ?_ | refine Prep.skip ?_ | refine Eith.l ?_ | refine chk_t (x := D.flat _) (by assumption) ?_ | refine br_mk (fun _ => ?_) (fun _ => ?_) | refine Nam.mk (List.length_map _) ?_ | refine ACall.of (law04_sane) ?_ | refine APCall.of (law04_sane) ?_ | refine ACall.of (c1) ?_ | refine APCall.of (c1) ?_ | fail)
    all_goals (conv => whnf)
    have hC : ∀ x ∈ changedM l b a, RunOk (difP l x.key b a) 1024 x.days := fun x hx => by
      obtain ⟨k, _, hk2⟩ := List.mem_filterMap.1 hx
      unfold difM at hk2
      split at hk2
      · cases hk2
      · cases hk2; exact runs_ok _ _
    generalize changedM l b a = C at c1 hhit n1 n2 hC
    refine ALoop.at (E := envOf Try.prog tt Try.f9.ntmps) (envOf_ok ttok mixed) (X := Nat × Bool) (fun x => [(11, .d (I x.1)), (10, .d (.b x.2))]) (fun _ => []) (fun x => x.1 ≤ C.length ∧ (x.2 = true ↔ ∃ y ∈ C.take x.1, hitR r y)) (fun x => C.length - x.1) (0, false) (by repeat (first | exact trivial | refine And.intro rfl ?_ | refine And.intro (congrArg (fun n => V.d (I n)) (wrap_nat _ (by omega))) ?_)) rfl
      ⟨Nat.zero_le _, iff_of_false (fun h => by cases h) (fun ⟨y, hy, _⟩ => by simp at hy)⟩ ?_
    rintro ⟨i, hit⟩ ⟨hi, hh⟩
    simp only at hi hh
    dsimp only
    by_cases hlt : i < C.length
    · obtain ⟨x, hx, _⟩ := drop_get (l := C) (i := i) hlt
      have hxd : (C.map Dif.d)[((i : Nat) : Int).toNat]? = some x.d := by rw [Int.toNat_natCast]; exact map_get hx
      have hxl := n2 x (List.mem_of_getElem? hx)
      have hxr := hC x (List.mem_of_getElem? hx)
      repeat' ((conv => whnf); first | with_reducible refine Dec.t (show true = true from rfl) ?_ | with_reducible refine Dec.t (show false = false from rfl) ?_ | with_reducible refine Dec.f (show ¬ (true = false) by decide) ?_ | with_reducible refine Dec.f (show ¬ (false = true) by decide) ?_ | refine Dec.t (by omega) ?_ | refine Dec.f (by omega) ?_ | refine Dec.split (fun _ => ?_) (fun _ => ?_) | refine Wr.id (by omega) ?_ | refine Chk.mk (by first | omega | exact rfl | (simp only [List.length_map]; omega) | (simp [room]; done) | (simp [room]; omega) | (simp [dropL, room]; done) | (simp [dropL, room]; omega)) ?_ | refine Nam.mk (List.length_map _) ?_ | refine Prep.skip ?_ | refine Eith.l ?_ | refine chk_t (x := D.flat _) (by assumption) ?_ | refine br_mk (fun _ => ?_) (fun _ => ?_) | refine Nam.mk (List.length_map _) ?_ | refine nthK_mk hxd ?_ | fail)
      all_goals (conv => whnf)
      refine ALoop.at (E := envOf Try.prog tt Try.f9.ntmps) (envOf_ok ttok mixed) (X := Nat × Bool) (fun x => [(12, .d (I x.1)), (10, .d (.b x.2))]) (fun _ => []) (fun z => z.1 ≤ x.days.length ∧ (z.2 = true ↔ (∃ y ∈ C.take i, hitR r y) ∨ (x.key = r.key ∧ ∃ s ∈ x.days.take z.1, max r.from_ s.from_ < min r.to_ s.to_))) (fun z => x.days.length - z.1) (0, hit) (by repeat (first | exact trivial | refine And.intro rfl ?_ | refine And.intro (congrArg (fun n => V.d (I n)) (wrap_nat _ (by omega))) ?_)) rfl
        ⟨Nat.zero_le _, by simp only; rw [hh]; exact ⟨.inl, fun h => h.elim id fun h => by obtain ⟨_, s, hs, _⟩ := h; simp at hs⟩⟩ ?_
      rintro ⟨k, hit2⟩ ⟨hk, hh2⟩
      simp only at hk hh2
      by_cases hlk : k < x.days.length
      · obtain ⟨s, hsx, _⟩ := drop_get (l := x.days) (i := k) hlk
        have hsd : (x.days.map Spn.d)[((k : Nat) : Int).toNat]? = some s.d := by rw [Int.toNat_natCast]; exact map_get hsx
        have hrg := hxr.rng s (List.mem_of_getElem? hsx)
        have hdf := run_first hxr (List.mem_of_getElem? hsx)
        unfold difP at hdf
        rw [Int.toNat_of_nonneg hrg.1] at hdf
        have hdf := of_decide_eq_true hdf
        have d1 := facts_At l x.key s.from_ b (by omega)
        have d2 := facts_At l x.key s.from_ a (by omega)
        obtain ⟨q, hpd, hps⟩ : ∃ q : Spn, (k = 0 ∨ (x.days.map Spn.d)[(((k : Nat) : Int) - 1).toNat]? = some q.d) ∧ (k = 0 ∨ q.to_ < s.from_) := by
          cases k with
          | zero => exact ⟨s, .inl rfl, .inl rfl⟩
          | succ j =>
            obtain ⟨q, hq, _⟩ := drop_get (l := x.days) (i := j) (by omega)
            refine ⟨q, .inr ?_, .inr ?_⟩
            · rw [show (((j + 1 : Nat) : Int) - 1).toNat = j by omega]; exact map_get hq
            · have hl1 := (List.getElem?_eq_some_iff.1 hq)
              have hl2 := (List.getElem?_eq_some_iff.1 hsx)
              have := List.pairwise_iff_getElem.1 hxr.apart j (j + 1) hl1.1 hl2.1 (by omega)
              rw [hl1.2, hl2.2] at this; exact this
        have htk : x.days.take (k + 1) = x.days.take k ++ [s] := by rw [List.take_add_one, hsx]; rfl
        have hY : x.key = r.key → max r.from_ s.from_ < min r.to_ s.to_ → (true = true ↔ (∃ y ∈ C.take i, hitR r y) ∨ (x.key = r.key ∧ ∃ s ∈ x.days.take (k + 1), max r.from_ s.from_ < min r.to_ s.to_)) := fun h1 h2 =>
          iff_of_true rfl (.inr ⟨h1, s, by rw [htk]; simp, h2⟩)
        have hN : ¬ (x.key = r.key ∧ max r.from_ s.from_ < min r.to_ s.to_) → (hit2 = true ↔ (∃ y ∈ C.take i, hitR r y) ∨ (x.key = r.key ∧ ∃ s ∈ x.days.take (k + 1), max r.from_ s.from_ < min r.to_ s.to_)) := fun hn => by
          rw [hh2]
          constructor
          · rintro (h | ⟨h1, t, ht, h2⟩)
            · exact .inl h
            · exact .inr ⟨h1, t, by rw [htk]; exact List.mem_append_left _ ht, h2⟩
          · rintro (h | ⟨h1, t, ht, h2⟩)
            · exact .inl h
            · rw [htk] at ht
              rcases List.mem_append.1 ht with ht | ht
              · exact .inr ⟨h1, t, ht, h2⟩
              · rw [List.mem_singleton.1 ht] at h2; exact absurd ⟨h1, h2⟩ hn
        dsimp only
        clear hC hhit c1 n2 hxr c2
        generalize atM l x.key s.from_ b = o1 at d1 hdf
        generalize atM l x.key s.from_ a = o2 at d2 hdf
        by_cases hk0 : k = 0
        · clear hpd hps
          subst hk0
          repeat' ((conv => whnf); first | with_reducible refine Dec.t (show true = true from rfl) ?_ | with_reducible refine Dec.t (show false = false from rfl) ?_ | with_reducible refine Dec.f (show ¬ (true = false) by decide) ?_ | with_reducible refine Dec.f (show ¬ (false = true) by decide) ?_ | refine Dec.t (by omega) ?_ | refine Dec.f (by omega) ?_ | refine Dec.split (fun _ => ?_) (fun _ => ?_) | refine Wr.id (by omega) ?_ | refine Chk.mk (by first | omega | exact rfl | (simp only [List.length_map]; omega) | (simp [room]; done) | (simp [room]; omega) | (simp [dropL, room]; done) | (simp [dropL, room]; omega)) ?_ | refine Nam.mk (List.length_map _) ?_ | refine Prep.skip ?_ | refine Eith.l ?_ | refine chk_t (x := D.flat _) (by assumption) ?_ | refine br_mk (fun _ => ?_) (fun _ => ?_) | refine Nam.mk (List.length_map _) ?_ | refine nthK_mk hxd ?_ | refine nthK_mk hsd ?_ | refine ACall.of (d1) ?_ | refine APCall.of (d1) ?_ | refine ACall.of (d2) ?_ | refine APCall.of (d2) ?_ | refine APCall.of d1 ?_ | refine APCall.of d2 ?_ | refine Nam.dec (eqKey x.key r.key) (fun hkk => ?_) (fun hkk => ?_) | fail)
          all_goals (conv => whnf)
          all_goals first
            | (exfalso; exact hdf (opt_same (by assumption) (by assumption)))
            | exact ⟨(0 + 1, hit2), Wm.end (by repeat (first | exact trivial | refine And.intro rfl ?_ | refine And.intro (congrArg (fun n => V.d (I n)) (wrap_nat _ (by omega))) ?_)) rfl rfl rfl, ⟨by simp only; omega, hN fun h => hkk h.1⟩, by simp only; omega⟩
            | exact ⟨(0 + 1, true), Wm.end (by repeat (first | exact trivial | refine And.intro rfl ?_ | refine And.intro (congrArg (fun n => V.d (I n)) (wrap_nat _ (by omega))) ?_)) rfl rfl rfl, ⟨by simp only; omega, hY hkk (by omega)⟩, by simp only; omega⟩
            | exact ⟨(0 + 1, hit2), Wm.end (by repeat (first | exact trivial | refine And.intro rfl ?_ | refine And.intro (congrArg (fun n => V.d (I n)) (wrap_nat _ (by omega))) ?_)) rfl rfl rfl, ⟨by simp only; omega, hN fun h => by have := h.2; omega⟩, by simp only; omega⟩
            | (exfalso; omega)
            | trace_state
        · have hpd := hpd.resolve_left hk0
          have hps := hps.resolve_left hk0
          repeat' ((conv => whnf); first | with_reducible refine Dec.t (show true = true from rfl) ?_ | with_reducible refine Dec.t (show false = false from rfl) ?_ | with_reducible refine Dec.f (show ¬ (true = false) by decide) ?_ | with_reducible refine Dec.f (show ¬ (false = true) by decide) ?_ | refine Dec.t (by omega) ?_ | refine Dec.f (by omega) ?_ | refine Dec.split (fun _ => ?_) (fun _ => ?_) | refine Wr.id (by omega) ?_ | refine Chk.mk (by first | omega | exact rfl | (simp only [List.length_map]; omega) | (simp [room]; done) | (simp [room]; omega) | (simp [dropL, room]; done) | (simp [dropL, room]; omega)) ?_ | refine Nam.mk (List.length_map _) ?_ | refine Prep.skip ?_ | refine Eith.l ?_ | refine chk_t (x := D.flat _) (by assumption) ?_ | refine br_mk (fun _ => ?_) (fun _ => ?_) | refine Nam.mk (List.length_map _) ?_ | refine nthK_mk hxd ?_ | refine nthK_mk hsd ?_ | refine nthK_mk hpd ?_ | refine ACall.of (d1) ?_ | refine APCall.of (d1) ?_ | refine ACall.of (d2) ?_ | refine APCall.of (d2) ?_ | refine APCall.of d1 ?_ | refine APCall.of d2 ?_ | refine Nam.dec (eqKey x.key r.key) (fun hkk => ?_) (fun hkk => ?_) | fail)
          all_goals (conv => whnf)
          all_goals first
            | (exfalso; exact hdf (opt_same (by assumption) (by assumption)))
            | exact ⟨(k + 1, hit2), Wm.end (by repeat (first | exact trivial | refine And.intro rfl ?_ | refine And.intro (congrArg (fun n => V.d (I n)) (wrap_nat _ (by omega))) ?_)) rfl rfl rfl, ⟨by simp only; omega, hN fun h => hkk h.1⟩, by simp only; omega⟩
            | exact ⟨(k + 1, true), Wm.end (by repeat (first | exact trivial | refine And.intro rfl ?_ | refine And.intro (congrArg (fun n => V.d (I n)) (wrap_nat _ (by omega))) ?_)) rfl rfl rfl, ⟨by simp only; omega, hY hkk (by omega)⟩, by simp only; omega⟩
            | exact ⟨(k + 1, hit2), Wm.end (by repeat (first | exact trivial | refine And.intro rfl ?_ | refine And.intro (congrArg (fun n => V.d (I n)) (wrap_nat _ (by omega))) ?_)) rfl rfl rfl, ⟨by simp only; omega, hN fun h => by have := h.2; omega⟩, by simp only; omega⟩
            | (exfalso; omega)
            | trace_state
      · have : k = x.days.length := by omega
        subst this
        rw [List.take_length] at hh2
        have hnext : hit2 = true ↔ ∃ y ∈ C.take (i + 1), hitR r y := by
          rw [hh2, List.take_add_one, hx]
          constructor
          · rintro (⟨y, hy, h⟩ | h)
            · exact ⟨y, List.mem_append_left _ hy, h⟩
            · exact ⟨x, List.mem_append_right _ (.head _), h⟩
          · rintro ⟨y, hy, h⟩
            rcases List.mem_append.1 hy with hy | hy
            · exact .inl ⟨y, hy, h⟩
            · rw [show y = x by simpa using hy] at h; exact .inr h
        repeat' ((conv => whnf); first | with_reducible refine Dec.t (show true = true from rfl) ?_ | with_reducible refine Dec.t (show false = false from rfl) ?_ | with_reducible refine Dec.f (show ¬ (true = false) by decide) ?_ | with_reducible refine Dec.f (show ¬ (false = true) by decide) ?_ | refine Dec.t (by omega) ?_ | refine Dec.f (by omega) ?_ | refine Dec.split (fun _ => ?_) (fun _ => ?_) | refine Wr.id (by omega) ?_ | refine Chk.mk (by first | omega | exact rfl | (simp only [List.length_map]; omega) | (simp [room]; done) | (simp [room]; omega) | (simp [dropL, room]; done) | (simp [dropL, room]; omega)) ?_ | refine Nam.mk (List.length_map _) ?_ | refine Prep.skip ?_ | refine Eith.l ?_ | refine chk_t (x := D.flat _) (by assumption) ?_ | refine br_mk (fun _ => ?_) (fun _ => ?_) | refine Nam.mk (List.length_map _) ?_ | refine nthK_mk hxd ?_ | fail)
        all_goals (conv => whnf)
        exact ⟨(i + 1, hit2), Wm.end (by repeat (first | exact trivial | refine And.intro rfl ?_ | refine And.intro (congrArg (fun n => V.d (I n)) (wrap_nat _ (by omega))) ?_)) rfl rfl rfl, ⟨by simp only; omega, hnext⟩, by simp only; omega⟩
    · have : i = C.length := by omega
      subst this
      rw [List.take_length] at hh
      have hA : decide (alikeM l [r] b a) = !hit := by
        rw [Bool.eq_iff_iff, decide_eq_true_iff, hhit, ← hh]; simp
      rw [hA] at c2
      clear hhit hh hC n2
      cases hit
      all_goals
        repeat' ((conv => whnf); first | with_reducible refine Dec.t (show true = true from rfl) ?_ | with_reducible refine Dec.t (show false = false from rfl) ?_ | with_reducible refine Dec.f (show ¬ (true = false) by decide) ?_ | with_reducible refine Dec.f (show ¬ (false = true) by decide) ?_ | refine Dec.t (by omega) ?_ | refine Dec.f (by omega) ?_ | refine Dec.split (fun _ => ?_) (fun _ => ?_) | refine Wr.id (by omega) ?_ | refine Chk.mk (by first | omega | exact rfl | (simp only [List.length_map]; omega) | (simp [room]; done) | (simp [room]; omega) | (simp [dropL, room]; done) | (simp [dropL, room]; omega)) ?_ | refine Nam.mk (List.length_map _) ?_ | refine Prep.skip ?_ | refine Eith.l ?_ | refine chk_t (x := D.flat _) (by assumption) ?_ | refine br_mk (fun _ => ?_) (fun _ => ?_) | refine Nam.mk (List.length_map _) ?_ | refine ACall.of (c2) ?_ | refine APCall.of (c2) ?_ | refine APCall.of c2 ?_ | (refine ACall.le ?_ c2 ?_; exact ⟨VLe.refl _, VLe.d (DLe.full _ _ _), VLe.refl _, VLe.refl _, rfl⟩) | fail)
      all_goals (conv => whnf)
      all_goals first | exact DLe.refl _ | (exfalso; rename_i hh; exact hh rfl)
  · repeat' ((conv => whnf); first | with_reducible refine Dec.t (show true = true from rfl) ?_ | with_reducible refine Dec.t (show false = false from rfl) ?_ | with_reducible refine Dec.f (show ¬ (true = false) by decide) ?_ | with_reducible refine Dec.f (show ¬ (false = true) by decide) ?_ | refine Dec.t (by omega) ?_ | refine Dec.f (by omega) ?_ | refine Dec.split (fun _ => ?_) (fun _ => ?_) | refine Wr.id (by omega) ?_ | refine Chk.mk (by first | omega | exact rfl | (simp only [List.length_map]; omega) | (simp [room]; done) | (simp [room]; omega) | (simp [dropL, room]; done) | (simp [dropL, room]; omega)) ?_ | refine Nam.mk (List.length_map _) ?_ | refine Prep.skip ?_ | refine Eith.l ?_ | refine chk_t (x := D.flat _) (by assumption) ?_ | refine br_mk (fun _ => ?_) (fun _ => ?_) | refine Nam.mk (List.length_map _) ?_ | refine ACall.of (law04_sane) ?_ | refine APCall.of (law04_sane) ?_ | fail)
    all_goals (conv => whnf)
    all_goals first | exact DLe.refl _ | (exfalso; omega)
end Go.PM

