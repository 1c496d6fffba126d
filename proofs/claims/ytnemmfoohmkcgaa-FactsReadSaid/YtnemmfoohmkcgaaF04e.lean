/- Package facts: different; the reference's SameDiffers, Changed. -/
import Derived.Test.YtnemmfoohmkcgaaF04d
namespace Go.PM
open Go.Proofs
set_option maxRecDepth 10000
set_option maxHeartbeats 1000000

structure Spn where
  from_ : Int
  to_ : Int
  deriving DecidableEq
def Spn.d (s : Spn) : D := .agg [I s.from_, I s.to_]
structure Dif where
  key : Key
  days : List Spn
  deriving DecidableEq
def Dif.d (x : Dif) : D := .agg [I x.key.kind, I x.key.subj, I x.key.obj, SL 2 (x.days.map Spn.d)]

/-- A day is joined to runs of days. -/
def extR (l : List Spn) (n : Nat) : List Spn := match l.getLast? with
  | some s => if s.to_ = n then l.dropLast ++ [⟨s.from_, (n : Int) + 1⟩] else l ++ [⟨n, (n : Int) + 1⟩]
  | none => l ++ [⟨n, (n : Int) + 1⟩]
/-- The longest runs of days, of the first n ones. -/
def runsM (p : Nat → Bool) : Nat → List Spn
  | 0 => []
  | n + 1 => if p n then extR (runsM p n) n else runsM p n

theorem eqSpn (k k' : Spn) : eqD tt 4 26 k.d.cells k'.d.cells = decide (k = k') := by
  rw [show eqD tt 4 26 k.d.cells k'.d.cells = (k.from_ == k'.from_ && (k.to_ == k'.to_ && true)) from rfl]
  rw [Bool.eq_iff_iff]
  cases k; cases k'
  simp

theorem extR_open {L : List Spn} {f : Int} {n : Nat} : extR (L ++ [⟨f, n⟩]) n = L ++ [⟨f, (n : Int) + 1⟩] := by
  unfold extR
  rw [List.getLast?_concat]
  simp
theorem extR_new {L : List Spn} {n : Nat} (h : ∀ s ∈ L, s.to_ < n) : extR L n = L ++ [⟨n, (n : Int) + 1⟩] := by
  unfold extR
  cases hl : L.getLast? with
  | none => rfl
  | some s =>
    have := h s (List.mem_of_getLast? hl)
    dsimp only
    rw [if_neg (by omega)]
theorem extR_len (L : List Spn) (n : Nat) : (extR L n).length ≤ L.length + 1 := by
  unfold extR
  split
  · split <;> simp
  · simp
theorem runsM_len (p : Nat → Bool) : ∀ n, (runsM p n).length ≤ n
  | 0 => Nat.le_refl _
  | n + 1 => by
    rw [runsM]
    have := runsM_len p n
    have := extR_len (runsM p n) n
    split <;> omega
structure XR where
  i : Nat
  fr : Nat
  vr : Nat
  ls : List Spn
def openR (fr i : Nat) : List Spn := if fr < i then [⟨fr, i⟩] else []
theorem facts_different (a b : List Int) (hl : a.length < 2 ^ 20) (hb : a.length ≤ b.length) : CallP Try.prog 42 [.d (SL 1 (a.map I)), .d (SL 1 (b.map I))] (retD [SL 2 ((runsM (fun i => decide (¬ a[i]? = b[i]?)) a.length).map Spn.d)]) := by
  refine exPure_sound (E := envOf Try.prog tt Try.f42.ntmps) (envOf_ok ttok mixed) Try.func42 (by rfl) rfl rfl (Nat.le_of_ble_eq_true rfl) ?_
  obtain ⟨p, hp⟩ : ∃ p : Nat → Bool, p = fun i => decide (¬ a[i]? = b[i]?) := ⟨_, rfl⟩
  rw [← hp]
  repeat' ((conv => whnf); first | with_reducible refine Dec.t (show true = true from rfl) ?_ | with_reducible refine Dec.t (show false = false from rfl) ?_ | with_reducible refine Dec.f (show ¬ (true = false) by decide) ?_ | with_reducible refine Dec.f (show ¬ (false = true) by decide) ?_ | refine Dec.t (by omega) ?_ | refine Dec.f (by omega) ?_ | refine Dec.split (fun _ => ?_) (fun _ => ?_) | refine Wr.id (by omega) ?_ | refine Chk.mk (by first | omega | exact rfl | (simp only [List.length_map]; omega) | (simp [room]; done) | (simp [room]; omega) | (simp [dropL, room]; done) | (simp [dropL, room]; omega)) ?_ | refine Nam.mk (List.length_map _) ?_ | refine Prep.skip ?_ | refine Eith.l ?_ | refine chk_t (x := D.flat _) (by assumption) ?_ | refine br_mk (fun _ => ?_) (fun _ => ?_) | fail)
  all_goals (conv => whnf)
  refine ALoop.virt 4 0 2 false (by decide) rfl ?_
  conv => whnf
  refine ALoop.at (E := envOf Try.prog tt Try.f42.ntmps) (envOf_ok ttok mixed) (X := XR) (fun x => [(9, .d (I x.i)), (5, .d (I x.fr)), (4, .sref 0 x.vr 0 x.ls.length false)]) (fun x => [(0, .row x.vr 2 false (x.ls.map Spn.d))])
    (fun x => x.i ≤ a.length ∧ x.fr ≤ x.i ∧ x.ls.length ≤ x.i ∧ (∀ s ∈ x.ls, s.to_ < x.i) ∧ runsM p x.i = x.ls ++ openR x.fr x.i) (fun x => a.length - x.i) ⟨0, 0, 0, []⟩ (by repeat (first | exact trivial | refine And.intro rfl ?_ | refine And.intro (congrArg (fun n => V.d (I n)) (wrap_nat _ (by omega))) ?_)) rfl ⟨Nat.zero_le _, Nat.zero_le _, Nat.zero_le _, by simp, rfl⟩ ?_
  rintro ⟨i, fr, vr, ls⟩ ⟨hi, hf, hlen, hto, hm⟩
  simp only at hi hf hlen hto hm
  dsimp only
  by_cases hlt : i < a.length
  · obtain ⟨x, hx, _⟩ := drop_get hlt
    obtain ⟨y, hy, _⟩ := drop_get (l := b) (i := i) (by omega)
    have hpi : p i = decide (¬ x = y) := by rw [hp]; simp [hx, hy]
    have hs : runsM p (i + 1) = if p i then extR (runsM p i) i else runsM p i := rfl
    by_cases hxy : x = y
    · rw [hpi, hxy, if_neg (by simp), hm] at hs
      by_cases hfi : fr < i
      · repeat' ((conv => whnf); first | with_reducible refine Dec.t (show true = true from rfl) ?_ | with_reducible refine Dec.t (show false = false from rfl) ?_ | with_reducible refine Dec.f (show ¬ (true = false) by decide) ?_ | with_reducible refine Dec.f (show ¬ (false = true) by decide) ?_ | refine Dec.t (by omega) ?_ | refine Dec.f (by omega) ?_ | refine Dec.split (fun _ => ?_) (fun _ => ?_) | refine Wr.id (by omega) ?_ | refine Chk.mk (by first | omega | exact rfl | (simp only [List.length_map]; omega) | (simp [room]; done) | (simp [room]; omega) | (simp [dropL, room]; done) | (simp [dropL, room]; omega)) ?_ | refine Nam.mk (List.length_map _) ?_ | refine Prep.skip ?_ | refine Eith.l ?_ | refine chk_t (x := D.flat _) (by assumption) ?_ | refine br_mk (fun _ => ?_) (fun _ => ?_) | refine nthK_mk (map_get hx) ?_ | refine nthK_mk (map_get hy) ?_ | refine Dec.t hxy ?_ | refine Chk.mk ⟨rfl, by simp, by simp [room]; omega⟩ ?_ | fail)
        all_goals (conv => whnf)
        refine ⟨⟨i + 1, i + 1, vr + 1, ls ++ [⟨fr, i⟩]⟩, Wm.end ⟨congrArg (fun n => V.d (I n)) (by dsimp only; omega), congrArg (fun n => V.d (I n)) (by dsimp only; omega), congrArg (fun n => V.sref 0 (vr + 1) 0 n false) (by simp), (by repeat (first | exact trivial | refine And.intro rfl ?_ | refine And.intro (congrArg (fun n => V.d (I n)) (wrap_nat _ (by omega))) ?_))⟩ (by simp [Spn.d, hset, over, dropL]) rfl rfl, ⟨hlt, Nat.le_refl _, by simp; omega, ?_, ?_⟩, by simp only; omega⟩
        · intro s hs2
          simp only [List.mem_append, List.mem_singleton] at hs2
          rcases hs2 with h | rfl
          · have := hto s h; simp only; omega
          · simp only; omega
        · simp only
          rw [hs]
          unfold openR
          rw [if_pos hfi, if_neg (by omega), List.append_nil]
      · repeat' ((conv => whnf); first | with_reducible refine Dec.t (show true = true from rfl) ?_ | with_reducible refine Dec.t (show false = false from rfl) ?_ | with_reducible refine Dec.f (show ¬ (true = false) by decide) ?_ | with_reducible refine Dec.f (show ¬ (false = true) by decide) ?_ | refine Dec.t (by omega) ?_ | refine Dec.f (by omega) ?_ | refine Dec.split (fun _ => ?_) (fun _ => ?_) | refine Wr.id (by omega) ?_ | refine Chk.mk (by first | omega | exact rfl | (simp only [List.length_map]; omega) | (simp [room]; done) | (simp [room]; omega) | (simp [dropL, room]; done) | (simp [dropL, room]; omega)) ?_ | refine Nam.mk (List.length_map _) ?_ | refine Prep.skip ?_ | refine Eith.l ?_ | refine chk_t (x := D.flat _) (by assumption) ?_ | refine br_mk (fun _ => ?_) (fun _ => ?_) | refine nthK_mk (map_get hx) ?_ | refine nthK_mk (map_get hy) ?_ | refine Dec.t hxy ?_ | fail)
        all_goals (conv => whnf)
        refine ⟨⟨i + 1, i + 1, vr, ls⟩, Wm.end ⟨congrArg (fun n => V.d (I n)) (by dsimp only; omega), congrArg (fun n => V.d (I n)) (by dsimp only; omega), (by repeat (first | exact trivial | refine And.intro rfl ?_ | refine And.intro (congrArg (fun n => V.d (I n)) (wrap_nat _ (by omega))) ?_))⟩ rfl rfl rfl, ⟨hlt, Nat.le_refl _, by simp only; omega, ?_, ?_⟩, by simp only; omega⟩
        · intro s hs2
          have := hto s hs2; simp only; omega
        · simp only
          rw [hs]
          unfold openR
          rw [if_neg hfi, if_neg (by omega)]
    · rw [hpi, if_pos (by simp [hxy]), hm] at hs
      repeat' ((conv => whnf); first | with_reducible refine Dec.t (show true = true from rfl) ?_ | with_reducible refine Dec.t (show false = false from rfl) ?_ | with_reducible refine Dec.f (show ¬ (true = false) by decide) ?_ | with_reducible refine Dec.f (show ¬ (false = true) by decide) ?_ | refine Dec.t (by omega) ?_ | refine Dec.f (by omega) ?_ | refine Dec.split (fun _ => ?_) (fun _ => ?_) | refine Wr.id (by omega) ?_ | refine Chk.mk (by first | omega | exact rfl | (simp only [List.length_map]; omega) | (simp [room]; done) | (simp [room]; omega) | (simp [dropL, room]; done) | (simp [dropL, room]; omega)) ?_ | refine Nam.mk (List.length_map _) ?_ | refine Prep.skip ?_ | refine Eith.l ?_ | refine chk_t (x := D.flat _) (by assumption) ?_ | refine br_mk (fun _ => ?_) (fun _ => ?_) | refine nthK_mk (map_get hx) ?_ | refine nthK_mk (map_get hy) ?_ | refine Dec.f hxy ?_ | fail)
      all_goals (conv => whnf)
      refine ⟨⟨i + 1, fr, vr, ls⟩, Wm.end ⟨congrArg (fun n => V.d (I n)) (by dsimp only; omega), (by repeat (first | exact trivial | refine And.intro rfl ?_ | refine And.intro (congrArg (fun n => V.d (I n)) (wrap_nat _ (by omega))) ?_))⟩ rfl rfl rfl, ⟨hlt, by simp only; omega, by simp only; omega, ?_, ?_⟩, by simp only; omega⟩
      · intro s hs2
        have := hto s hs2; simp only; omega
      · simp only
        rw [hs]
        unfold openR
        by_cases hfi : fr < i
        · rw [if_pos hfi, if_pos (by omega), extR_open]; simp
        · have : fr = i := by omega
          subst this
          rw [if_neg hfi, if_pos (by omega), List.append_nil, extR_new hto]; simp
  · have : i = a.length := by omega
    subst this
    unfold openR at hm
    by_cases hfi : fr < a.length
    · rw [if_pos hfi] at hm
      rw [hm]
      repeat' ((conv => whnf); first | with_reducible refine Dec.t (show true = true from rfl) ?_ | with_reducible refine Dec.t (show false = false from rfl) ?_ | with_reducible refine Dec.f (show ¬ (true = false) by decide) ?_ | with_reducible refine Dec.f (show ¬ (false = true) by decide) ?_ | refine Dec.t (by omega) ?_ | refine Dec.f (by omega) ?_ | refine Dec.split (fun _ => ?_) (fun _ => ?_) | refine Wr.id (by omega) ?_ | refine Chk.mk (by first | omega | exact rfl | (simp only [List.length_map]; omega) | (simp [room]; done) | (simp [room]; omega) | (simp [dropL, room]; done) | (simp [dropL, room]; omega)) ?_ | refine Nam.mk (List.length_map _) ?_ | refine Prep.skip ?_ | refine Eith.l ?_ | refine chk_t (x := D.flat _) (by assumption) ?_ | refine br_mk (fun _ => ?_) (fun _ => ?_) | refine Chk.mk ⟨rfl, by simp, by simp [room]; omega⟩ ?_ | refine Nam.mk (y := List.map Spn.d (ls ++ [(⟨(fr : Int), (a.length : Int)⟩ : Spn)])) ((whole (by simp [dropL])).trans (by simp [Spn.d, dropL])) ?_ | fail)
      all_goals (conv => whnf)
      all_goals exact (by repeat (first | exact trivial | exact rfl | exact DLe.refl _ | exact DLe.full _ _ _ | exact DLe.nil _ _ _ | exact VLe.refl _ | refine And.intro ?_ ?_ | refine VLe.d ?_ | refine DLe.agg ?_))
    · rw [if_neg hfi, List.append_nil] at hm
      rw [hm]
      repeat' ((conv => whnf); first | with_reducible refine Dec.t (show true = true from rfl) ?_ | with_reducible refine Dec.t (show false = false from rfl) ?_ | with_reducible refine Dec.f (show ¬ (true = false) by decide) ?_ | with_reducible refine Dec.f (show ¬ (false = true) by decide) ?_ | refine Dec.t (by omega) ?_ | refine Dec.f (by omega) ?_ | refine Dec.split (fun _ => ?_) (fun _ => ?_) | refine Wr.id (by omega) ?_ | refine Chk.mk (by first | omega | exact rfl | (simp only [List.length_map]; omega) | (simp [room]; done) | (simp [room]; omega) | (simp [dropL, room]; done) | (simp [dropL, room]; omega)) ?_ | refine Nam.mk (List.length_map _) ?_ | refine Prep.skip ?_ | refine Eith.l ?_ | refine chk_t (x := D.flat _) (by assumption) ?_ | refine br_mk (fun _ => ?_) (fun _ => ?_) | refine Nam.mk (y := ls.map Spn.d) (whole (by simp)) ?_ | fail)
      all_goals (conv => whnf)
      all_goals exact (by repeat (first | exact trivial | exact rfl | exact DLe.refl _ | exact DLe.full _ _ _ | exact DLe.nil _ _ _ | exact VLe.refl _ | refine And.intro ?_ ?_ | refine VLe.d ?_ | refine DLe.agg ?_))

def difP (l : List Fact) (k : Key) (b a : Int) (i : Nat) : Bool := decide (¬ atM l k i b = atM l k i a)
def difM (l : List Fact) (b a : Int) (k : Key) : Option Dif := if runsM (difP l k b a) 1024 = [] then none else some ⟨k, runsM (difP l k b a) 1024⟩
def changedM (l : List Fact) (b a : Int) : List Dif := (keysR l).filterMap (difM l b a)
theorem keysR_len (l : List Fact) : (keysR l).length ≤ l.length := by
  have key : ∀ (l : List Fact) (out : List Key), (l.foldl (fun out f => insK f.key out) out).length ≤ out.length + l.length := by
    intro l
    induction l with
    | nil => intro out; exact Nat.le_refl _
    | cons f l ih =>
      intro out
      have := insK_len f.key out
      have := ih (insK f.key out)
      simp only [List.foldl_cons, List.length_cons]; omega
  have := key l []
  simpa [keysR] using this
structure XC where
  i : Nat
  vr : Nat
  lr : Nat
  dp : List D
structure XS where
  i : Nat
  vr : Nat
  lr : Nat
  ls : List Spn
theorem ref04_Changed (l : List Fact) (b a : Int) (hl : l.length < 2 ^ 20) : CallP Try.prog 25 [.d (SL 8 (l.map Fact.d)), .d (I b), .d (I a)] (retD [SL 4 ((changedM l b a).map Dif.d)]) := by
  refine exPure_sound (E := envOf Try.prog tt Try.f25.ntmps) (envOf_ok ttok mixed) Try.func25 (by rfl) rfl rfl (Nat.le_of_ble_eq_true rfl) ?_
  repeat' ((conv => whnf); first | with_reducible refine Dec.t (show true = true from rfl) ?_ | with_reducible refine Dec.t (show false = false from rfl) ?_ | with_reducible refine Dec.f (show ¬ (true = false) by decide) ?_ | with_reducible refine Dec.f (show ¬ (false = true) by decide) ?_ | refine Dec.t (by omega) ?_ | refine Dec.f (by omega) ?_ | refine Dec.split (fun _ => ?_) (fun _ => ?_) | refine Wr.id (by omega) ?_ | refine Chk.mk (by first | omega | exact rfl | (simp only [List.length_map]; omega) | (simp [room]; done) | (simp [room]; omega) | (simp [dropL, room]; done) | (simp [dropL, room]; omega)) ?_ | refine Nam.mk (List.length_map _) ?_ | refine Prep.skip ?_ | refine Eith.l ?_ | refine chk_t (x := D.flat _) (by assumption) ?_ | refine br_mk (fun _ => ?_) (fun _ => ?_) | refine ACall.of (ref04_Keys l hl) ?_ | refine APCall.of (ref04_Keys l hl) ?_ | fail)
  all_goals (conv => whnf)
  have hkl := keysR_len l
  unfold changedM
  generalize keysR l = ks at hkl ⊢
  refine ALoop.virt 7 4 4 false (by decide) rfl ?_
  conv => whnf
  refine ALoop.at (E := envOf Try.prog tt Try.f25.ntmps) (envOf_ok ttok mixed) (X := XC) (fun x => [(9, .d (I x.i)), (7, .sref 0 x.vr 0 x.lr false)]) (fun x => [(0, .row x.vr 4 false x.dp)])
    (fun x => x.i ≤ ks.length ∧ x.dp = ((ks.take x.i).filterMap (difM l b a)).map Dif.d ∧ x.lr = x.dp.length ∧ x.lr ≤ x.i) (fun x => ks.length - x.i) ⟨0, 0, 0, []⟩ (by repeat (first | exact trivial | refine And.intro rfl ?_ | refine And.intro (congrArg (fun n => V.d (I n)) (wrap_nat _ (by omega))) ?_)) rfl ⟨Nat.zero_le _, rfl, rfl, Nat.le_refl _⟩ ?_
  rintro ⟨i, vr, lr, dp⟩ ⟨hi, g1, g2, g3⟩
  simp only at hi g1 g2 g3
  dsimp only
  by_cases hlt : i < ks.length
  · obtain ⟨k, hx, _⟩ := drop_get hlt
    repeat' ((conv => whnf); first | with_reducible refine Dec.t (show true = true from rfl) ?_ | with_reducible refine Dec.t (show false = false from rfl) ?_ | with_reducible refine Dec.f (show ¬ (true = false) by decide) ?_ | with_reducible refine Dec.f (show ¬ (false = true) by decide) ?_ | refine Dec.t (by omega) ?_ | refine Dec.f (by omega) ?_ | refine Dec.split (fun _ => ?_) (fun _ => ?_) | refine Wr.id (by omega) ?_ | refine Chk.mk (by first | omega | exact rfl | (simp only [List.length_map]; omega) | (simp [room]; done) | (simp [room]; omega) | (simp [dropL, room]; done) | (simp [dropL, room]; omega)) ?_ | refine Nam.mk (List.length_map _) ?_ | refine Prep.skip ?_ | refine Eith.l ?_ | refine chk_t (x := D.flat _) (by assumption) ?_ | refine br_mk (fun _ => ?_) (fun _ => ?_) | fail)
    all_goals (conv => whnf)
    refine ALoop.virt 10 2 2 false (by decide) rfl ?_
    conv => whnf
    refine ALoop.at (E := envOf Try.prog tt Try.f25.ntmps) (envOf_ok ttok mixed) (X := XS) (fun x => [(11, .d (I x.i)), (10, .sref 1 x.vr 0 x.lr false)]) (fun x => [(1, .row x.vr 2 false (x.ls.map Spn.d))])
      (fun x => x.i ≤ 1024 ∧ x.lr = x.ls.length ∧ x.ls = runsM (difP l k b a) x.i) (fun x => 1024 - x.i) ⟨0, 0, 0, []⟩ (by repeat (first | exact trivial | refine And.intro rfl ?_ | refine And.intro (congrArg (fun n => V.d (I n)) (wrap_nat _ (by omega))) ?_)) rfl ⟨Nat.zero_le _, rfl, rfl⟩ ?_
    rintro ⟨day, v2, l2, ls⟩ ⟨hd, hl2, hm⟩
    simp only at hd hm hl2
    dsimp only
    have hlen := runsM_len (difP l k b a) day
    rw [← hm, ← hl2] at hlen
    by_cases hlt2 : day < 1024
    · have hD := ref04_differs l k day b a (by omega)
      have hs : runsM (difP l k b a) (day + 1) = if difP l k b a day then extR ls day else ls := by rw [hm]; rfl
      by_cases hp : ¬ atM l k day b = atM l k day a
      · rw [decide_eq_true hp] at hD
        rw [show difP l k b a day = true from decide_eq_true hp, if_pos rfl] at hs
        have hro : l2 + 1 ≤ room := by simp [room]; omega
        rcases List.eq_nil_or_concat ls with hn | ⟨L, s, hn⟩
        · subst hn
          have : l2 = 0 := hl2
          subst this
          repeat' ((conv => whnf); first | with_reducible refine Dec.t (show true = true from rfl) ?_ | with_reducible refine Dec.t (show false = false from rfl) ?_ | with_reducible refine Dec.f (show ¬ (true = false) by decide) ?_ | with_reducible refine Dec.f (show ¬ (false = true) by decide) ?_ | refine Dec.t (by omega) ?_ | refine Dec.f (by omega) ?_ | refine Dec.split (fun _ => ?_) (fun _ => ?_) | refine Wr.id (by omega) ?_ | refine Chk.mk (by first | omega | exact rfl | (simp only [List.length_map]; omega) | (simp [room]; done) | (simp [room]; omega) | (simp [dropL, room]; done) | (simp [dropL, room]; omega)) ?_ | refine Nam.mk (List.length_map _) ?_ | refine Prep.skip ?_ | refine Eith.l ?_ | refine chk_t (x := D.flat _) (by assumption) ?_ | refine br_mk (fun _ => ?_) (fun _ => ?_) | refine nthK_mk (map_get hx) ?_ | refine ACall.of (hD) ?_ | refine APCall.of (hD) ?_ | fail)
          all_goals (conv => whnf)
          exact ⟨⟨day + 1, v2 + 1, 1, [⟨day, (day : Int) + 1⟩]⟩, Wm.end (by repeat (first | exact trivial | refine And.intro rfl ?_ | refine And.intro (congrArg (fun n => V.d (I n)) (wrap_nat _ (by omega))) ?_)) rfl rfl rfl, ⟨by simp only; omega, rfl, hs.symm⟩, by simp only; omega⟩
        · rw [List.concat_eq_append] at hn
          obtain ⟨m, hm1, hm2⟩ : ∃ m, l2 = m + 1 ∧ L.length = m := ⟨L.length, by rw [hl2, hn]; simp, rfl⟩
          have hg : (ls.map Spn.d)[0 + ((l2 : Int) - 1).toNat]? = some s.d := by
            rw [hn, show 0 + ((l2 : Int) - 1).toNat = m by omega, ← hm2]; simp
          have hset : (ls.map Spn.d).set (0 + ((l2 : Int) - 1).toNat) (Spn.d ⟨s.from_, (day : Int) + 1⟩) = (L ++ [(⟨s.from_, (day : Int) + 1⟩ : Spn)]).map Spn.d := by
            rw [hn, show 0 + ((l2 : Int) - 1).toNat = m by omega, ← hm2]; simp
          by_cases hsd : s.to_ = day
          · have he : extR ls day = L ++ [⟨s.from_, (day : Int) + 1⟩] := by
              rw [hn, show s = ⟨s.from_, day⟩ by rw [← hsd]]; exact extR_open
            rw [he] at hs
            repeat' ((conv => whnf); first | with_reducible refine Dec.t (show true = true from rfl) ?_ | with_reducible refine Dec.t (show false = false from rfl) ?_ | with_reducible refine Dec.f (show ¬ (true = false) by decide) ?_ | with_reducible refine Dec.f (show ¬ (false = true) by decide) ?_ | refine Dec.t (by omega) ?_ | refine Dec.f (by omega) ?_ | refine Dec.split (fun _ => ?_) (fun _ => ?_) | refine Wr.id (by omega) ?_ | refine Chk.mk (by first | omega | exact rfl | (simp only [List.length_map]; omega) | (simp [room]; done) | (simp [room]; omega) | (simp [dropL, room]; done) | (simp [dropL, room]; omega)) ?_ | refine Nam.mk (List.length_map _) ?_ | refine Prep.skip ?_ | refine Eith.l ?_ | refine chk_t (x := D.flat _) (by assumption) ?_ | refine br_mk (fun _ => ?_) (fun _ => ?_) | refine nthK_mk (map_get hx) ?_ | refine ACall.of (hD) ?_ | refine APCall.of (hD) ?_ | refine nthK_mk hg ?_ | refine setK_mk (by rw [List.length_map]; omega) ?_ | fail)
            all_goals (conv => whnf)
            exact ⟨⟨day + 1, v2, l2, L ++ [(⟨s.from_, (day : Int) + 1⟩ : Spn)]⟩, Wm.end (by repeat (first | exact trivial | refine And.intro rfl ?_ | refine And.intro (congrArg (fun n => V.d (I n)) (wrap_nat _ (by omega))) ?_)) (congrArg (fun r => [Blk.row vr 4 false dp, Blk.row v2 2 false r]) (show (ls.map Spn.d).set (0 + ((l2 : Int) - 1).toNat) (ofCells s.d [I s.from_, I ((day : Int) + 1)]) = _ from hset)) rfl rfl, ⟨by simp only; omega, by simp; omega, hs.symm⟩, by simp only; omega⟩
          · have he : extR ls day = ls ++ [⟨day, (day : Int) + 1⟩] := by
              unfold extR
              rw [hn, List.getLast?_concat]
              dsimp only
              rw [if_neg hsd]
            rw [he] at hs
            repeat' ((conv => whnf); first | with_reducible refine Dec.t (show true = true from rfl) ?_ | with_reducible refine Dec.t (show false = false from rfl) ?_ | with_reducible refine Dec.f (show ¬ (true = false) by decide) ?_ | with_reducible refine Dec.f (show ¬ (false = true) by decide) ?_ | refine Dec.t (by omega) ?_ | refine Dec.f (by omega) ?_ | refine Dec.split (fun _ => ?_) (fun _ => ?_) | refine Wr.id (by omega) ?_ | refine Chk.mk (by first | omega | exact rfl | (simp only [List.length_map]; omega) | (simp [room]; done) | (simp [room]; omega) | (simp [dropL, room]; done) | (simp [dropL, room]; omega)) ?_ | refine Nam.mk (List.length_map _) ?_ | refine Prep.skip ?_ | refine Eith.l ?_ | refine chk_t (x := D.flat _) (by assumption) ?_ | refine br_mk (fun _ => ?_) (fun _ => ?_) | refine nthK_mk (map_get hx) ?_ | refine ACall.of (hD) ?_ | refine APCall.of (hD) ?_ | refine nthK_mk hg ?_ | refine Chk.mk ⟨rfl, by rw [List.length_map]; omega, by simp only [List.length_cons, List.length_nil]; omega⟩ ?_ | fail)
            all_goals (conv => whnf)
            exact ⟨⟨day + 1, v2 + 1, l2 + 1, ls ++ [⟨day, (day : Int) + 1⟩]⟩, Wm.end (by repeat (first | exact trivial | refine And.intro rfl ?_ | refine And.intro (congrArg (fun n => V.d (I n)) (wrap_nat _ (by omega))) ?_)) (congrArg (fun r => [Blk.row vr 4 false dp, Blk.row (v2 + 1) 2 false r]) (by simp [Spn.d, dropL])) rfl rfl, ⟨by simp only; omega, by simp; omega, hs.symm⟩, by simp only; omega⟩
      · rw [decide_eq_false hp] at hD
        rw [show difP l k b a day = false from decide_eq_false hp, if_neg (by simp)] at hs
        repeat' ((conv => whnf); first | with_reducible refine Dec.t (show true = true from rfl) ?_ | with_reducible refine Dec.t (show false = false from rfl) ?_ | with_reducible refine Dec.f (show ¬ (true = false) by decide) ?_ | with_reducible refine Dec.f (show ¬ (false = true) by decide) ?_ | refine Dec.t (by omega) ?_ | refine Dec.f (by omega) ?_ | refine Dec.split (fun _ => ?_) (fun _ => ?_) | refine Wr.id (by omega) ?_ | refine Chk.mk (by first | omega | exact rfl | (simp only [List.length_map]; omega) | (simp [room]; done) | (simp [room]; omega) | (simp [dropL, room]; done) | (simp [dropL, room]; omega)) ?_ | refine Nam.mk (List.length_map _) ?_ | refine Prep.skip ?_ | refine Eith.l ?_ | refine chk_t (x := D.flat _) (by assumption) ?_ | refine br_mk (fun _ => ?_) (fun _ => ?_) | refine nthK_mk (map_get hx) ?_ | refine ACall.of (hD) ?_ | refine APCall.of (hD) ?_ | fail)
        all_goals (conv => whnf)
        exact ⟨⟨day + 1, v2, l2, ls⟩, Wm.end (by repeat (first | exact trivial | refine And.intro rfl ?_ | refine And.intro (congrArg (fun n => V.d (I n)) (wrap_nat _ (by omega))) ?_)) rfl rfl rfl, ⟨by simp only; omega, hl2, hs.symm⟩, by simp only; omega⟩
    · have : day = 1024 := by omega
      subst this
      have htk : (ks.take (i + 1)).filterMap (difM l b a) = (ks.take i).filterMap (difM l b a) ++ (difM l b a k).toList := by
        rw [List.take_add_one, hx, List.filterMap_append]
        cases hq : difM l b a k <;> simp [hq]
      by_cases hne : runsM (difP l k b a) 1024 = []
      · have hdm : difM l b a k = none := if_pos hne
        rw [hdm] at htk
        rw [hne] at hm
        subst hm
        have : l2 = 0 := hl2
        subst this
        repeat' ((conv => whnf); first | with_reducible refine Dec.t (show true = true from rfl) ?_ | with_reducible refine Dec.t (show false = false from rfl) ?_ | with_reducible refine Dec.f (show ¬ (true = false) by decide) ?_ | with_reducible refine Dec.f (show ¬ (false = true) by decide) ?_ | refine Dec.t (by omega) ?_ | refine Dec.f (by omega) ?_ | refine Dec.split (fun _ => ?_) (fun _ => ?_) | refine Wr.id (by omega) ?_ | refine Chk.mk (by first | omega | exact rfl | (simp only [List.length_map]; omega) | (simp [room]; done) | (simp [room]; omega) | (simp [dropL, room]; done) | (simp [dropL, room]; omega)) ?_ | refine Nam.mk (List.length_map _) ?_ | refine Prep.skip ?_ | refine Eith.l ?_ | refine chk_t (x := D.flat _) (by assumption) ?_ | refine br_mk (fun _ => ?_) (fun _ => ?_) | refine nthK_mk (map_get hx) ?_ | fail)
        all_goals (conv => whnf)
        exact ⟨⟨i + 1, vr, lr, dp⟩, Wm.end (by repeat (first | exact trivial | refine And.intro rfl ?_ | refine And.intro (congrArg (fun n => V.d (I n)) (wrap_nat _ (by omega))) ?_)) rfl rfl rfl, ⟨hlt, by simp only; rw [htk, g1]; simp, g2, by simp only; omega⟩, by simp only; omega⟩
      · have hdm : difM l b a k = some ⟨k, runsM (difP l k b a) 1024⟩ := if_neg hne
        rw [hdm, ← hm] at htk
        have hpos : 0 < l2 := by
          rw [hl2, hm]; exact List.length_pos_iff.2 hne
        repeat' ((conv => whnf); first | with_reducible refine Dec.t (show true = true from rfl) ?_ | with_reducible refine Dec.t (show false = false from rfl) ?_ | with_reducible refine Dec.f (show ¬ (true = false) by decide) ?_ | with_reducible refine Dec.f (show ¬ (false = true) by decide) ?_ | refine Dec.t (by omega) ?_ | refine Dec.f (by omega) ?_ | refine Dec.split (fun _ => ?_) (fun _ => ?_) | refine Wr.id (by omega) ?_ | refine Chk.mk (by first | omega | exact rfl | (simp only [List.length_map]; omega) | (simp [room]; done) | (simp [room]; omega) | (simp [dropL, room]; done) | (simp [dropL, room]; omega)) ?_ | refine Nam.mk (List.length_map _) ?_ | refine Prep.skip ?_ | refine Eith.l ?_ | refine chk_t (x := D.flat _) (by assumption) ?_ | refine br_mk (fun _ => ?_) (fun _ => ?_) | refine nthK_mk (map_get hx) ?_ | refine Nam.mk (y := ls.map Spn.d) (whole (by rw [List.length_map]; exact hl2)) ?_ | refine Chk.mk ⟨rfl, by omega, by simp [room]; omega⟩ ?_ | fail)
        all_goals (conv => whnf)
        exact ⟨⟨i + 1, vr + 1, lr + 1, dp ++ [Dif.d ⟨k, ls⟩]⟩, Wm.end (by repeat (first | exact trivial | refine And.intro rfl ?_ | refine And.intro (congrArg (fun n => V.d (I n)) (wrap_nat _ (by omega))) ?_)) rfl rfl rfl, ⟨hlt, by simp only; rw [htk, List.map_append, g1]; rfl, by simp; omega, by simp only; omega⟩, by simp only; omega⟩
  · have : i = ks.length := by omega
    subst this
    rw [List.take_length] at g1
    repeat' ((conv => whnf); first | with_reducible refine Dec.t (show true = true from rfl) ?_ | with_reducible refine Dec.t (show false = false from rfl) ?_ | with_reducible refine Dec.f (show ¬ (true = false) by decide) ?_ | with_reducible refine Dec.f (show ¬ (false = true) by decide) ?_ | refine Dec.t (by omega) ?_ | refine Dec.f (by omega) ?_ | refine Dec.split (fun _ => ?_) (fun _ => ?_) | refine Wr.id (by omega) ?_ | refine Chk.mk (by first | omega | exact rfl | (simp only [List.length_map]; omega) | (simp [room]; done) | (simp [room]; omega) | (simp [dropL, room]; done) | (simp [dropL, room]; omega)) ?_ | refine Nam.mk (List.length_map _) ?_ | refine Prep.skip ?_ | refine Eith.l ?_ | refine chk_t (x := D.flat _) (by assumption) ?_ | refine br_mk (fun _ => ?_) (fun _ => ?_) | refine Nam.mk ((whole g2).trans g1) ?_ | fail)
    all_goals (conv => whnf)
    exact (by repeat (first | exact trivial | exact rfl | exact DLe.refl _ | exact DLe.full _ _ _ | exact DLe.nil _ _ _ | exact VLe.refl _ | refine And.intro ?_ ?_ | refine VLe.d ?_ | refine DLe.agg ?_))
theorem ref04_SameDiffers (a b : List Dif) (hl : a.length < 2 ^ 40) (h2 : ∀ x ∈ a, x.days.length < 2 ^ 40) : CallP Try.prog 23 [.d (SL 4 (a.map Dif.d)), .d (SL 4 (b.map Dif.d))] (retD [.b (decide (a = b))]) := by
  refine exPure_sound (E := envOf Try.prog tt Try.f23.ntmps) (envOf_ok ttok mixed) Try.func23 (by rfl) rfl rfl (Nat.le_of_ble_eq_true rfl) ?_
  by_cases he : a.length = b.length
  · repeat' ((conv => whnf); first | with_reducible refine Dec.t (show true = true from rfl) ?_ | with_reducible refine Dec.t (show false = false from rfl) ?_ | with_reducible refine Dec.f (show ¬ (true = false) by decide) ?_ | with_reducible refine Dec.f (show ¬ (false = true) by decide) ?_ | refine Dec.t (by omega) ?_ | refine Dec.f (by omega) ?_ | refine Dec.split (fun _ => ?_) (fun _ => ?_) | refine Wr.id (by omega) ?_ | refine Chk.mk (by first | omega | exact rfl | (simp only [List.length_map]; omega) | (simp [room]; done) | (simp [room]; omega) | (simp [dropL, room]; done) | (simp [dropL, room]; omega)) ?_ | refine Nam.mk (List.length_map _) ?_ | refine Prep.skip ?_ | refine Eith.l ?_ | refine chk_t (x := D.flat _) (by assumption) ?_ | refine br_mk (fun _ => ?_) (fun _ => ?_))
    conv => whnf
    refine ALoop.at (E := envOf Try.prog tt Try.f23.ntmps) (envOf_ok ttok mixed) (X := Nat) (fun i => [(5, .d (I i))]) (fun _ => []) (fun i => i ≤ a.length ∧ a.take i = b.take i) (fun i => a.length - i) 0 (by repeat (first | exact trivial | refine And.intro rfl ?_ | refine And.intro (congrArg (fun n => V.d (I n)) (wrap_nat _ (by omega))) ?_)) rfl ⟨Nat.zero_le _, rfl⟩ ?_
    rintro i ⟨hi, hm⟩
    by_cases hlt : i < a.length
    · obtain ⟨x, hx, _⟩ := drop_get hlt
      obtain ⟨y, hy, _⟩ := drop_get (l := b) (i := i) (by omega)
      repeat' ((conv => whnf); first | with_reducible refine Dec.t (show true = true from rfl) ?_ | with_reducible refine Dec.t (show false = false from rfl) ?_ | with_reducible refine Dec.f (show ¬ (true = false) by decide) ?_ | with_reducible refine Dec.f (show ¬ (false = true) by decide) ?_ | refine Dec.t (by omega) ?_ | refine Dec.f (by omega) ?_ | refine Dec.split (fun _ => ?_) (fun _ => ?_) | refine Wr.id (by omega) ?_ | refine Chk.mk (by first | omega | exact rfl | (simp only [List.length_map]; omega) | (simp [room]; done) | (simp [room]; omega) | (simp [dropL, room]; done) | (simp [dropL, room]; omega)) ?_ | refine Nam.mk (List.length_map _) ?_ | refine Prep.skip ?_ | refine Eith.l ?_ | refine chk_t (x := D.flat _) (by assumption) ?_ | refine br_mk (fun _ => ?_) (fun _ => ?_) | refine nthK_mk (map_get hx) ?_ | refine nthK_mk (map_get hy) ?_ | refine Nam.dec (eqKey x.key y.key) (fun _ => ?_) (fun _ => ?_) | refine Nam.mk (List.length_map _) ?_ | fail)
      all_goals (conv => whnf)
      all_goals try simp only [decide_eq_true_eq, decide_eq_false_iff_not] at *
      · rename_i hk hL
        have hxl := h2 x (List.mem_of_getElem? hx)
        refine ALoop.at (E := envOf Try.prog tt Try.f23.ntmps) (envOf_ok ttok mixed) (X := Nat) (fun i => [(6, .d (I i))]) (fun _ => []) (fun j => j ≤ x.days.length ∧ x.days.take j = y.days.take j) (fun j => x.days.length - j) 0 (by repeat (first | exact trivial | refine And.intro rfl ?_ | refine And.intro (congrArg (fun n => V.d (I n)) (wrap_nat _ (by omega))) ?_)) rfl ⟨Nat.zero_le _, rfl⟩ ?_
        rintro j ⟨hj, hm2⟩
        by_cases hlt2 : j < x.days.length
        · obtain ⟨u, hu, _⟩ := drop_get hlt2
          obtain ⟨v, hv, _⟩ := drop_get (l := y.days) (i := j) (by omega)
          repeat' ((conv => whnf); first | with_reducible refine Dec.t (show true = true from rfl) ?_ | with_reducible refine Dec.t (show false = false from rfl) ?_ | with_reducible refine Dec.f (show ¬ (true = false) by decide) ?_ | with_reducible refine Dec.f (show ¬ (false = true) by decide) ?_ | refine Dec.t (by omega) ?_ | refine Dec.f (by omega) ?_ | refine Dec.split (fun _ => ?_) (fun _ => ?_) | refine Wr.id (by omega) ?_ | refine Chk.mk (by first | omega | exact rfl | (simp only [List.length_map]; omega) | (simp [room]; done) | (simp [room]; omega) | (simp [dropL, room]; done) | (simp [dropL, room]; omega)) ?_ | refine Nam.mk (List.length_map _) ?_ | refine Prep.skip ?_ | refine Eith.l ?_ | refine chk_t (x := D.flat _) (by assumption) ?_ | refine br_mk (fun _ => ?_) (fun _ => ?_) | refine nthK_mk (map_get hx) ?_ | refine nthK_mk (map_get hy) ?_ | refine nthK_mk (map_get hu) ?_ | refine nthK_mk (map_get hv) ?_ | refine Nam.dec (eqSpn u v) (fun _ => ?_) (fun _ => ?_) | refine Nam.mk (List.length_map _) ?_ | fail)
          all_goals (conv => whnf)
          all_goals try simp only [decide_eq_true_eq, decide_eq_false_iff_not] at *
          · rename_i huv
            subst huv
            refine ⟨j + 1, Wm.end (by repeat (first | exact trivial | refine And.intro rfl ?_ | refine And.intro (congrArg (fun n => V.d (I n)) (wrap_nat _ (by omega))) ?_)) rfl rfl rfl, ⟨hlt2, ?_⟩, by omega⟩
            rw [List.take_add_one, List.take_add_one, hm2, hu, hv]
          · rename_i huv
            rw [decide_eq_false (fun h => huv (by subst h; rw [hx] at hy; cases hy; rw [hu] at hv; exact Option.some.inj hv))]; exact DLe.refl _
        · have : j = x.days.length := by omega
          subst this
          have hxy : x = y := by
            obtain ⟨k1, d1⟩ := x
            obtain ⟨k2, d2⟩ := y
            simp only at hk hL hm2
            have hL2 : d1.length = d2.length := by omega
            rw [List.take_length, hL2, List.take_length] at hm2
            rw [hk, hm2]
          repeat' ((conv => whnf); first | with_reducible refine Dec.t (show true = true from rfl) ?_ | with_reducible refine Dec.t (show false = false from rfl) ?_ | with_reducible refine Dec.f (show ¬ (true = false) by decide) ?_ | with_reducible refine Dec.f (show ¬ (false = true) by decide) ?_ | refine Dec.t (by omega) ?_ | refine Dec.f (by omega) ?_ | refine Dec.split (fun _ => ?_) (fun _ => ?_) | refine Wr.id (by omega) ?_ | refine Chk.mk (by first | omega | exact rfl | (simp only [List.length_map]; omega) | (simp [room]; done) | (simp [room]; omega) | (simp [dropL, room]; done) | (simp [dropL, room]; omega)) ?_ | refine Nam.mk (List.length_map _) ?_ | refine Prep.skip ?_ | refine Eith.l ?_ | refine chk_t (x := D.flat _) (by assumption) ?_ | refine br_mk (fun _ => ?_) (fun _ => ?_) | refine nthK_mk (map_get hx) ?_ | fail)
          all_goals (conv => whnf)
          refine ⟨i + 1, Wm.end (by repeat (first | exact trivial | refine And.intro rfl ?_ | refine And.intro (congrArg (fun n => V.d (I n)) (wrap_nat _ (by omega))) ?_)) rfl rfl rfl, ⟨hlt, ?_⟩, by omega⟩
          rw [List.take_add_one, List.take_add_one, hm, hx, hy, hxy]
      · rename_i hk hL
        rw [decide_eq_false (fun h => hL (by subst h; rw [hx] at hy; cases hy; rfl))]; exact DLe.refl _
      · rename_i hk
        rw [decide_eq_false (fun h => hk (by subst h; rw [hx] at hy; cases hy; rfl))]; exact DLe.refl _
    · have : i = a.length := by omega
      subst this
      rw [List.take_length, he, List.take_length] at hm
      repeat' ((conv => whnf); first | with_reducible refine Dec.t (show true = true from rfl) ?_ | with_reducible refine Dec.t (show false = false from rfl) ?_ | with_reducible refine Dec.f (show ¬ (true = false) by decide) ?_ | with_reducible refine Dec.f (show ¬ (false = true) by decide) ?_ | refine Dec.t (by omega) ?_ | refine Dec.f (by omega) ?_ | refine Dec.split (fun _ => ?_) (fun _ => ?_) | refine Wr.id (by omega) ?_ | refine Chk.mk (by first | omega | exact rfl | (simp only [List.length_map]; omega) | (simp [room]; done) | (simp [room]; omega) | (simp [dropL, room]; done) | (simp [dropL, room]; omega)) ?_ | refine Nam.mk (List.length_map _) ?_ | refine Prep.skip ?_ | refine Eith.l ?_ | refine chk_t (x := D.flat _) (by assumption) ?_ | refine br_mk (fun _ => ?_) (fun _ => ?_))
      all_goals (conv => whnf)
      rw [decide_eq_true hm]; exact DLe.refl _
  · repeat' ((conv => whnf); first | with_reducible refine Dec.t (show true = true from rfl) ?_ | with_reducible refine Dec.t (show false = false from rfl) ?_ | with_reducible refine Dec.f (show ¬ (true = false) by decide) ?_ | with_reducible refine Dec.f (show ¬ (false = true) by decide) ?_ | refine Dec.t (by omega) ?_ | refine Dec.f (by omega) ?_ | refine Dec.split (fun _ => ?_) (fun _ => ?_) | refine Wr.id (by omega) ?_ | refine Chk.mk (by first | omega | exact rfl | (simp only [List.length_map]; omega) | (simp [room]; done) | (simp [room]; omega) | (simp [dropL, room]; done) | (simp [dropL, room]; omega)) ?_ | refine Nam.mk (List.length_map _) ?_ | refine Prep.skip ?_ | refine Eith.l ?_ | refine chk_t (x := D.flat _) (by assumption) ?_ | refine br_mk (fun _ => ?_) (fun _ => ?_))
    all_goals (conv => whnf)
    rw [decide_eq_false (fun h => he (by rw [h]))]; exact DLe.refl _
end Go.PM

