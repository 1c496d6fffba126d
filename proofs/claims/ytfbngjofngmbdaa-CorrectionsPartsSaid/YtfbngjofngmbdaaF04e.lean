/- Package facts: different; the reference's SameDiffers, Changed. -/
import Derived.Test.YtfbngjofngmbdaaF04d
namespace Go.PM
open Go.Proofs
set_option maxRecDepth 10000
set_option maxHeartbeats 1000000

structure Spn where
  from_ : Int
  to_ : Int
  deriving DecidableEq
def Spn.d (s : Spn) : D := .agg [I s.from_, I s.to_]
structure Dif where
  key : Key
  days : List Spn
  deriving DecidableEq
def Dif.d (x : Dif) : D := .agg [I x.key.kind, I x.key.subj, I x.key.obj, SL 2 (x.days.map Spn.d)]

/-- A day is joined to runs of days. -/
def extR (l : List Spn) (n : Nat) : List Spn := match l.getLast? with
  | some s => if s.to_ = n then l.dropLast ++ [⟨s.from_, (n : Int) + 1⟩] else l ++ [⟨n, (n : Int) + 1⟩]
  | none => l ++ [⟨n, (n : Int) + 1⟩]
/-- The longest runs of days, of the first n ones. -/
def runsM (p : Nat → Bool) : Nat → List Spn
  | 0 => []
  | n + 1 => if p n then extR (runsM p n) n else runsM p n

theorem eqSpn (k k' : Spn) : eqD tt 4 55 k.d.cells k'.d.cells = decide (k = k') := by
  rw [show eqD tt 4 55 k.d.cells k'.d.cells = (k.from_ == k'.from_ && (k.to_ == k'.to_ && true)) from rfl]
  rw [Bool.eq_iff_iff]
  cases k; cases k'
  simp

theorem extR_open {L : List Spn} {f : Int} {n : Nat} : extR (L ++ [⟨f, n⟩]) n = L ++ [⟨f, (n : Int) + 1⟩] := by
  unfold extR
  rw [List.getLast?_concat]
  simp
theorem extR_new {L : List Spn} {n : Nat} (h : ∀ s ∈ L, s.to_ < n) : extR L n = L ++ [⟨n, (n : Int) + 1⟩] := by
  unfold extR
  cases hl : L.getLast? with
  | none => rfl
  | some s =>
    have := h s (List.mem_of_getLast? hl)
    dsimp only
    rw [if_neg (by omega)]
theorem extR_len (L : List Spn) (n : Nat) : (extR L n).length ≤ L.length + 1 := by
  unfold extR
  split
  · split <;> simp
  · simp
theorem runsM_len (p : Nat → Bool) : ∀ n, (runsM p n).length ≤ n
  | 0 => Nat.le_refl _
  | n + 1 => by
    rw [runsM]
    have := runsM_len p n
    have := extR_len (runsM p n) n
    split <;> omega
structure XR where
  i : Nat
  fr : Nat
  vr : Nat
  ls : List Spn
def openR (fr i : Nat) : List Spn := if fr < i then [⟨fr, i⟩] else []
theorem facts_different (a b : List Int) (hl : a.length < 2 ^ 20) (hb : a.length ≤ b.length) : CallP Try.prog 48 [.d (SL 1 (a.map I)), .d (SL 1 (b.map I))] (retD [SL 2 ((runsM (fun i => decide (¬ a[i]? = b[i]?)) a.length).map Spn.d)]) := by
  refine exPure_sound (E := envOf Try.prog tt Try.f48.ntmps) (envOf_ok ttok mixed) Try.func48 (by rfl) rfl rfl (Nat.le_of_ble_eq_true rfl) ?_
  obtain ⟨p, hp⟩ : ∃ p : Nat → Bool, p = fun i => decide (¬ a[i]? = b[i]?) := ⟨_, rfl⟩
  rw [← hp]
  repeat' ((conv => whnf); first | with_reducible refine Dec.t (show true = true from rfl) ?_ | with_reducible refine Dec.t (show false = false from rfl) ?_ | with_reducible refine Dec.f (show ¬ (true = false) by decide) ?_ | with_reducible refine Dec.f (show ¬ (false = true) by decide) ?_ | refine Dec.t (by omega) ?_ | refine Dec.f (by omega) ?_ | refine Dec.split (fun _ => ?_) (fun _ => ?_) | refine Wr.id (by omega) ?_ | refine Chk.mk (by first | omega | exact rfl | (simp only [List.length_map]; omega) | (simp [room]; done) | (simp [room]; omega) | (simp [dropL, room]; done) | (simp [dropL, room]; omega)) ?_ | refine Nam.mk (List.length_map _) ?_ | refine Prep.skip ?_ | refine Eith.l ?_ | refine chk_t (x := D.flat _) (by assumption) ?_ | refine br_mk (fun _ => ?_) (fun _ => ?_) | fail)
  all_goals (conv => whnf)
  refine ALoop.virt 4 0 2 false (by decide) rfl ?_
  conv => whnf
  refine ALoop.at (E := envOf Try.prog tt Try.f48.ntmps) (envOf_ok ttok mixed) (X := XR) (fun x => [(9, .d (I x.i)), (5, .d (I x.fr)), (4, .sref 0 x.vr 0 x.ls.length false)]) (fun x => [(0, .row x.vr 2 false (x.ls.map Spn.d))])
    (fun x => x.i ≤ a.length ∧ x.fr ≤ x.i ∧ x.ls.length ≤ x.i ∧ (∀ s ∈ x.ls, s.to_ < x.i) ∧ runsM p x.i = x.ls ++ openR x.fr x.i) (fun x => a.length - x.i) ⟨0, 0, 0, []⟩ (by repeat (first | exact trivial | refine And.intro rfl ?_ | refine And.intro (congrArg (fun n => V.d (I n)) (wrap_nat _ (by omega))) ?_)) rfl ⟨Nat.zero_le _, Nat.zero_le _, Nat.zero_le _, by simp, rfl⟩ ?_
  rintro ⟨i, fr, vr, ls⟩ ⟨hi, hf, hlen, hto, hm⟩
  simp only at hi hf hlen hto hm
  dsimp only
  by_cases hlt : i < a.length
  · obtain ⟨x, hx, _⟩ := drop_get hlt
    obtain ⟨y, hy, _⟩ := drop_get (l := b) (i := i) (by omega)
    have hpi : p i = decide (¬ x = y) := by rw [hp]; simp [hx, hy]
    have hs : runsM p (i + 1) = if p i then extR (runsM p i) i else runsM p i := rfl
    by_cases hxy : x = y
    · rw [hpi, hxy, if_neg (by simp), hm] at hs
      by_cases hfi : fr < i
      · repeat' ((conv => whnf); first | with_reducible refine Dec.t (show true = true from rfl) ?_ | with_reducible refine Dec.t (show false = false from rfl) ?_ | with_reducible refine Dec.f (show ¬ (true = false) by decide) ?_ | with_reducible refine Dec.f (show ¬ (false = true) by decide) ?_ | refine Dec.t (by omega) ?_ | refine Dec.f (by omega) ?_ | refine Dec.split (fun _ => ?_) (fun _ => ?_) | refine Wr.id (by omega) ?_ | refine Chk.mk (by first | omega | exact rfl | (simp only [List.length_map]; omega) | (simp [room]; done) | (simp [room]; omega) | (simp [dropL, room]; done) | (simp [dropL, room]; omega)) ?_ | refine Nam.mk (List.length_map _) ?_ | refine Prep.skip ?_ | refine Eith.l ?_ | refine chk_t (x := D.flat _) (by assumption) ?_ | refine br_mk (fun _ => ?_) (fun _ => ?_) | refine nthK_mk (map_get hx) ?_ | refine nthK_mk (map_get hy) ?_ | refine Dec.t hxy ?_ | refine Chk.mk ⟨rfl, by simp, by simp [room]; omega⟩ ?_ | fail)
        all_goals (conv => whnf)
        refine ⟨⟨i + 1, i + 1, vr + 1, ls ++ [⟨fr, i⟩]⟩, Wm.end ⟨congrArg (fun n => V.d (I n)) (by dsimp only; omega), congrArg (fun n => V.d (I n)) (by dsimp only; omega), congrArg (fun n => V.sref 0 (vr + 1) 0 n false) (by simp), (by repeat (first | exact trivial | refine And.intro rfl ?_ | refine And.intro (congrArg (fun n => V.d (I n)) (wrap_nat _ (by omega))) ?_))⟩ (by simp [Spn.d, hset, over, dropL]) rfl rfl, ⟨hlt, Nat.le_refl _, by simp; omega, ?_, ?_⟩, by simp only; omega⟩
        · intro s hs2
          simp only [List.mem_append, List.mem_singleton] at hs2
          rcases hs2 with h | rfl
          · have := hto s h; simp only; omega
          · simp only; omega
        · simp only
          rw [hs]
          unfold openR
          rw [if_pos hfi, if_neg (by omega), List.append_nil]
      · repeat' ((conv => whnf); first | with_reducible refine Dec.t (show true = true from rfl) ?_ | with_reducible refine Dec.t (show false = false from rfl) ?_ | with_reducible refine Dec.f (show ¬ (true = false) by decide) ?_ | with_reducible refine Dec.f (show ¬ (false = true) by decide) ?_ | refine Dec.t (by omega) ?_ | refine Dec.f (by omega) ?_ | refine Dec.split (fun _ => ?_) (fun _ => ?_) | refine Wr.id (by omega) ?_ | refine Chk.mk (by first | omega | exact rfl | (simp only [List.length_map]; omega) | (simp [room]; done) | (simp [room]; omega) | (simp [dropL, room]; done) | (simp [dropL, room]; omega)) ?_ | refine Nam.mk (List.length_map _) ?_ | refine Prep.skip ?_ | refine Eith.l ?_ | refine chk_t (x := D.flat _) (by assumption) ?_ | refine br_mk (fun _ => ?_) (fun _ => ?_) | refine nthK_mk (map_get hx) ?_ | refine nthK_mk (map_get hy) ?_ | refine Dec.t hxy ?_ | fail)
        all_goals (conv => whnf)
        refine ⟨⟨i + 1, i + 1, vr, ls⟩, Wm.end ⟨congrArg (fun n => V.d (I n)) (by dsimp only; omega), congrArg (fun n => V.d (I n)) (by dsimp only; omega), (by repeat (first | exact trivial | refine And.intro rfl ?_ | refine And.intro (congrArg (fun n => V.d (I n)) (wrap_nat _ (by omega))) ?_))⟩ rfl rfl rfl, ⟨hlt, Nat.le_refl _, by simp only; omega, ?_, ?_⟩, by simp only; omega⟩
        · intro s hs2
          have := hto s hs2; simp only; omega
        · simp only
          rw [hs]
          unfold openR
          rw [if_neg hfi, if_neg (by omega)]
    · rw [hpi, if_pos (by simp [hxy]), hm] at hs
      repeat' ((conv => whnf); first | with_reducible refine Dec.t (show true = true from rfl) ?_ | with_reducible refine Dec.t (show false = false from rfl) ?_ | with_reducible refine Dec.f (show ¬ (true = false) by decide) ?_ | with_reducible refine Dec.f (show ¬ (false = true) by decide) ?_ | refine Dec.t (by omega) ?_ | refine Dec.f (by omega) ?_ | refine Dec.split (fun _ => ?_) (fun _ => ?_) | refine Wr.id (by omega) ?_ | refine Chk.mk (by first | omega | exact rfl | (simp only [List.length_map]; omega) | (simp [room]; done) | (simp [room]; omega) | (simp [dropL, room]; done) | (simp [dropL, room]; omega)) ?_ | refine Nam.mk (List.length_map _) ?_ | refine Prep.skip ?_ | refine Eith.l ?_ | refine chk_t (x := D.flat _) (by assumption) ?_ | refine br_mk (fun _ => ?_) (fun _ => ?_) | refine nthK_mk (map_get hx) ?_ | refine nthK_mk (map_get hy) ?_ | refine Dec.f hxy ?_ | fail)
      all_goals (conv => whnf)
      refine ⟨⟨i + 1, fr, vr, ls⟩, Wm.end ⟨congrArg (fun n => V.d (I n)) (by dsimp only; omega), (by repeat (first | exact trivial | refine And.intro rfl ?_ | refine And.intro (congrArg (fun n => V.d (I n)) (wrap_nat _ (by omega))) ?_))⟩ rfl rfl rfl, ⟨hlt, by simp only; omega, by simp only; omega, ?_, ?_⟩, by simp only; omega⟩
      · intro s hs2
        have := hto s hs2; simp only; omega
      · simp only
        rw [hs]
        unfold openR
        by_cases hfi : fr < i
        · rw [if_pos hfi, if_pos (by omega), extR_open]; simp
        · have : fr = i := by omega
          subst this
          rw [if_neg hfi, if_pos (by omega), List.append_nil, extR_new hto]; simp
  · have : i = a.length := by omega
    subst this
    unfold openR at hm
    by_cases hfi : fr < a.length
    · rw [if_pos hfi] at hm
      rw [hm]
      repeat' ((conv => whnf); first | with_reducible refine Dec.t (show true = true from rfl) ?_ | with_reducible refine Dec.t (show false = false from rfl) ?_ | with_reducible refine Dec.f (show ¬ (true = false) by decide) ?_ | with_reducible refine Dec.f (show ¬ (false = true) by decide) ?_ | refine Dec.t (by omega) ?_ | refine Dec.f (by omega) ?_ | refine Dec.split (fun _ => ?_) (fun _ => ?_) | refine Wr.id (by omega) ?_ | refine Chk.mk (by first | omega | exact rfl | (simp only [List.length_map]; omega) | (simp [room]; done) | (simp [room]; omega) | (simp [dropL, room]; done) | (simp [dropL, room]; omega)) ?_ | refine Nam.mk (List.length_map _) ?_ | refine Prep.skip ?_ | refine Eith.l ?_ | refine chk_t (x := D.flat _) (by assumption) ?_ | refine br_mk (fun _ => ?_) (fun _ => ?_) | refine Chk.mk ⟨rfl, by simp, by simp [room]; omega⟩ ?_ | refine Nam.mk (y := List.map Spn.d (ls ++ [(⟨(fr : Int), (a.length : Int)⟩ : Spn)])) ((whole (by simp [dropL])).trans (by simp [Spn.d, dropL])) ?_ | fail)
      all_goals (conv => whnf)
      all_goals exact (by repeat (first | exact trivial | exact rfl | exact DLe.refl _ | exact DLe.full _ _ _ | exact DLe.nil _ _ _ | exact VLe.refl _ | refine And.intro ?_ ?_ | refine VLe.d ?_ | refine DLe.agg ?_))
    · rw [if_neg hfi, List.append_nil] at hm
      rw [hm]
      repeat' ((conv => whnf); first | with_reducible refine Dec.t (show true = true from rfl) ?_ | with_reducible refine Dec.t (show false = false from rfl) ?_ | with_reducible refine Dec.f (show ¬ (true = false) by decide) ?_ | with_reducible refine Dec.f (show ¬ (false = true) by decide) ?_ | refine Dec.t (by omega) ?_ | refine Dec.f (by omega) ?_ | refine Dec.split (fun _ => ?_) (fun _ => ?_) | refine Wr.id (by omega) ?_ | refine Chk.mk (by first | omega | exact rfl | (simp only [List.length_map]; omega) | (simp [room]; done) | (simp [room]; omega) | (simp [dropL, room]; done) | (simp [dropL, room]; omega)) ?_ | refine Nam.mk (List.length_map _) ?_ | refine Prep.skip ?_ | refine Eith.l ?_ | refine chk_t (x := D.flat _) (by assumption) ?_ | refine br_mk (fun _ => ?_) (fun _ => ?_) | refine Nam.mk (y := ls.map Spn.d) (whole (by simp)) ?_ | fail)
      all_goals (conv => whnf)
      all_goals exact (by repeat (first | exact trivial | exact rfl | exact DLe.refl _ | exact DLe.full _ _ _ | exact DLe.nil _ _ _ | exact VLe.refl _ | refine And.intro ?_ ?_ | refine VLe.d ?_ | refine DLe.agg ?_))

def difP (l : List Fact) (k : Key) (b a : Int) (i : Nat) : Bool := decide (¬ atM l k i b = atM l k i a)
def difM (l : List Fact) (b a : Int) (k : Key) : Option Dif := if runsM (difP l k b a) 1024 = [] then none else some ⟨k, runsM (difP l k b a) 1024⟩
def changedM (l : List Fact) (b a : Int) : List Dif := (keysR l).filterMap (difM l b a)
theorem keysR_len (l : List Fact) : (keysR l).length ≤ l.length := by
  have key : ∀ (l : List Fact) (out : List Key), (l.foldl (fun out f => insK f.key out) out).length ≤ out.length + l.length := by
    intro l
    induction l with
    | nil => intro out; exact Nat.le_refl _
    | cons f l ih =>
      intro out
      have := insK_len f.key out
      have := ih (insK f.key out)
      simp only [List.foldl_cons, List.length_cons]; omega
  have := key l []
  simpa [keysR] using this
structure XC where
  i : Nat
  vr : Nat
  lr : Nat
  dp : List D
structure XS where
  i : Nat
  vr : Nat
  lr : Nat
  ls : List Spn
end Go.PM

