/- Branches: data, copies. -/
import Derived.Test.YtbgdpjhgdboigaaF04d
namespace Go.PM
open Go.Proofs
set_option maxRecDepth 10000
set_option maxHeartbeats 8000000

structure Chg where
  kind : Int
  subj : Int
  obj : Int
  value : Int
  from_ : Int
  to_ : Int
  deriving DecidableEq
def Chg.d (c : Chg) : D := .agg [I c.kind, I c.subj, I c.obj, I c.value, I c.from_, I c.to_]
def Chg.key (c : Chg) : Key := ⟨c.kind, c.subj, c.obj⟩
def brD (l : List Chg) : D := SL 6 (l.map Chg.d)
structure Brn where
  base : List Fact
  br : List (List Chg)
  par : List Int
  forks : List Int
  done : List Bool
  deriving DecidableEq
def Brn.d (b : Brn) : D := .agg [SL 8 (b.base.map Fact.d), SL 1 (b.br.map brD), SL 1 (b.par.map I), SL 1 (b.forks.map I), SL 1 (b.done.map B)]

theorem over_all {z : D} {ys : List D} {n : Int} (h : n.toNat ≤ ys.length) : (List.replicate n.toNat z).take 0 ++ ys ++ (List.replicate n.toNat z).drop (0 + ys.length) = ys := by
  rw [List.take_zero, List.nil_append, List.drop_eq_nil_of_le (by simp; omega), List.append_nil]
theorem copied_Fact (l : List Fact) (hl : l.length < 2 ^ 26) : CallRow Try.prog 34 [.d (SL 8 (l.map Fact.d))] 8 (l.map Fact.d) := by
  refine exRow_sound (E := envOf Try.prog tt Try.f34.ntmps) (envOf_ok ttok mixed) Try.func34 (by rfl) rfl rfl (Nat.le_of_ble_eq_true rfl) ?_
  repeat' ((conv => whnf); first | with_reducible refine Dec.t (show true = true from rfl) ?_ | with_reducible refine Dec.t (show false = false from rfl) ?_ | with_reducible refine Dec.f (show ¬ (true = false) by decide) ?_ | with_reducible refine Dec.f (show ¬ (false = true) by decide) ?_ | refine Dec.t (by omega) ?_ | refine Dec.f (by omega) ?_ | refine Dec.split (fun _ => ?_) (fun _ => ?_) | refine Wr.id (by omega) ?_ | refine Chk.mk (by first | omega | exact rfl | (simp only [List.length_map]; omega) | (simp [room]; done) | (simp [room]; omega) | (simp [dropL, room]; done) | (simp [dropL, room]; omega)) ?_ | refine Nam.mk (List.length_map _) ?_ | refine Prep.skip ?_ | refine Eith.l ?_ | refine chk_t (x := D.flat _) (by assumption) ?_ | refine br_mk (fun _ => ?_) (fun _ => ?_) | refine Nam.mk (y := l.map Fact.d) (over_all (by simp)) ?_ | refine Chk.mk ⟨rfl, by simp⟩ ?_ | refine Alt.l ?_ | fail)
  all_goals first | (exfalso; omega) | skip
  all_goals (conv => whnf)
  all_goals first | rfl | exact Nam.mk (whole (by simp)) rfl
theorem copied_Chg (l : List Chg) (hl : l.length < 2 ^ 26) : CallRow Try.prog 64 [.d (SL 6 (l.map Chg.d))] 6 (l.map Chg.d) := by
  refine exRow_sound (E := envOf Try.prog tt Try.f64.ntmps) (envOf_ok ttok mixed) Try.func64 (by rfl) rfl rfl (Nat.le_of_ble_eq_true rfl) ?_
  repeat' ((conv => whnf); first | with_reducible refine Dec.t (show true = true from rfl) ?_ | with_reducible refine Dec.t (show false = false from rfl) ?_ | with_reducible refine Dec.f (show ¬ (true = false) by decide) ?_ | with_reducible refine Dec.f (show ¬ (false = true) by decide) ?_ | refine Dec.t (by omega) ?_ | refine Dec.f (by omega) ?_ | refine Dec.split (fun _ => ?_) (fun _ => ?_) | refine Wr.id (by omega) ?_ | refine Chk.mk (by first | omega | exact rfl | (simp only [List.length_map]; omega) | (simp [room]; done) | (simp [room]; omega) | (simp [dropL, room]; done) | (simp [dropL, room]; omega)) ?_ | refine Nam.mk (List.length_map _) ?_ | refine Prep.skip ?_ | refine Eith.l ?_ | refine chk_t (x := D.flat _) (by assumption) ?_ | refine br_mk (fun _ => ?_) (fun _ => ?_) | refine Nam.mk (y := l.map Chg.d) (over_all (by simp)) ?_ | refine Chk.mk ⟨rfl, by simp⟩ ?_ | refine Alt.l ?_ | fail)
  all_goals first | (exfalso; omega) | skip
  all_goals (conv => whnf)
  all_goals first | rfl | exact Nam.mk (whole (by simp)) rfl
theorem copied_int (l : List Int) (hl : l.length < 2 ^ 26) : CallRow Try.prog 39 [.d (SL 1 (l.map I))] 1 (l.map I) := by
  refine exRow_sound (E := envOf Try.prog tt Try.f39.ntmps) (envOf_ok ttok mixed) Try.func39 (by rfl) rfl rfl (Nat.le_of_ble_eq_true rfl) ?_
  repeat' ((conv => whnf); first | with_reducible refine Dec.t (show true = true from rfl) ?_ | with_reducible refine Dec.t (show false = false from rfl) ?_ | with_reducible refine Dec.f (show ¬ (true = false) by decide) ?_ | with_reducible refine Dec.f (show ¬ (false = true) by decide) ?_ | refine Dec.t (by omega) ?_ | refine Dec.f (by omega) ?_ | refine Dec.split (fun _ => ?_) (fun _ => ?_) | refine Wr.id (by omega) ?_ | refine Chk.mk (by first | omega | exact rfl | (simp only [List.length_map]; omega) | (simp [room]; done) | (simp [room]; omega) | (simp [dropL, room]; done) | (simp [dropL, room]; omega)) ?_ | refine Nam.mk (List.length_map _) ?_ | refine Prep.skip ?_ | refine Eith.l ?_ | refine chk_t (x := D.flat _) (by assumption) ?_ | refine br_mk (fun _ => ?_) (fun _ => ?_) | refine Nam.mk (y := l.map I) (over_all (by simp)) ?_ | refine Chk.mk ⟨rfl, by simp⟩ ?_ | refine Alt.l ?_ | fail)
  all_goals first | (exfalso; omega) | skip
  all_goals (conv => whnf)
  all_goals first | rfl | exact Nam.mk (whole (by simp)) rfl
theorem copied_bool (l : List Bool) (hl : l.length < 2 ^ 26) : CallRow Try.prog 41 [.d (SL 1 (l.map B))] 1 (l.map B) := by
  refine exRow_sound (E := envOf Try.prog tt Try.f41.ntmps) (envOf_ok ttok mixed) Try.func41 (by rfl) rfl rfl (Nat.le_of_ble_eq_true rfl) ?_
  repeat' ((conv => whnf); first | with_reducible refine Dec.t (show true = true from rfl) ?_ | with_reducible refine Dec.t (show false = false from rfl) ?_ | with_reducible refine Dec.f (show ¬ (true = false) by decide) ?_ | with_reducible refine Dec.f (show ¬ (false = true) by decide) ?_ | refine Dec.t (by omega) ?_ | refine Dec.f (by omega) ?_ | refine Dec.split (fun _ => ?_) (fun _ => ?_) | refine Wr.id (by omega) ?_ | refine Chk.mk (by first | omega | exact rfl | (simp only [List.length_map]; omega) | (simp [room]; done) | (simp [room]; omega) | (simp [dropL, room]; done) | (simp [dropL, room]; omega)) ?_ | refine Nam.mk (List.length_map _) ?_ | refine Prep.skip ?_ | refine Eith.l ?_ | refine chk_t (x := D.flat _) (by assumption) ?_ | refine br_mk (fun _ => ?_) (fun _ => ?_) | refine Nam.mk (y := l.map B) (over_all (by simp)) ?_ | refine Chk.mk ⟨rfl, by simp⟩ ?_ | refine Alt.l ?_ | fail)
  all_goals first | (exfalso; omega) | skip
  all_goals (conv => whnf)
  all_goals first | rfl | exact Nam.mk (whole (by simp)) rfl
theorem copied_Chgs (l : List (List Chg)) (hl : l.length < 2 ^ 26) : CallRow Try.prog 38 [.d (SL 1 (l.map brD))] 1 (l.map brD) := by
  refine exRow_sound (E := envOf Try.prog tt Try.f38.ntmps) (envOf_ok ttok mixed) Try.func38 (by rfl) rfl rfl (Nat.le_of_ble_eq_true rfl) ?_
  repeat' ((conv => whnf); first | with_reducible refine Dec.t (show true = true from rfl) ?_ | with_reducible refine Dec.t (show false = false from rfl) ?_ | with_reducible refine Dec.f (show ¬ (true = false) by decide) ?_ | with_reducible refine Dec.f (show ¬ (false = true) by decide) ?_ | refine Dec.t (by omega) ?_ | refine Dec.f (by omega) ?_ | refine Dec.split (fun _ => ?_) (fun _ => ?_) | refine Wr.id (by omega) ?_ | refine Chk.mk (by first | omega | exact rfl | (simp only [List.length_map]; omega) | (simp [room]; done) | (simp [room]; omega) | (simp [dropL, room]; done) | (simp [dropL, room]; omega)) ?_ | refine Nam.mk (List.length_map _) ?_ | refine Prep.skip ?_ | refine Eith.l ?_ | refine chk_t (x := D.flat _) (by assumption) ?_ | refine br_mk (fun _ => ?_) (fun _ => ?_) | refine Nam.mk (y := l.map brD) (over_all (by simp)) ?_ | refine Chk.mk ⟨rfl, by simp⟩ ?_ | refine Alt.l ?_ | fail)
  all_goals first | (exfalso; omega) | skip
  all_goals (conv => whnf)
  all_goals first | rfl | exact Nam.mk (whole (by simp)) rfl
end Go.PM

/- Branches: recording, lengths. -/
namespace Go.PM
open Go.Proofs
set_option maxRecDepth 10000
set_option maxHeartbeats 8000000

def Chg.fact (c : Chg) (known : Int) : Fact := ⟨c.kind, c.subj, c.obj, c.value, c.from_, c.to_, known, 0⟩
def nextKn (l : List Fact) : Int := match l.getLast? with
  | none => 1
  | some f => f.known + 1
def stamp : Int → List Chg → List Fact
  | _, [] => []
  | k, c :: r => c.fact k :: stamp (k + 1) r
/-- Facts with changes recorded, and the error. -/
def recM (l : List Fact) (cs : List Chg) : List Fact × Int := if ∀ f ∈ stamp (nextKn l) cs, f.ok then (l ++ stamp (nextKn l) cs, 0) else ([], 40)
theorem nextKn_snoc (l : List Fact) (f : Fact) : nextKn (l ++ [f]) = f.known + 1 := by simp [nextKn]
theorem before_next {l : List Fact} (c : Chg) : ∀ g, l.getLast? = some g → before g (c.fact (nextKn l)) := fun g hg => by
  unfold nextKn; rw [hg]; exact .inl (by show g.known < g.known + 1; omega)
theorem check_parts {l : List Fact} (h : checkM l = 0) : (∀ f ∈ l, f.ok) ∧ rising l := by
  unfold checkM at h
  split at h
  · split at h
    · exact ⟨by assumption, by assumption⟩
    · cases h
  · cases h
theorem rising_snoc : ∀ {l : List Fact} {f : Fact}, rising l → (∀ g, l.getLast? = some g → before g f) → rising (l ++ [f])
  | [], f, _, _ => trivial
  | [a], f, _, h => ⟨h a rfl, trivial⟩
  | a :: b :: r, f, h, hb => ⟨h.1, rising_snoc (l := b :: r) h.2 fun g hg => hb g (by simpa using hg)⟩
theorem check_snoc {l : List Fact} {f : Fact} (h : checkM l = 0) (hf : f.ok) (hb : ∀ g, l.getLast? = some g → before g f) : checkM (l ++ [f]) = 0 := by
  obtain ⟨h1, h2⟩ := check_parts h
  unfold checkM
  rw [if_pos (fun g hg => by
    rcases List.mem_append.1 hg with hg | hg
    · exact h1 g hg
    · simp at hg; subst hg; exact hf), if_pos (rising_snoc h2 hb)]
theorem add_next {l : List Fact} (h : checkM l = 0) (c : Chg) : addM l (c.fact (nextKn l)) = if (c.fact (nextKn l)).ok then (l ++ [c.fact (nextKn l)], 0) else ([], 40) := by
  unfold addM
  rw [if_pos h]
  by_cases hf : (c.fact (nextKn l)).ok
  · rw [if_pos hf, if_pos hf, if_pos (before_next c)]
  · rw [if_neg hf, if_neg hf]
theorem recM_nil (l : List Fact) : recM l [] = (l, 0) := by simp [recM, stamp]
theorem recM_cons (l : List Fact) (c : Chg) (r : List Chg) : recM l (c :: r) = if (c.fact (nextKn l)).ok then recM (l ++ [c.fact (nextKn l)]) r else ([], 40) := by
  have hk : nextKn (l ++ [c.fact (nextKn l)]) = nextKn l + 1 := by rw [nextKn_snoc]; rfl
  unfold recM
  rw [hk]
  by_cases hf : (c.fact (nextKn l)).ok
  · rw [if_pos hf]
    by_cases hr : ∀ f ∈ stamp (nextKn l + 1) r, f.ok
    · have ha : ∀ f ∈ stamp (nextKn l) (c :: r), f.ok := fun f hm => by
        cases hm with
        | head => exact hf
        | tail _ hm => exact hr f hm
      rw [if_pos hr, if_pos ha, List.append_assoc]; rfl
    · have ha : ¬ ∀ f ∈ stamp (nextKn l) (c :: r), f.ok := fun h => hr fun f hm => h f (.tail _ hm)
      rw [if_neg hr, if_neg ha]
  · have ha : ¬ ∀ f ∈ stamp (nextKn l) (c :: r), f.ok := fun h => hf (h _ (.head _))
    rw [if_neg hf, if_neg ha]
theorem recM_len {l l' : List Fact} {cs : List Chg} {e : Int} (h : recM l cs = (l', e)) : l'.length ≤ l.length + cs.length := by
  have hs : ∀ (k : Int) (cs : List Chg), (stamp k cs).length = cs.length := fun k cs => by
    induction cs generalizing k with
    | nil => rfl
    | cons c r ih => simp [stamp, ih]
  unfold recM at h
  split at h <;> cases h
  · rw [List.length_append, hs]; exact Nat.le_refl _
  · exact Nat.zero_le _

theorem next_bound {l : List Fact} (h : checkM l = 0) : 1 ≤ nextKn l ∧ nextKn l ≤ 16777217 := by
  unfold nextKn
  cases hg : l.getLast? with
  | none => exact ⟨Int.le_refl _, by decide⟩
  | some g =>
    have hgo := (check_parts h).1 g (List.mem_of_getLast? hg)
    unfold Fact.ok at hgo
    simp only; omega
/-- No more facts than there can be. -/
def Sized (l : List Fact) : Prop := (l.length : Int) ≤ 1048576 + nextKn l
theorem Sized.snoc {l : List Fact} (h : Sized l) (c : Chg) : Sized (l ++ [c.fact (nextKn l)]) := by
  unfold Sized at *
  rw [nextKn_snoc, List.length_append]
  show ((l.length + 1 : Nat) : Int) ≤ 1048576 + (nextKn l + 1)
  omega
theorem Sized.lt {l : List Fact} (h : Sized l) (hc : checkM l = 0) : l.length < 2 ^ 25 := by
  have := next_bound hc
  unfold Sized at h
  omega
theorem last_get {l : List Fact} {g : Fact} (h : l.getLast? = some g) : (l.map Fact.d)[((l.length : Int) - 1).toNat]? = some g.d := by
  rw [List.getLast?_eq_getElem?] at h
  rw [show ((l.length : Int) - 1).toNat = l.length - 1 by omega, List.getElem?_map, h]; rfl
theorem branches_record (l : List Fact) (cs : List Chg) (hok : checkM l = 0) (hs : Sized l) (hc : cs.length < 2 ^ 63) : CallP Try.prog 52 [.d (SL 8 (l.map Fact.d)), .d (brD cs)] (retD [SL 8 ((recM l cs).1.map Fact.d), I (recM l cs).2]) := by
  refine exPure_sound (E := envOf Try.prog tt Try.f52.ntmps) (envOf_ok ttok mixed) Try.func52 (by rfl) rfl rfl (Nat.le_of_ble_eq_true rfl) ?_
  repeat' ((conv => whnf); first | with_reducible refine Dec.t (show true = true from rfl) ?_ | with_reducible refine Dec.t (show false = false from rfl) ?_ | with_reducible refine Dec.f (show ¬ (true = false) by decide) ?_ | with_reducible refine Dec.f (show ¬ (false = true) by decide) ?_ | refine Dec.t (by omega) ?_ | refine Dec.f (by omega) ?_ | refine Dec.split (fun _ => ?_) (fun _ => ?_) | refine Wr.id (by omega) ?_ | refine Chk.mk (by first | omega | exact rfl | (simp only [List.length_map]; omega) | (simp [room]; done) | (simp [room]; omega) | (simp [dropL, room]; done) | (simp [dropL, room]; omega)) ?_ | refine Nam.mk (List.length_map _) ?_ | refine Prep.skip ?_ | refine Eith.l ?_ | refine chk_t (x := D.flat _) (by assumption) ?_ | refine br_mk (fun _ => ?_) (fun _ => ?_) | fail)
  conv => whnf
  refine ALoop.at (E := envOf Try.prog tt Try.f52.ntmps) (envOf_ok ttok mixed) (X := Nat × List Fact) (fun x => [(12, .d (I x.1)), (4, .d (SL 8 (x.2.map Fact.d)))]) (fun _ => []) (fun x => x.1 ≤ cs.length ∧ checkM x.2 = 0 ∧ Sized x.2 ∧ recM x.2 (cs.drop x.1) = recM l cs)
    (fun x => cs.length - x.1) (0, l) (by repeat (first | exact trivial | refine And.intro rfl ?_ | refine And.intro (congrArg (fun n => V.d (I n)) (wrap_nat _ (by omega))) ?_)) rfl ⟨Nat.zero_le _, hok, hs, rfl⟩ ?_
  rintro ⟨i, x⟩ ⟨hi, hx, hn, hm⟩
  simp only at hi hx hn hm
  dsimp only
  by_cases hlt : i < cs.length
  · obtain ⟨c, hc0, hd⟩ := drop_get hlt
    have hc1 : (cs.map Chg.d)[((i : Nat) : Int).toNat]? = some c.d := map_get hc0
    rw [hd, recM_cons] at hm
    have hxl := hn.lt hx
    have hns := hn.snoc c
    have ha := facts_Add x (c.fact (nextKn x)) (by omega)
    rw [add_next hx] at ha
    have hsn := @check_snoc x (c.fact (nextKn x)) hx
    by_cases hf : (c.fact (nextKn x)).ok
    · rw [if_pos hf] at ha hm
      have hsn := hsn hf (before_next c)
      cases hg : x.getLast? with
      | none =>
        have : x = [] := by simpa using hg
        subst this
        have hz0 : ¬ (0 : Int) < (([] : List Fact).length : Int) := by simp
        repeat' ((conv => whnf); first | with_reducible refine Dec.t (show true = true from rfl) ?_ | with_reducible refine Dec.t (show false = false from rfl) ?_ | with_reducible refine Dec.f (show ¬ (true = false) by decide) ?_ | with_reducible refine Dec.f (show ¬ (false = true) by decide) ?_ | refine Dec.t (by omega) ?_ | refine Dec.f (by omega) ?_ | refine Dec.split (fun _ => ?_) (fun _ => ?_) | refine Wr.id (by omega) ?_ | refine Chk.mk (by first | omega | exact rfl | (simp only [List.length_map]; omega) | (simp [room]; done) | (simp [room]; omega) | (simp [dropL, room]; done) | (simp [dropL, room]; omega)) ?_ | refine Nam.mk (List.length_map _) ?_ | refine Prep.skip ?_ | refine Eith.l ?_ | refine chk_t (x := D.flat _) (by assumption) ?_ | refine br_mk (fun _ => ?_) (fun _ => ?_) | refine nthK_mk hc1 ?_ | refine ACall.of (ha) ?_ | refine APCall.of (ha) ?_ | fail)
        all_goals first | (exfalso; omega) | (exfalso; exact hz0 (by assumption)) | skip
        all_goals (conv => whnf)
        all_goals first
          | exact ⟨(i + 1, [] ++ [c.fact 1]), Wm.end (by repeat (first | exact trivial | refine And.intro rfl ?_ | refine And.intro (congrArg (fun n => V.d (I n)) (wrap_nat _ (by omega))) ?_)) rfl rfl rfl, ⟨hlt, hsn, hns, hm⟩, by show cs.length - (i + 1) < cs.length - i; omega⟩
      | some g =>
        have hk : nextKn x = g.known + 1 := by unfold nextKn; rw [hg]
        have hgo := (check_parts hx).1 g (List.mem_of_getLast? hg)
        unfold Fact.ok at hgo
        have hpos : 0 < x.length := by cases x <;> simp at hg ⊢
        have hg1 := last_get hg
        rw [hk] at ha hm hsn hns
        repeat' ((conv => whnf); first | with_reducible refine Dec.t (show true = true from rfl) ?_ | with_reducible refine Dec.t (show false = false from rfl) ?_ | with_reducible refine Dec.f (show ¬ (true = false) by decide) ?_ | with_reducible refine Dec.f (show ¬ (false = true) by decide) ?_ | refine Dec.t (by omega) ?_ | refine Dec.f (by omega) ?_ | refine Dec.split (fun _ => ?_) (fun _ => ?_) | refine Wr.id (by omega) ?_ | refine Chk.mk (by first | omega | exact rfl | (simp only [List.length_map]; omega) | (simp [room]; done) | (simp [room]; omega) | (simp [dropL, room]; done) | (simp [dropL, room]; omega)) ?_ | refine Nam.mk (List.length_map _) ?_ | refine Prep.skip ?_ | refine Eith.l ?_ | refine chk_t (x := D.flat _) (by assumption) ?_ | refine br_mk (fun _ => ?_) (fun _ => ?_) | refine nthK_mk hc1 ?_ | refine nthK_mk hg1 ?_ | refine ACall.of (ha) ?_ | refine APCall.of (ha) ?_ | fail)
        all_goals first | (exfalso; omega) | skip
        all_goals (conv => whnf)
        all_goals first
          | exact ⟨(i + 1, x ++ [c.fact (g.known + 1)]), Wm.end (by repeat (first | exact trivial | refine And.intro rfl ?_ | refine And.intro (congrArg (fun n => V.d (I n)) (wrap_nat _ (by omega))) ?_)) rfl rfl rfl, ⟨hlt, hsn, hns, hm⟩, by show cs.length - (i + 1) < cs.length - i; omega⟩
    · rw [if_neg hf] at ha hm
      rw [← hm]
      cases hg : x.getLast? with
      | none =>
        have : x = [] := by simpa using hg
        subst this
        have hz0 : ¬ (0 : Int) < (([] : List Fact).length : Int) := by simp
        repeat' ((conv => whnf); first | with_reducible refine Dec.t (show true = true from rfl) ?_ | with_reducible refine Dec.t (show false = false from rfl) ?_ | with_reducible refine Dec.f (show ¬ (true = false) by decide) ?_ | with_reducible refine Dec.f (show ¬ (false = true) by decide) ?_ | refine Dec.t (by omega) ?_ | refine Dec.f (by omega) ?_ | refine Dec.split (fun _ => ?_) (fun _ => ?_) | refine Wr.id (by omega) ?_ | refine Chk.mk (by first | omega | exact rfl | (simp only [List.length_map]; omega) | (simp [room]; done) | (simp [room]; omega) | (simp [dropL, room]; done) | (simp [dropL, room]; omega)) ?_ | refine Nam.mk (List.length_map _) ?_ | refine Prep.skip ?_ | refine Eith.l ?_ | refine chk_t (x := D.flat _) (by assumption) ?_ | refine br_mk (fun _ => ?_) (fun _ => ?_) | refine nthK_mk hc1 ?_ | refine ACall.of (ha) ?_ | refine APCall.of (ha) ?_ | fail)
        all_goals first | (exfalso; omega) | (exfalso; exact hz0 (by assumption)) | skip
        all_goals (conv => whnf)
        all_goals first | exact ⟨DLe.nil _ _ _, DLe.refl _, rfl⟩
      | some g =>
        have hk : nextKn x = g.known + 1 := by unfold nextKn; rw [hg]
        have hgo := (check_parts hx).1 g (List.mem_of_getLast? hg)
        unfold Fact.ok at hgo
        have hpos : 0 < x.length := by cases x <;> simp at hg ⊢
        have hg1 := last_get hg
        rw [hk] at ha
        repeat' ((conv => whnf); first | with_reducible refine Dec.t (show true = true from rfl) ?_ | with_reducible refine Dec.t (show false = false from rfl) ?_ | with_reducible refine Dec.f (show ¬ (true = false) by decide) ?_ | with_reducible refine Dec.f (show ¬ (false = true) by decide) ?_ | refine Dec.t (by omega) ?_ | refine Dec.f (by omega) ?_ | refine Dec.split (fun _ => ?_) (fun _ => ?_) | refine Wr.id (by omega) ?_ | refine Chk.mk (by first | omega | exact rfl | (simp only [List.length_map]; omega) | (simp [room]; done) | (simp [room]; omega) | (simp [dropL, room]; done) | (simp [dropL, room]; omega)) ?_ | refine Nam.mk (List.length_map _) ?_ | refine Prep.skip ?_ | refine Eith.l ?_ | refine chk_t (x := D.flat _) (by assumption) ?_ | refine br_mk (fun _ => ?_) (fun _ => ?_) | refine nthK_mk hc1 ?_ | refine nthK_mk hg1 ?_ | refine ACall.of (ha) ?_ | refine APCall.of (ha) ?_ | fail)
        all_goals first | (exfalso; omega) | skip
        all_goals (conv => whnf)
        all_goals first | exact ⟨DLe.nil _ _ _, DLe.refl _, rfl⟩
  · have : i = cs.length := by omega
    subst this
    rw [List.drop_length, recM_nil] at hm
    rw [← hm]
    repeat' ((conv => whnf); first | with_reducible refine Dec.t (show true = true from rfl) ?_ | with_reducible refine Dec.t (show false = false from rfl) ?_ | with_reducible refine Dec.f (show ¬ (true = false) by decide) ?_ | with_reducible refine Dec.f (show ¬ (false = true) by decide) ?_ | refine Dec.t (by omega) ?_ | refine Dec.f (by omega) ?_ | refine Dec.split (fun _ => ?_) (fun _ => ?_) | refine Wr.id (by omega) ?_ | refine Chk.mk (by first | omega | exact rfl | (simp only [List.length_map]; omega) | (simp [room]; done) | (simp [room]; omega) | (simp [dropL, room]; done) | (simp [dropL, room]; omega)) ?_ | refine Nam.mk (List.length_map _) ?_ | refine Prep.skip ?_ | refine Eith.l ?_ | refine chk_t (x := D.flat _) (by assumption) ?_ | refine br_mk (fun _ => ?_) (fun _ => ?_) | fail)
    all_goals first | (exfalso; omega) | skip
    all_goals (conv => whnf)
    all_goals first | exact ⟨DLe.refl _, DLe.refl _, rfl⟩
end Go.PM

/- Branches: lengths, open ones. -/
namespace Go.PM
open Go.Proofs
set_option maxRecDepth 10000
set_option maxHeartbeats 8000000

def Brn.at (b : Brn) (no : Int) : List Chg := b.br.getD no.toNat []
def lenM (b : Brn) (no : Int) : Nat := if no < 0 then b.base.length else (b.at no).length
theorem at_get {b : Brn} {no : Int} (h0 : ¬ no < 0) (h : no < b.br.length) : (b.br.map brD)[no.toNat]? = some (brD (b.at no)) := by
  have hl : no.toNat < b.br.length := by omega
  rw [List.getElem?_map, List.getElem?_eq_getElem hl]
  simp [Brn.at, hl]
theorem branches_length (b : Brn) (no : Int) (h : no < b.br.length) : CallP Try.prog 40 [.d b.d, .d (I no)] (retD [I (lenM b no)]) := by
  refine exPure_sound (E := envOf Try.prog tt Try.f40.ntmps) (envOf_ok ttok mixed) Try.func40 (by rfl) rfl rfl (Nat.le_of_ble_eq_true rfl) ?_
  unfold lenM
  by_cases h0 : no < 0
  · rw [if_pos h0]
    repeat' ((conv => whnf); first | with_reducible refine Dec.t (show true = true from rfl) ?_ | with_reducible refine Dec.t (show false = false from rfl) ?_ | with_reducible refine Dec.f (show ¬ (true = false) by decide) ?_ | with_reducible refine Dec.f (show ¬ (false = true) by decide) ?_ | refine Dec.t (by omega) ?_ | refine Dec.f (by omega) ?_ | refine Dec.split (fun _ => ?_) (fun _ => ?_) | refine Wr.id (by omega) ?_ | refine Chk.mk (by first | omega | exact rfl | (simp only [List.length_map]; omega) | (simp [room]; done) | (simp [room]; omega) | (simp [dropL, room]; done) | (simp [dropL, room]; omega)) ?_ | refine Nam.mk (List.length_map _) ?_ | refine Prep.skip ?_ | refine Eith.l ?_ | refine chk_t (x := D.flat _) (by assumption) ?_ | refine br_mk (fun _ => ?_) (fun _ => ?_) | fail)
    all_goals first | (exfalso; omega) | skip
    all_goals (conv => whnf)
    all_goals first | exact DLe.refl _
  · rw [if_neg h0]
    have h1 := at_get h0 h
    repeat' ((conv => whnf); first | with_reducible refine Dec.t (show true = true from rfl) ?_ | with_reducible refine Dec.t (show false = false from rfl) ?_ | with_reducible refine Dec.f (show ¬ (true = false) by decide) ?_ | with_reducible refine Dec.f (show ¬ (false = true) by decide) ?_ | refine Dec.t (by omega) ?_ | refine Dec.f (by omega) ?_ | refine Dec.split (fun _ => ?_) (fun _ => ?_) | refine Wr.id (by omega) ?_ | refine Chk.mk (by first | omega | exact rfl | (simp only [List.length_map]; omega) | (simp [room]; done) | (simp [room]; omega) | (simp [dropL, room]; done) | (simp [dropL, room]; omega)) ?_ | refine Nam.mk (List.length_map _) ?_ | refine Prep.skip ?_ | refine Eith.l ?_ | refine chk_t (x := D.flat _) (by assumption) ?_ | refine br_mk (fun _ => ?_) (fun _ => ?_) | refine nthK_mk h1 ?_ | fail)
    all_goals first | (exfalso; omega) | skip
    all_goals (conv => whnf)
    all_goals first | exact DLe.refl _
theorem ref54_length (b : Brn) (no : Int) (h : no < b.br.length) : CallP Try.prog 45 [.d b.d, .d (I no)] (retD [I (lenM b no)]) := by
  refine exPure_sound (E := envOf Try.prog tt Try.f45.ntmps) (envOf_ok ttok mixed) Try.func45 (by rfl) rfl rfl (Nat.le_of_ble_eq_true rfl) ?_
  unfold lenM
  by_cases h0 : no < 0
  · rw [if_pos h0]
    repeat' ((conv => whnf); first | with_reducible refine Dec.t (show true = true from rfl) ?_ | with_reducible refine Dec.t (show false = false from rfl) ?_ | with_reducible refine Dec.f (show ¬ (true = false) by decide) ?_ | with_reducible refine Dec.f (show ¬ (false = true) by decide) ?_ | refine Dec.t (by omega) ?_ | refine Dec.f (by omega) ?_ | refine Dec.split (fun _ => ?_) (fun _ => ?_) | refine Wr.id (by omega) ?_ | refine Chk.mk (by first | omega | exact rfl | (simp only [List.length_map]; omega) | (simp [room]; done) | (simp [room]; omega) | (simp [dropL, room]; done) | (simp [dropL, room]; omega)) ?_ | refine Nam.mk (List.length_map _) ?_ | refine Prep.skip ?_ | refine Eith.l ?_ | refine chk_t (x := D.flat _) (by assumption) ?_ | refine br_mk (fun _ => ?_) (fun _ => ?_) | fail)
    all_goals first | (exfalso; omega) | skip
    all_goals (conv => whnf)
    all_goals first | exact DLe.refl _
  · rw [if_neg h0]
    have h1 := at_get h0 h
    repeat' ((conv => whnf); first | with_reducible refine Dec.t (show true = true from rfl) ?_ | with_reducible refine Dec.t (show false = false from rfl) ?_ | with_reducible refine Dec.f (show ¬ (true = false) by decide) ?_ | with_reducible refine Dec.f (show ¬ (false = true) by decide) ?_ | refine Dec.t (by omega) ?_ | refine Dec.f (by omega) ?_ | refine Dec.split (fun _ => ?_) (fun _ => ?_) | refine Wr.id (by omega) ?_ | refine Chk.mk (by first | omega | exact rfl | (simp only [List.length_map]; omega) | (simp [room]; done) | (simp [room]; omega) | (simp [dropL, room]; done) | (simp [dropL, room]; omega)) ?_ | refine Nam.mk (List.length_map _) ?_ | refine Prep.skip ?_ | refine Eith.l ?_ | refine chk_t (x := D.flat _) (by assumption) ?_ | refine br_mk (fun _ => ?_) (fun _ => ?_) | refine nthK_mk h1 ?_ | fail)
    all_goals first | (exfalso; omega) | skip
    all_goals (conv => whnf)
    all_goals first | exact DLe.refl _

def openP (b : Brn) (no : Int) : Prop := 0 ≤ no ∧ no < b.br.length ∧ b.done.getD no.toNat true = false
instance (b : Brn) (no : Int) : Decidable (openP b no) := by unfold openP; infer_instance
theorem open_T {x y : Bool} (h : x = y) : VLe (outD (.d (.b x)) [.b x]) (retD [.b y]) := leafB h
theorem branches_open (b : Brn) (no : Int) (h : b.br.length ≤ b.done.length) : CallP Try.prog 37 [.d b.d, .d (I no)] (retD [.b (decide (openP b no))]) := by
  refine exPure_sound (E := envOf Try.prog tt Try.f37.ntmps) (envOf_ok ttok mixed) Try.func37 (by rfl) rfl rfl (Nat.le_of_ble_eq_true rfl) ?_
  by_cases h0 : 0 ≤ no ∧ no < b.br.length
  · have hl : no.toNat < b.done.length := by omega
    have h1 : (b.done.map B)[no.toNat]? = some (B (b.done.getD no.toNat true)) := by
      rw [List.getElem?_map, List.getElem?_eq_getElem hl]; simp [hl]
    have hd : decide (openP b no) = !(b.done.getD no.toNat true) := by
      rw [Bool.eq_iff_iff]; simp [openP, h0, hl]
    rw [hd]
    repeat' ((conv => whnf); first | with_reducible refine Dec.t (show true = true from rfl) ?_ | with_reducible refine Dec.t (show false = false from rfl) ?_ | with_reducible refine Dec.f (show ¬ (true = false) by decide) ?_ | with_reducible refine Dec.f (show ¬ (false = true) by decide) ?_ | refine Dec.t (by omega) ?_ | refine Dec.f (by omega) ?_ | refine Dec.split (fun _ => ?_) (fun _ => ?_) | refine Wr.id (by omega) ?_ | refine Chk.mk (by first | omega | exact rfl | (simp only [List.length_map]; omega) | (simp [room]; done) | (simp [room]; omega) | (simp [dropL, room]; done) | (simp [dropL, room]; omega)) ?_ | refine Nam.mk (List.length_map _) ?_ | refine Prep.skip ?_ | refine Eith.l ?_ | refine chk_t (x := D.flat _) (by assumption) ?_ | refine br_mk (fun _ => ?_) (fun _ => ?_) | refine nthK_mk h1 ?_ | fail)
    all_goals first | (exfalso; omega) | skip
    all_goals (conv => whnf)
    all_goals first | exact DLe.refl _
  · have hd : decide (openP b no) = false := decide_eq_false fun h => h0 ⟨h.1, h.2.1⟩
    rw [hd]
    repeat' ((conv => whnf); first | with_reducible refine Dec.t (show true = true from rfl) ?_ | with_reducible refine Dec.t (show false = false from rfl) ?_ | with_reducible refine Dec.f (show ¬ (true = false) by decide) ?_ | with_reducible refine Dec.f (show ¬ (false = true) by decide) ?_ | refine Dec.t (by omega) ?_ | refine Dec.f (by omega) ?_ | refine Dec.split (fun _ => ?_) (fun _ => ?_) | refine Wr.id (by omega) ?_ | refine Chk.mk (by first | omega | exact rfl | (simp only [List.length_map]; omega) | (simp [room]; done) | (simp [room]; omega) | (simp [dropL, room]; done) | (simp [dropL, room]; omega)) ?_ | refine Nam.mk (List.length_map _) ?_ | refine Prep.skip ?_ | refine Eith.l ?_ | refine chk_t (x := D.flat _) (by assumption) ?_ | refine br_mk (fun _ => ?_) (fun _ => ?_) | fail)
    all_goals first | (exfalso; omega) | skip
    all_goals (conv => whnf)
    all_goals first | exact DLe.refl _
theorem ref54_open (b : Brn) (no : Int) (h : b.br.length ≤ b.done.length) : CallP Try.prog 43 [.d b.d, .d (I no)] (retD [.b (decide (openP b no))]) := by
  refine exPure_sound (E := envOf Try.prog tt Try.f43.ntmps) (envOf_ok ttok mixed) Try.func43 (by rfl) rfl rfl (Nat.le_of_ble_eq_true rfl) ?_
  by_cases h0 : 0 ≤ no ∧ no < b.br.length
  · have hl : no.toNat < b.done.length := by omega
    have h1 : (b.done.map B)[no.toNat]? = some (B (b.done.getD no.toNat true)) := by
      rw [List.getElem?_map, List.getElem?_eq_getElem hl]; simp [hl]
    have hd : decide (openP b no) = !(b.done.getD no.toNat true) := by
      rw [Bool.eq_iff_iff]; simp [openP, h0, hl]
    rw [hd]
    repeat' ((conv => whnf); first | with_reducible refine Dec.t (show true = true from rfl) ?_ | with_reducible refine Dec.t (show false = false from rfl) ?_ | with_reducible refine Dec.f (show ¬ (true = false) by decide) ?_ | with_reducible refine Dec.f (show ¬ (false = true) by decide) ?_ | refine Dec.t (by omega) ?_ | refine Dec.f (by omega) ?_ | refine Dec.split (fun _ => ?_) (fun _ => ?_) | refine Wr.id (by omega) ?_ | refine Chk.mk (by first | omega | exact rfl | (simp only [List.length_map]; omega) | (simp [room]; done) | (simp [room]; omega) | (simp [dropL, room]; done) | (simp [dropL, room]; omega)) ?_ | refine Nam.mk (List.length_map _) ?_ | refine Prep.skip ?_ | refine Eith.l ?_ | refine chk_t (x := D.flat _) (by assumption) ?_ | refine br_mk (fun _ => ?_) (fun _ => ?_) | refine nthK_mk h1 ?_ | fail)
    all_goals first | (exfalso; omega) | skip
    all_goals (conv => whnf)
    all_goals first | exact DLe.refl _
  · have hd : decide (openP b no) = false := decide_eq_false fun h => h0 ⟨h.1, h.2.1⟩
    rw [hd]
    repeat' ((conv => whnf); first | with_reducible refine Dec.t (show true = true from rfl) ?_ | with_reducible refine Dec.t (show false = false from rfl) ?_ | with_reducible refine Dec.f (show ¬ (true = false) by decide) ?_ | with_reducible refine Dec.f (show ¬ (false = true) by decide) ?_ | refine Dec.t (by omega) ?_ | refine Dec.f (by omega) ?_ | refine Dec.split (fun _ => ?_) (fun _ => ?_) | refine Wr.id (by omega) ?_ | refine Chk.mk (by first | omega | exact rfl | (simp only [List.length_map]; omega) | (simp [room]; done) | (simp [room]; omega) | (simp [dropL, room]; done) | (simp [dropL, room]; omega)) ?_ | refine Nam.mk (List.length_map _) ?_ | refine Prep.skip ?_ | refine Eith.l ?_ | refine chk_t (x := D.flat _) (by assumption) ?_ | refine br_mk (fun _ => ?_) (fun _ => ?_) | fail)
    all_goals first | (exfalso; omega) | skip
    all_goals (conv => whnf)
    all_goals first | exact DLe.refl _
end Go.PM

/- Branches: the facts of a branch (the document's). -/
namespace Go.PM
open Go.Proofs
set_option maxRecDepth 10000
set_option maxHeartbeats 8000000

/-- The facts of a branch with its first changes, and the error. -/
def withM (b : Brn) (no : Int) (many : Nat) : List Fact × Int :=
  if _h : no < 0 then (b.base.take many, 0)
  else if _h2 : b.par.getD no.toNat 0 < no then
    (if (withM b (b.par.getD no.toNat 0) (b.forks.getD no.toNat 0).toNat).2 = 0 then recM (withM b (b.par.getD no.toNat 0) (b.forks.getD no.toNat 0).toNat).1 ((b.at no).take many)
    else ([], (withM b (b.par.getD no.toNat 0) (b.forks.getD no.toNat 0).toNat).2))
  else ([], 0)
termination_by (no + 1).toNat
decreasing_by all_goals omega

/-- The lists are of the right lengths, the numbers in range. -/
structure Brn.formed (b : Brn) : Prop where
  n : b.br.length ≤ 64
  p : b.par.length = b.br.length
  f : b.forks.length = b.br.length
  d : b.done.length = b.br.length
  each : ∀ i : Nat, i < b.br.length → -1 ≤ b.par.getD i 0 ∧ b.par.getD i 0 < i ∧ 0 ≤ b.forks.getD i 0 ∧ b.forks.getD i 0 ≤ lenM b (b.par.getD i 0)
/-- How much there is. -/
def Brn.total (b : Brn) : Nat := b.base.length + (b.br.map List.length).sum
theorem with_neg {b : Brn} {no : Int} (h : no < 0) (many : Nat) : withM b no many = (b.base.take many, 0) := by rw [withM, dif_pos h]
theorem with_pos {b : Brn} (hf : b.formed) {no : Int} (h0 : ¬ no < 0) (h : no < b.br.length) (many : Nat) :
    withM b no many = if (withM b (b.par.getD no.toNat 0) (b.forks.getD no.toNat 0).toNat).2 = 0 then recM (withM b (b.par.getD no.toNat 0) (b.forks.getD no.toNat 0).toNat).1 ((b.at no).take many)
      else ([], (withM b (b.par.getD no.toNat 0) (b.forks.getD no.toNat 0).toNat).2) := by
  have := hf.each no.toNat (by omega)
  conv => lhs; rw [withM]
  rw [dif_neg h0, dif_pos (by omega)]
theorem rising_take : ∀ {l : List Fact} (n : Nat), rising l → rising (l.take n)
  | [], n, _ => by simp [rising]
  | [a], 0, _ => trivial
  | [a], n + 1, _ => by simp [rising]
  | a :: b :: r, 0, _ => trivial
  | a :: b :: r, 1, _ => trivial
  | a :: b :: r, n + 2, h => ⟨h.1, rising_take (l := b :: r) (n + 1) h.2⟩
theorem check_take {l : List Fact} (h : checkM l = 0) (n : Nat) : checkM (l.take n) = 0 := by
  obtain ⟨h1, h2⟩ := check_parts h
  unfold checkM
  rw [if_pos fun f hf => h1 f (List.mem_of_mem_take hf), if_pos (rising_take n h2)]
theorem recM_check {l : List Fact} : ∀ {cs : List Chg} (h : checkM l = 0), (recM l cs).2 = 0 → checkM (recM l cs).1 = 0 := fun {cs} => by
  induction cs generalizing l with
  | nil => intro h _; rw [recM_nil]; exact h
  | cons c r ih =>
    intro h he
    rw [recM_cons] at he ⊢
    by_cases hf : (c.fact (nextKn l)).ok
    · rw [if_pos hf] at he ⊢
      exact ih (check_snoc h hf (before_next c)) he
    · rw [if_neg hf] at he; cases he
theorem with_check {b : Brn} (hf : b.formed) (hb : checkM b.base = 0) : ∀ (no : Int) (many : Nat), no < b.br.length → (withM b no many).2 = 0 → checkM (withM b no many).1 = 0 := by
  have key : ∀ (m : Nat) (no : Int) (many : Nat), (no + 1).toNat ≤ m → no < b.br.length → (withM b no many).2 = 0 → checkM (withM b no many).1 = 0 := by
    intro m
    induction m with
    | zero =>
      intro no many hm hn _
      rw [with_neg (by omega)]
      exact check_take hb _
    | succ m ih =>
      intro no many hm hn he
      by_cases h0 : no < 0
      · rw [with_neg h0]; exact check_take hb _
      · have he1 := hf.each no.toNat (by omega)
        rw [with_pos hf h0 hn] at he ⊢
        by_cases h2 : (withM b (b.par.getD no.toNat 0) (b.forks.getD no.toNat 0).toNat).2 = 0
        · rw [if_pos h2] at he ⊢
          exact recM_check (ih _ _ (by omega) (by omega) h2) he
        · rw [if_neg h2] at he; exact absurd he h2
  exact fun no many => key _ no many (Nat.le_refl _)
theorem recM_sized {l : List Fact} : ∀ {cs : List Chg}, checkM l = 0 → Sized l → (recM l cs).2 = 0 → Sized (recM l cs).1 := fun {cs} => by
  induction cs generalizing l with
  | nil => intro _ h _; rw [recM_nil]; exact h
  | cons c r ih =>
    intro hc h he
    rw [recM_cons] at he ⊢
    by_cases hf : (c.fact (nextKn l)).ok
    · rw [if_pos hf] at he ⊢
      exact ih (check_snoc hc hf (before_next c)) (h.snoc c) he
    · rw [if_neg hf] at he; cases he
theorem sized_take {l : List Fact} (hb : checkM l = 0) (h : l.length < 2 ^ 20) (n : Nat) : Sized (l.take n) := by
  have := (next_bound (check_take hb n)).1
  unfold Sized
  rw [List.length_take]
  omega
theorem with_sized {b : Brn} (hf : b.formed) (hb : checkM b.base = 0) (hl : b.base.length < 2 ^ 20) : ∀ (no : Int) (many : Nat), no < b.br.length → (withM b no many).2 = 0 → Sized (withM b no many).1 := by
  have key : ∀ (m : Nat) (no : Int) (many : Nat), (no + 1).toNat ≤ m → no < b.br.length → (withM b no many).2 = 0 → Sized (withM b no many).1 := by
    intro m
    induction m with
    | zero =>
      intro no many hm hn _
      rw [with_neg (by omega)]
      exact sized_take hb hl _
    | succ m ih =>
      intro no many hm hn he
      by_cases h0 : no < 0
      · rw [with_neg h0]; exact sized_take hb hl _
      · have he1 := hf.each no.toNat (by omega)
        rw [with_pos hf h0 hn] at he ⊢
        by_cases h2 : (withM b (b.par.getD no.toNat 0) (b.forks.getD no.toNat 0).toNat).2 = 0
        · rw [if_pos h2] at he ⊢
          exact recM_sized (with_check hf hb _ _ (by omega) h2) (ih _ _ (by omega) (by omega) h2) he
        · rw [if_neg h2] at he; exact absurd he h2
  exact fun no many => key _ no many (Nat.le_refl _)
theorem sum_take_succ {l : List (List Chg)} {n : Nat} (h : n < l.length) : ((l.take (n + 1)).map List.length).sum = ((l.take n).map List.length).sum + (l.getD n []).length := by
  rw [List.take_add_one, List.getElem?_eq_getElem h, Option.toList_some, List.map_append, List.sum_append]
  congr 1
  simp [h]
theorem sum_take_le (l : List (List Chg)) {n m : Nat} (h : n ≤ m) : ((l.take n).map List.length).sum ≤ ((l.take m).map List.length).sum := by
  induction l generalizing n m with
  | nil => simp
  | cons a l ih =>
    cases n with
    | zero => simp
    | succ n =>
      cases m with
      | zero => omega
      | succ m => simp only [List.take_succ_cons, List.map_cons, List.sum_cons]; have := @ih n m (by omega); omega
theorem recM_len' (l : List Fact) (cs : List Chg) : (recM l cs).1.length ≤ l.length + cs.length := recM_len (l' := (recM l cs).1) (e := (recM l cs).2) rfl
theorem with_len0 {b : Brn} (hf : b.formed) : ∀ (no : Int) (many : Nat), no < b.br.length → (withM b no many).1.length ≤ b.base.length + ((b.br.take (no + 1).toNat).map List.length).sum := by
  have key : ∀ (m : Nat) (no : Int) (many : Nat), (no + 1).toNat ≤ m → no < b.br.length → (withM b no many).1.length ≤ b.base.length + ((b.br.take (no + 1).toNat).map List.length).sum := by
    intro m
    induction m with
    | zero =>
      intro no many hm hn
      rw [with_neg (by omega)]
      have : (b.base.take many).length ≤ b.base.length := by rw [List.length_take]; omega
      simp only; omega
    | succ m ih =>
      intro no many hm hn
      by_cases h0 : no < 0
      · rw [with_neg h0]
        have : (b.base.take many).length ≤ b.base.length := by rw [List.length_take]; omega
        simp only; omega
      · have he1 := hf.each no.toNat (by omega)
        rw [with_pos hf h0 hn]
        by_cases h2 : (withM b (b.par.getD no.toNat 0) (b.forks.getD no.toNat 0).toNat).2 = 0
        · rw [if_pos h2]
          have h3 := ih (b.par.getD no.toNat 0) (b.forks.getD no.toNat 0).toNat (by omega) (by omega)
          have h4 := recM_len' (withM b (b.par.getD no.toNat 0) (b.forks.getD no.toNat 0).toNat).1 ((b.at no).take many)
          have h5 : ((b.at no).take many).length ≤ (b.at no).length := by rw [List.length_take]; omega
          have h6 := sum_take_le b.br (show (b.par.getD no.toNat 0 + 1).toNat ≤ no.toNat by omega)
          have h7 := sum_take_succ (l := b.br) (n := no.toNat) (by omega)
          rw [show (no + 1).toNat = no.toNat + 1 by omega]
          unfold Brn.at at h5 h4
          unfold Brn.at
          omega
        · rw [if_neg h2]; exact Nat.zero_le _
  exact fun no many => key _ no many (Nat.le_refl _)
theorem with_len {b : Brn} (hf : b.formed) (no : Int) (many : Nat) (h : no < b.br.length) : (withM b no many).1.length ≤ b.total := by
  have h1 := with_len0 hf no many h
  have h2 := sum_take_le b.br (show (no + 1).toNat ≤ b.br.length by omega)
  rw [List.take_length] at h2
  unfold Brn.total; omega
theorem at_len (b : Brn) (no : Int) : (b.at no).length ≤ b.total := by
  unfold Brn.at Brn.total
  by_cases h : no.toNat < b.br.length
  · have h1 := sum_take_succ h
    have h2 := sum_take_le b.br (show no.toNat + 1 ≤ b.br.length by omega)
    rw [List.take_length] at h2
    omega
  · simp [h]

theorem ref54_record (l : List Fact) (c : Chg) (hok : checkM l = 0) (hl : l.length < 2 ^ 25) : CallP Try.prog 49 [.d (SL 8 (l.map Fact.d)), .d c.d] (retD [SL 8 ((addM l (c.fact (nextKn l))).1.map Fact.d), I (addM l (c.fact (nextKn l))).2]) := by
  refine exPure_sound (E := envOf Try.prog tt Try.f49.ntmps) (envOf_ok ttok mixed) Try.func49 (by rfl) rfl rfl (Nat.le_of_ble_eq_true rfl) ?_
  have ha := ref04_Add l (c.fact (nextKn l)) (by omega)
  cases hg : l.getLast? with
  | none =>
    have : l = [] := by simpa using hg
    subst this
    have hz0 : ¬ (0 : Int) < (([] : List Fact).length : Int) := by simp
    repeat' ((conv => whnf); first | with_reducible refine Dec.t (show true = true from rfl) ?_ | with_reducible refine Dec.t (show false = false from rfl) ?_ | with_reducible refine Dec.f (show ¬ (true = false) by decide) ?_ | with_reducible refine Dec.f (show ¬ (false = true) by decide) ?_ | refine Dec.t (by omega) ?_ | refine Dec.f (by omega) ?_ | refine Dec.split (fun _ => ?_) (fun _ => ?_) | refine Wr.id (by omega) ?_ | refine Chk.mk (by first | omega | exact rfl | (simp only [List.length_map]; omega) | (simp [room]; done) | (simp [room]; omega) | (simp [dropL, room]; done) | (simp [dropL, room]; omega)) ?_ | refine Nam.mk (List.length_map _) ?_ | refine Prep.skip ?_ | refine Eith.l ?_ | refine chk_t (x := D.flat _) (by assumption) ?_ | refine br_mk (fun _ => ?_) (fun _ => ?_) | refine ACall.of (ha) ?_ | refine APCall.of (ha) ?_ | fail)
    all_goals first | (exfalso; omega) | (exfalso; exact hz0 (by assumption)) | skip
    all_goals (conv => whnf)
    all_goals first | exact ⟨DLe.refl _, DLe.refl _, rfl⟩
  | some g =>
    have hk : nextKn l = g.known + 1 := by unfold nextKn; rw [hg]
    have hgo := (check_parts hok).1 g (List.mem_of_getLast? hg)
    unfold Fact.ok at hgo
    have hpos : 0 < l.length := by cases l <;> simp at hg ⊢
    have hg1 := last_get hg
    rw [hk] at ha ⊢
    repeat' ((conv => whnf); first | with_reducible refine Dec.t (show true = true from rfl) ?_ | with_reducible refine Dec.t (show false = false from rfl) ?_ | with_reducible refine Dec.f (show ¬ (true = false) by decide) ?_ | with_reducible refine Dec.f (show ¬ (false = true) by decide) ?_ | refine Dec.t (by omega) ?_ | refine Dec.f (by omega) ?_ | refine Dec.split (fun _ => ?_) (fun _ => ?_) | refine Wr.id (by omega) ?_ | refine Chk.mk (by first | omega | exact rfl | (simp only [List.length_map]; omega) | (simp [room]; done) | (simp [room]; omega) | (simp [dropL, room]; done) | (simp [dropL, room]; omega)) ?_ | refine Nam.mk (List.length_map _) ?_ | refine Prep.skip ?_ | refine Eith.l ?_ | refine chk_t (x := D.flat _) (by assumption) ?_ | refine br_mk (fun _ => ?_) (fun _ => ?_) | refine nthK_mk hg1 ?_ | refine ACall.of (ha) ?_ | refine APCall.of (ha) ?_ | fail)
    all_goals first | (exfalso; omega) | skip
    all_goals (conv => whnf)
    all_goals first | exact ⟨DLe.refl _, DLe.refl _, rfl⟩
theorem ref54_recordAll (l : List Fact) (cs : List Chg) (hok : checkM l = 0) (hs : Sized l) (hc : cs.length < 2 ^ 63) : CallP Try.prog 54 [.d (SL 8 (l.map Fact.d)), .d (brD cs)] (retD [SL 8 ((recM l cs).1.map Fact.d), I (recM l cs).2]) := by
  refine exPure_sound (E := envOf Try.prog tt Try.f54.ntmps) (envOf_ok ttok mixed) Try.func54 (by rfl) rfl rfl (Nat.le_of_ble_eq_true rfl) ?_
  repeat' ((conv => whnf); first | with_reducible refine Dec.t (show true = true from rfl) ?_ | with_reducible refine Dec.t (show false = false from rfl) ?_ | with_reducible refine Dec.f (show ¬ (true = false) by decide) ?_ | with_reducible refine Dec.f (show ¬ (false = true) by decide) ?_ | refine Dec.t (by omega) ?_ | refine Dec.f (by omega) ?_ | refine Dec.split (fun _ => ?_) (fun _ => ?_) | refine Wr.id (by omega) ?_ | refine Chk.mk (by first | omega | exact rfl | (simp only [List.length_map]; omega) | (simp [room]; done) | (simp [room]; omega) | (simp [dropL, room]; done) | (simp [dropL, room]; omega)) ?_ | refine Nam.mk (List.length_map _) ?_ | refine Prep.skip ?_ | refine Eith.l ?_ | refine chk_t (x := D.flat _) (by assumption) ?_ | refine br_mk (fun _ => ?_) (fun _ => ?_) | fail)
  conv => whnf
  refine ALoop.at (E := envOf Try.prog tt Try.f54.ntmps) (envOf_ok ttok mixed) (X := Nat × List Fact) (fun x => [(6, .d (I x.1)), (0, .d (SL 8 (x.2.map Fact.d)))]) (fun _ => []) (fun x => x.1 ≤ cs.length ∧ checkM x.2 = 0 ∧ Sized x.2 ∧ recM x.2 (cs.drop x.1) = recM l cs)
    (fun x => cs.length - x.1) (0, l) (by repeat (first | exact trivial | refine And.intro rfl ?_ | refine And.intro (congrArg (fun n => V.d (I n)) (wrap_nat _ (by omega))) ?_)) rfl ⟨Nat.zero_le _, hok, hs, rfl⟩ ?_
  rintro ⟨i, x⟩ ⟨hi, hx, hn, hm⟩
  simp only at hi hx hn hm
  dsimp only
  by_cases hlt : i < cs.length
  · obtain ⟨c, hc0, hd⟩ := drop_get hlt
    have hc1 : (cs.map Chg.d)[((i : Nat) : Int).toNat]? = some c.d := map_get hc0
    rw [hd, recM_cons] at hm
    have hns := hn.snoc c
    have ha := ref54_record x c hx (hn.lt hx)
    rw [add_next hx] at ha
    have hsn := @check_snoc x (c.fact (nextKn x)) hx
    by_cases hf : (c.fact (nextKn x)).ok
    · rw [if_pos hf] at ha hm
      have hsn := hsn hf (before_next c)
      repeat' ((conv => whnf); first | with_reducible refine Dec.t (show true = true from rfl) ?_ | with_reducible refine Dec.t (show false = false from rfl) ?_ | with_reducible refine Dec.f (show ¬ (true = false) by decide) ?_ | with_reducible refine Dec.f (show ¬ (false = true) by decide) ?_ | refine Dec.t (by omega) ?_ | refine Dec.f (by omega) ?_ | refine Dec.split (fun _ => ?_) (fun _ => ?_) | refine Wr.id (by omega) ?_ | refine Chk.mk (by first | omega | exact rfl | (simp only [List.length_map]; omega) | (simp [room]; done) | (simp [room]; omega) | (simp [dropL, room]; done) | (simp [dropL, room]; omega)) ?_ | refine Nam.mk (List.length_map _) ?_ | refine Prep.skip ?_ | refine Eith.l ?_ | refine chk_t (x := D.flat _) (by assumption) ?_ | refine br_mk (fun _ => ?_) (fun _ => ?_) | refine nthK_mk hc1 ?_ | refine ACall.of (ha) ?_ | refine APCall.of (ha) ?_ | fail)
      all_goals first | (exfalso; omega) | skip
      all_goals (conv => whnf)
      all_goals first
        | exact ⟨(i + 1, x ++ [c.fact (nextKn x)]), Wm.end (by repeat (first | exact trivial | refine And.intro rfl ?_ | refine And.intro (congrArg (fun n => V.d (I n)) (wrap_nat _ (by omega))) ?_)) rfl rfl rfl, ⟨hlt, hsn, hns, hm⟩, by show cs.length - (i + 1) < cs.length - i; omega⟩
    · rw [if_neg hf] at ha hm
      rw [← hm]
      repeat' ((conv => whnf); first | with_reducible refine Dec.t (show true = true from rfl) ?_ | with_reducible refine Dec.t (show false = false from rfl) ?_ | with_reducible refine Dec.f (show ¬ (true = false) by decide) ?_ | with_reducible refine Dec.f (show ¬ (false = true) by decide) ?_ | refine Dec.t (by omega) ?_ | refine Dec.f (by omega) ?_ | refine Dec.split (fun _ => ?_) (fun _ => ?_) | refine Wr.id (by omega) ?_ | refine Chk.mk (by first | omega | exact rfl | (simp only [List.length_map]; omega) | (simp [room]; done) | (simp [room]; omega) | (simp [dropL, room]; done) | (simp [dropL, room]; omega)) ?_ | refine Nam.mk (List.length_map _) ?_ | refine Prep.skip ?_ | refine Eith.l ?_ | refine chk_t (x := D.flat _) (by assumption) ?_ | refine br_mk (fun _ => ?_) (fun _ => ?_) | refine nthK_mk hc1 ?_ | refine ACall.of (ha) ?_ | refine APCall.of (ha) ?_ | fail)
      all_goals first | (exfalso; omega) | skip
      all_goals (conv => whnf)
      all_goals first | exact ⟨DLe.nil _ _ _, DLe.refl _, rfl⟩
  · have : i = cs.length := by omega
    subst this
    rw [List.drop_length, recM_nil] at hm
    rw [← hm]
    repeat' ((conv => whnf); first | with_reducible refine Dec.t (show true = true from rfl) ?_ | with_reducible refine Dec.t (show false = false from rfl) ?_ | with_reducible refine Dec.f (show ¬ (true = false) by decide) ?_ | with_reducible refine Dec.f (show ¬ (false = true) by decide) ?_ | refine Dec.t (by omega) ?_ | refine Dec.f (by omega) ?_ | refine Dec.split (fun _ => ?_) (fun _ => ?_) | refine Wr.id (by omega) ?_ | refine Chk.mk (by first | omega | exact rfl | (simp only [List.length_map]; omega) | (simp [room]; done) | (simp [room]; omega) | (simp [dropL, room]; done) | (simp [dropL, room]; omega)) ?_ | refine Nam.mk (List.length_map _) ?_ | refine Prep.skip ?_ | refine Eith.l ?_ | refine chk_t (x := D.flat _) (by assumption) ?_ | refine br_mk (fun _ => ?_) (fun _ => ?_) | fail)
    all_goals first | (exfalso; omega) | skip
    all_goals (conv => whnf)
    all_goals first | exact ⟨DLe.refl _, DLe.refl _, rfl⟩
end Go.PM

