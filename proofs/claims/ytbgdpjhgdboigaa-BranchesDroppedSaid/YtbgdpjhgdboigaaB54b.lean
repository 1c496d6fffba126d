/- Branches: recording, lengths. -/
import Derived.Test.YtbgdpjhgdboigaaB54a
namespace Go.PM
open Go.Proofs
set_option maxRecDepth 10000
set_option maxHeartbeats 8000000

def Chg.fact (c : Chg) (known : Int) : Fact := ⟨c.kind, c.subj, c.obj, c.value, c.from_, c.to_, known, 0⟩
def nextKn (l : List Fact) : Int := match l.getLast? with
  | none => 1
  | some f => f.known + 1
def stamp : Int → List Chg → List Fact
  | _, [] => []
  | k, c :: r => c.fact k :: stamp (k + 1) r
/-- Facts with changes recorded, and the error. -/
def recM (l : List Fact) (cs : List Chg) : List Fact × Int := if ∀ f ∈ stamp (nextKn l) cs, f.ok then (l ++ stamp (nextKn l) cs, 0) else ([], 40)
theorem nextKn_snoc (l : List Fact) (f : Fact) : nextKn (l ++ [f]) = f.known + 1 := by simp [nextKn]
theorem before_next {l : List Fact} (c : Chg) : ∀ g, l.getLast? = some g → before g (c.fact (nextKn l)) := fun g hg => by
  unfold nextKn; rw [hg]; exact .inl (by show g.known < g.known + 1; omega)
theorem check_parts {l : List Fact} (h : checkM l = 0) : (∀ f ∈ l, f.ok) ∧ rising l := by
  unfold checkM at h
  split at h
  · split at h
    · exact ⟨by assumption, by assumption⟩
    · cases h
  · cases h
theorem rising_snoc : ∀ {l : List Fact} {f : Fact}, rising l → (∀ g, l.getLast? = some g → before g f) → rising (l ++ [f])
  | [], f, _, _ => trivial
  | [a], f, _, h => ⟨h a rfl, trivial⟩
  | a :: b :: r, f, h, hb => ⟨h.1, rising_snoc (l := b :: r) h.2 fun g hg => hb g (by simpa using hg)⟩
theorem check_snoc {l : List Fact} {f : Fact} (h : checkM l = 0) (hf : f.ok) (hb : ∀ g, l.getLast? = some g → before g f) : checkM (l ++ [f]) = 0 := by
  obtain ⟨h1, h2⟩ := check_parts h
  unfold checkM
  rw [if_pos (fun g hg => by
    rcases List.mem_append.1 hg with hg | hg
    · exact h1 g hg
    · simp at hg; subst hg; exact hf), if_pos (rising_snoc h2 hb)]
theorem add_next {l : List Fact} (h : checkM l = 0) (c : Chg) : addM l (c.fact (nextKn l)) = if (c.fact (nextKn l)).ok then (l ++ [c.fact (nextKn l)], 0) else ([], 40) := by
  unfold addM
  rw [if_pos h]
  by_cases hf : (c.fact (nextKn l)).ok
  · rw [if_pos hf, if_pos hf, if_pos (before_next c)]
  · rw [if_neg hf, if_neg hf]
theorem recM_nil (l : List Fact) : recM l [] = (l, 0) := by simp [recM, stamp]
theorem recM_cons (l : List Fact) (c : Chg) (r : List Chg) : recM l (c :: r) = if (c.fact (nextKn l)).ok then recM (l ++ [c.fact (nextKn l)]) r else ([], 40) := by
  have hk : nextKn (l ++ [c.fact (nextKn l)]) = nextKn l + 1 := by rw [nextKn_snoc]; rfl
  unfold recM
  rw [hk]
  by_cases hf : (c.fact (nextKn l)).ok
  · rw [if_pos hf]
    by_cases hr : ∀ f ∈ stamp (nextKn l + 1) r, f.ok
    · have ha : ∀ f ∈ stamp (nextKn l) (c :: r), f.ok := fun f hm => by
        cases hm with
        | head => exact hf
        | tail _ hm => exact hr f hm
      rw [if_pos hr, if_pos ha, List.append_assoc]; rfl
    · have ha : ¬ ∀ f ∈ stamp (nextKn l) (c :: r), f.ok := fun h => hr fun f hm => h f (.tail _ hm)
      rw [if_neg hr, if_neg ha]
  · have ha : ¬ ∀ f ∈ stamp (nextKn l) (c :: r), f.ok := fun h => hf (h _ (.head _))
    rw [if_neg hf, if_neg ha]
theorem recM_len {l l' : List Fact} {cs : List Chg} {e : Int} (h : recM l cs = (l', e)) : l'.length ≤ l.length + cs.length := by
  have hs : ∀ (k : Int) (cs : List Chg), (stamp k cs).length = cs.length := fun k cs => by
    induction cs generalizing k with
    | nil => rfl
    | cons c r ih => simp [stamp, ih]
  unfold recM at h
  split at h <;> cases h
  · rw [List.length_append, hs]; exact Nat.le_refl _
  · exact Nat.zero_le _

theorem next_bound {l : List Fact} (h : checkM l = 0) : 1 ≤ nextKn l ∧ nextKn l ≤ 16777217 := by
  unfold nextKn
  cases hg : l.getLast? with
  | none => exact ⟨Int.le_refl _, by decide⟩
  | some g =>
    have hgo := (check_parts h).1 g (List.mem_of_getLast? hg)
    unfold Fact.ok at hgo
    simp only; omega
/-- No more facts than there can be. -/
def Sized (l : List Fact) : Prop := (l.length : Int) ≤ 1048576 + nextKn l
theorem Sized.snoc {l : List Fact} (h : Sized l) (c : Chg) : Sized (l ++ [c.fact (nextKn l)]) := by
  unfold Sized at *
  rw [nextKn_snoc, List.length_append]
  show ((l.length + 1 : Nat) : Int) ≤ 1048576 + (nextKn l + 1)
  omega
theorem Sized.lt {l : List Fact} (h : Sized l) (hc : checkM l = 0) : l.length < 2 ^ 25 := by
  have := next_bound hc
  unfold Sized at h
  omega
theorem last_get {l : List Fact} {g : Fact} (h : l.getLast? = some g) : (l.map Fact.d)[((l.length : Int) - 1).toNat]? = some g.d := by
  rw [List.getLast?_eq_getElem?] at h
  rw [show ((l.length : Int) - 1).toNat = l.length - 1 by omega, List.getElem?_map, h]; rfl
theorem branches_record (l : List Fact) (cs : List Chg) (hok : checkM l = 0) (hs : Sized l) (hc : cs.length < 2 ^ 63) : CallP Try.prog 52 [.d (SL 8 (l.map Fact.d)), .d (brD cs)] (retD [SL 8 ((recM l cs).1.map Fact.d), I (recM l cs).2]) := by
  refine exPure_sound (E := envOf Try.prog tt Try.f52.ntmps) (envOf_ok ttok mixed) Try.func52 (by rfl) rfl rfl (Nat.le_of_ble_eq_true rfl) ?_
  repeat' ((conv => whnf); first | with_reducible refine Dec.t (show true = true from rfl) ?_ | with_reducible refine Dec.t (show false = false from rfl) ?_ | with_reducible refine Dec.f (show ¬ (true = false) by decide) ?_ | with_reducible refine Dec.f (show ¬ (false = true) by decide) ?_ | refine Dec.t (by omega) ?_ | refine Dec.f (by omega) ?_ | refine Dec.split (fun _ => ?_) (fun _ => ?_) | refine Wr.id (by omega) ?_ | refine Chk.mk (by first | omega | exact rfl | (simp only [List.length_map]; omega) | (simp [room]; done) | (simp [room]; omega) | (simp [dropL, room]; done) | (simp [dropL, room]; omega)) ?_ | refine Nam.mk (List.length_map _) ?_ | refine Prep.skip ?_ | refine Eith.l ?_ | refine chk_t (x := D.flat _) (by assumption) ?_ | refine br_mk (fun _ => ?_) (fun _ => ?_) | fail)
  conv => whnf
  refine ALoop.at (E := envOf Try.prog tt Try.f52.ntmps) (envOf_ok ttok mixed) (X := Nat × List Fact) (fun x => [(12, .d (I x.1)), (4, .d (SL 8 (x.2.map Fact.d)))]) (fun _ => []) (fun x => x.1 ≤ cs.length ∧ checkM x.2 = 0 ∧ Sized x.2 ∧ recM x.2 (cs.drop x.1) = recM l cs)
    (fun x => cs.length - x.1) (0, l) (by repeat (first | exact trivial | refine And.intro rfl ?_ | refine And.intro (congrArg (fun n => V.d (I n)) (wrap_nat _ (by omega))) ?_)) rfl ⟨Nat.zero_le _, hok, hs, rfl⟩ ?_
  rintro ⟨i, x⟩ ⟨hi, hx, hn, hm⟩
  simp only at hi hx hn hm
  dsimp only
  by_cases hlt : i < cs.length
  · obtain ⟨c, hc0, hd⟩ := drop_get hlt
    have hc1 : (cs.map Chg.d)[((i : Nat) : Int).toNat]? = some c.d := map_get hc0
    rw [hd, recM_cons] at hm
    have hxl := hn.lt hx
    have hns := hn.snoc c
    have ha := facts_Add x (c.fact (nextKn x)) (by omega)
    rw [add_next hx] at ha
    have hsn := @check_snoc x (c.fact (nextKn x)) hx
    by_cases hf : (c.fact (nextKn x)).ok
    · rw [if_pos hf] at ha hm
      have hsn := hsn hf (before_next c)
      cases hg : x.getLast? with
      | none =>
        have : x = [] := by simpa using hg
        subst this
        have hz0 : ¬ (0 : Int) < (([] : List Fact).length : Int) := by simp
        repeat' ((conv => whnf); first | with_reducible refine Dec.t (show true = true from rfl) ?_ | with_reducible refine Dec.t (show false = false from rfl) ?_ | with_reducible refine Dec.f (show ¬ (true = false) by decide) ?_ | with_reducible refine Dec.f (show ¬ (false = true) by decide) ?_ | refine Dec.t (by omega) ?_ | refine Dec.f (by omega) ?_ | refine Dec.split (fun _ => ?_) (fun _ => ?_) | refine Wr.id (by omega) ?_ | refine Chk.mk (by first | omega | exact rfl | (simp only [List.length_map]; omega) | (simp [room]; done) | (simp [room]; omega) | (simp [dropL, room]; done) | (simp [dropL, room]; omega)) ?_ | refine Nam.mk (List.length_map _) ?_ | refine Prep.skip ?_ | refine Eith.l ?_ | refine chk_t (x := D.flat _) (by assumption) ?_ | refine br_mk (fun _ => ?_) (fun _ => ?_) | refine nthK_mk hc1 ?_ | refine ACall.of (ha) ?_ | refine APCall.of (ha) ?_ | fail)
        all_goals first | (exfalso; omega) | (exfalso; exact hz0 (by assumption)) | skip
        all_goals (conv => whnf)
        all_goals first
          | exact ⟨(i + 1, [] ++ [c.fact 1]), Wm.end (by repeat (first | exact trivial | refine And.intro rfl ?_ | refine And.intro (congrArg (fun n => V.d (I n)) (wrap_nat _ (by omega))) ?_)) rfl rfl rfl, ⟨hlt, hsn, hns, hm⟩, by show cs.length - (i + 1) < cs.length - i; omega⟩
      | some g =>
        have hk : nextKn x = g.known + 1 := by unfold nextKn; rw [hg]
        have hgo := (check_parts hx).1 g (List.mem_of_getLast? hg)
        unfold Fact.ok at hgo
        have hpos : 0 < x.length := by cases x <;> simp at hg ⊢
        have hg1 := last_get hg
        rw [hk] at ha hm hsn hns
        repeat' ((conv => whnf); first | with_reducible refine Dec.t (show true = true from rfl) ?_ | with_reducible refine Dec.t (show false = false from rfl) ?_ | with_reducible refine Dec.f (show ¬ (true = false) by decide) ?_ | with_reducible refine Dec.f (show ¬ (false = true) by decide) ?_ | refine Dec.t (by omega) ?_ | refine Dec.f (by omega) ?_ | refine Dec.split (fun _ => ?_) (fun _ => ?_) | refine Wr.id (by omega) ?_ | refine Chk.mk (by first | omega | exact rfl | (simp only [List.length_map]; omega) | (simp [room]; done) | (simp [room]; omega) | (simp [dropL, room]; done) | (simp [dropL, room]; omega)) ?_ | refine Nam.mk (List.length_map _) ?_ | refine Prep.skip ?_ | refine Eith.l ?_ | refine chk_t (x := D.flat _) (by assumption) ?_ | refine br_mk (fun _ => ?_) (fun _ => ?_) | refine nthK_mk hc1 ?_ | refine nthK_mk hg1 ?_ | refine ACall.of (ha) ?_ | refine APCall.of (ha) ?_ | fail)
        all_goals first | (exfalso; omega) | skip
        all_goals (conv => whnf)
        all_goals first
          | exact ⟨(i + 1, x ++ [c.fact (g.known + 1)]), Wm.end (by repeat (first | exact trivial | refine And.intro rfl ?_ | refine And.intro (congrArg (fun n => V.d (I n)) (wrap_nat _ (by omega))) ?_)) rfl rfl rfl, ⟨hlt, hsn, hns, hm⟩, by show cs.length - (i + 1) < cs.length - i; omega⟩
    · rw [if_neg hf] at ha hm
      rw [← hm]
      cases hg : x.getLast? with
      | none =>
        have : x = [] := by simpa using hg
        subst this
        have hz0 : ¬ (0 : Int) < (([] : List Fact).length : Int) := by simp
        repeat' ((conv => whnf); first | with_reducible refine Dec.t (show true = true from rfl) ?_ | with_reducible refine Dec.t (show false = false from rfl) ?_ | with_reducible refine Dec.f (show ¬ (true = false) by decide) ?_ | with_reducible refine Dec.f (show ¬ (false = true) by decide) ?_ | refine Dec.t (by omega) ?_ | refine Dec.f (by omega) ?_ | refine Dec.split (fun _ => ?_) (fun _ => ?_) | refine Wr.id (by omega) ?_ | refine Chk.mk (by first | omega | exact rfl | (simp only [List.length_map]; omega) | (simp [room]; done) | (simp [room]; omega) | (simp [dropL, room]; done) | (simp [dropL, room]; omega)) ?_ | refine Nam.mk (List.length_map _) ?_ | refine Prep.skip ?_ | refine Eith.l ?_ | refine chk_t (x := D.flat _) (by assumption) ?_ | refine br_mk (fun _ => ?_) (fun _ => ?_) | refine nthK_mk hc1 ?_ | refine ACall.of (ha) ?_ | refine APCall.of (ha) ?_ | fail)
        all_goals first | (exfalso; omega) | (exfalso; exact hz0 (by assumption)) | skip
        all_goals (conv => whnf)
        all_goals first | exact ⟨DLe.nil _ _ _, DLe.refl _, rfl⟩
      | some g =>
        have hk : nextKn x = g.known + 1 := by unfold nextKn; rw [hg]
        have hgo := (check_parts hx).1 g (List.mem_of_getLast? hg)
        unfold Fact.ok at hgo
        have hpos : 0 < x.length := by cases x <;> simp at hg ⊢
        have hg1 := last_get hg
        rw [hk] at ha
        repeat' ((conv => whnf); first | with_reducible refine Dec.t (show true = true from rfl) ?_ | with_reducible refine Dec.t (show false = false from rfl) ?_ | with_reducible refine Dec.f (show ¬ (true = false) by decide) ?_ | with_reducible refine Dec.f (show ¬ (false = true) by decide) ?_ | refine Dec.t (by omega) ?_ | refine Dec.f (by omega) ?_ | refine Dec.split (fun _ => ?_) (fun _ => ?_) | refine Wr.id (by omega) ?_ | refine Chk.mk (by first | omega | exact rfl | (simp only [List.length_map]; omega) | (simp [room]; done) | (simp [room]; omega) | (simp [dropL, room]; done) | (simp [dropL, room]; omega)) ?_ | refine Nam.mk (List.length_map _) ?_ | refine Prep.skip ?_ | refine Eith.l ?_ | refine chk_t (x := D.flat _) (by assumption) ?_ | refine br_mk (fun _ => ?_) (fun _ => ?_) | refine nthK_mk hc1 ?_ | refine nthK_mk hg1 ?_ | refine ACall.of (ha) ?_ | refine APCall.of (ha) ?_ | fail)
        all_goals first | (exfalso; omega) | skip
        all_goals (conv => whnf)
        all_goals first | exact ⟨DLe.nil _ _ _, DLe.refl _, rfl⟩
  · have : i = cs.length := by omega
    subst this
    rw [List.drop_length, recM_nil] at hm
    rw [← hm]
    repeat' ((conv => whnf); first | with_reducible refine Dec.t (show true = true from rfl) ?_ | with_reducible refine Dec.t (show false = false from rfl) ?_ | with_reducible refine Dec.f (show ¬ (true = false) by decide) ?_ | with_reducible refine Dec.f (show ¬ (false = true) by decide) ?_ | refine Dec.t (by omega) ?_ | refine Dec.f (by omega) ?_ | refine Dec.split (fun _ => ?_) (fun _ => ?_) | refine Wr.id (by omega) ?_ | refine Chk.mk (by first | omega | exact rfl | (simp only [List.length_map]; omega) | (simp [room]; done) | (simp [room]; omega) | (simp [dropL, room]; done) | (simp [dropL, room]; omega)) ?_ | refine Nam.mk (List.length_map _) ?_ | refine Prep.skip ?_ | refine Eith.l ?_ | refine chk_t (x := D.flat _) (by assumption) ?_ | refine br_mk (fun _ => ?_) (fun _ => ?_) | fail)
    all_goals first | (exfalso; omega) | skip
    all_goals (conv => whnf)
    all_goals first | exact ⟨DLe.refl _, DLe.refl _, rfl⟩
end Go.PM

