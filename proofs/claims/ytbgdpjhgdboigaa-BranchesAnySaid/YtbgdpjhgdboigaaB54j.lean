/- Branches: Change. -/
import Derived.Test.YtbgdpjhgdboigaaB54i
namespace Go.PM
open Go.Proofs
set_option maxRecDepth 10000
set_option maxHeartbeats 8000000

theorem grow_set (b : Brn) (no : Int) (cs : List Chg) : (b.br.map brD).set (0 + no.toNat) (.sl 6 false ((b.at no).map Chg.d ++ cs.map Chg.d)) = (b.br.set no.toNat (b.at no ++ cs)).map brD := by
  rw [Nat.zero_add, List.map_set, brD, List.map_append]
theorem app_all (l r : List D) : ((dropL l 0 ++ r).drop 0).take (l.length + r.length) = l ++ r := whole (l := dropL l 0 ++ r) (by simp [dropL])
theorem branches_grown (b : Brn) (no : Int) (cs : List Chg) (h0 : 0 ≤ no) (h : no < b.br.length) (h1 : b.br.length < 2 ^ 20) (h2 : (b.at no).length < 2 ^ 20) (h3 : cs.length < 2 ^ 20) :
    CallP Try.prog 46 [.d b.d, .d (I no), .d (brD cs)] (retD [(growM b no cs).d]) := by
  have c1 := copied_Chgs b.br (by omega)
  have c2 := copied_Chg (b.at no) (by omega)
  have g1 := at_get (b := b) (no := no) (by omega) h
  rw [show no.toNat = 0 + no.toNat by omega] at g1
  have l1 : 0 + no.toNat < (b.br.map brD).length := by rw [Nat.zero_add, List.length_map]; omega
  have s1 := grow_set b no cs
  refine exPure_sound (E := envOf Try.prog tt Try.f46.ntmps) (envOf_ok ttok mixed) Try.func46 (by rfl) rfl rfl (Nat.le_of_ble_eq_true rfl) ?_
  repeat' ((conv => whnf); first | with_reducible refine Dec.t (show true = true from rfl) ?_ | with_reducible refine Dec.t (show false = false from rfl) ?_ | with_reducible refine Dec.f (show ¬ (true = false) by decide) ?_ | with_reducible refine Dec.f (show ¬ (false = true) by decide) ?_ | refine Dec.t (by omega) ?_ | refine Dec.f (by omega) ?_ | refine Dec.split (fun _ => ?_) (fun _ => ?_) | refine Wr.id (by omega) ?_ | refine Chk.mk (by first | omega | exact rfl | (simp only [List.length_map]; omega) | (simp [room]; done) | (simp [room]; omega) | (simp [dropL, room]; done) | (simp [dropL, room]; omega)) ?_ | refine Nam.mk (List.length_map _) ?_ | refine Prep.skip ?_ | refine Eith.l ?_ | refine chk_t (x := D.flat _) (by assumption) ?_ | refine br_mk (fun _ => ?_) (fun _ => ?_) | refine ACall.ofRow c1 ?_ | refine APCall.ofRow c1 ?_ | refine ACall.ofRow c2 ?_ | refine APCall.ofRow c2 ?_ | refine nthK_mk g1 ?_ | refine setK_to l1 s1 ?_ | refine Nam.mk (whole rfl) ?_ | refine Nam.mk (app_all _ _) ?_ | refine Nam.mk (y := (b.br.set no.toNat (b.at no ++ cs)).map brD) (whole (by simp)) ?_ | fail)
  all_goals first | (exfalso; omega) | skip
  all_goals (conv => whnf)
  all_goals first | exact DLe.refl _

/-! ### A branch that grows -/

theorem recM_app (l : List Fact) : ∀ (a b : List Chg), recM l (a ++ b) = if (recM l a).2 = 0 then recM (recM l a).1 b else ([], (recM l a).2) := fun a => by
  induction a generalizing l with
  | nil => intro b; rw [recM_nil, List.nil_append, if_pos rfl]
  | cons c r ih =>
    intro b
    rw [List.cons_append, recM_cons, recM_cons]
    by_cases hf : (c.fact (nextKn l)).ok
    · rw [if_pos hf, if_pos hf, ih]
    · rw [if_neg hf, if_neg hf, if_neg (by simp)]
theorem grow_at (b : Brn) (no p : Int) (cs : List Chg) (h0 : 0 ≤ no) (hn : no < b.br.length) (hp : 0 ≤ p) : (growM b no cs).at p = if p = no then b.at no ++ cs else b.at p := by
  unfold Brn.at growM
  simp only
  by_cases h : p = no
  · subst h
    rw [if_pos rfl]
    have : p.toNat < b.br.length := by omega
    simp [Brn.at, this]
  · rw [if_neg h]
    have : no.toNat ≠ p.toNat := by omega
    simp [List.getD_eq_getElem?_getD, List.getElem?_set_ne this]
theorem grow_len (b : Brn) (no p : Int) (cs : List Chg) (h0 : 0 ≤ no) (hn : no < b.br.length) : lenM (growM b no cs) p = if p = no then lenM b p + cs.length else lenM b p := by
  unfold lenM
  by_cases hp : p < 0
  · rw [if_pos hp, if_pos hp, if_neg (by omega)]; rfl
  · rw [if_neg hp, if_neg hp, grow_at b no p cs h0 hn (by omega)]
    by_cases h : p = no
    · subst h; rw [if_pos rfl, if_pos rfl, List.length_append]
    · rw [if_neg h, if_neg h]
theorem grow_formed {b : Brn} (hf : b.formed) {no : Int} (cs : List Chg) (h0 : 0 ≤ no) (hn : no < b.br.length) : (growM b no cs).formed := by
  have hl : (growM b no cs).br.length = b.br.length := by simp [growM]
  refine ⟨by rw [hl]; exact hf.n, by rw [hl]; exact hf.p, by rw [hl]; exact hf.f, by rw [hl]; exact hf.d, fun i hi => ?_⟩
  rw [hl] at hi
  obtain ⟨e1, e2, e3, e4⟩ := hf.each i hi
  refine ⟨e1, e2, e3, ?_⟩
  have := grow_len b no (b.par.getD i 0) cs h0 hn
  show b.forks.getD i 0 ≤ lenM (growM b no cs) (b.par.getD i 0)
  rw [this]
  split <;> omega
theorem sum_set : ∀ (l : List (List Chg)) (n : Nat) (x : List Chg), n < l.length → ((l.set n x).map List.length).sum + (l.getD n []).length = (l.map List.length).sum + x.length
  | [], n, x, h => by simp at h
  | a :: l, 0, x, h => by simp; omega
  | a :: l, n + 1, x, h => by
    have := sum_set l n x (by simpa using h)
    simp only [List.set_cons_succ, List.map_cons, List.sum_cons, List.getD_cons_succ]
    omega
theorem grow_total (b : Brn) {no : Int} (cs : List Chg) (h0 : 0 ≤ no) (hn : no < b.br.length) : (growM b no cs).total = b.total + cs.length := by
  have := sum_set b.br no.toNat (b.at no ++ cs) (by omega)
  unfold Brn.total growM
  simp only
  rw [List.length_append] at this
  unfold Brn.at at this ⊢
  omega
theorem with_grow {b : Brn} (hf : b.formed) {no : Int} (cs : List Chg) (h0 : 0 ≤ no) (hn : no < b.br.length) : ∀ (p : Int) (many : Nat), p < b.br.length → many ≤ lenM b p → withM (growM b no cs) p many = withM b p many := by
  have key : ∀ (m : Nat) (p : Int) (many : Nat), (p + 1).toNat ≤ m → p < b.br.length → many ≤ lenM b p → withM (growM b no cs) p many = withM b p many := by
    have hg := grow_formed hf cs h0 hn
    have hl : (growM b no cs).br.length = b.br.length := by simp [growM]
    intro m
    induction m with
    | zero =>
      intro p many hm hp _
      rw [with_neg (by omega), with_neg (by omega)]; rfl
    | succ m ih =>
      intro p many hm hp hk
      by_cases hp0 : p < 0
      · rw [with_neg hp0, with_neg hp0]; rfl
      · have he := hf.each p.toNat (by omega)
        rw [with_pos hg hp0 (by rw [hl]; exact hp), with_pos hf hp0 hp]
        have hi := ih (b.par.getD p.toNat 0) (b.forks.getD p.toNat 0).toNat (by omega) (by omega) (by omega)
        show (if (withM (growM b no cs) (b.par.getD p.toNat 0) (b.forks.getD p.toNat 0).toNat).2 = 0 then recM (withM (growM b no cs) (b.par.getD p.toNat 0) (b.forks.getD p.toNat 0).toNat).1 (((growM b no cs).at p).take many) else ([], (withM (growM b no cs) (b.par.getD p.toNat 0) (b.forks.getD p.toNat 0).toNat).2)) = _
        rw [hi]
        have ht : ((growM b no cs).at p).take many = (b.at p).take many := by
          rw [grow_at b no p cs h0 hn (by omega)]
          unfold lenM at hk
          rw [if_neg hp0] at hk
          by_cases h : p = no
          · subst h; rw [if_pos rfl, List.take_append_of_le_length hk]
          · rw [if_neg h]
        rw [ht]
  exact fun p many => key _ p many (Nat.le_refl _)
/-- A branch that grows has its facts, with what it grows by. -/
theorem grown_facts {b : Brn} (hv : b.valid) {no : Int} (cs : List Chg) (h0 : 0 ≤ no) (hn : no < b.br.length) :
    withM (growM b no cs) no (lenM (growM b no cs) no) = recM (withM b no (lenM b no)).1 cs := by
  have hf := hv.1
  have hg := grow_formed hf cs h0 hn
  have hl : (growM b no cs).br.length = b.br.length := by simp [growM]
  have he := hf.each no.toNat (by omega)
  have hw := hv.2.2 no.toNat (by omega)
  have hno : ((no.toNat : Nat) : Int) = no := by omega
  rw [hno] at hw
  have hln : lenM b no = (b.at no).length := by unfold lenM; rw [if_neg (by omega)]
  have hi := with_grow hf cs h0 hn (b.par.getD no.toNat 0) (b.forks.getD no.toNat 0).toNat (by omega) (by omega)
  have hlen : lenM (growM b no cs) no = (b.at no ++ cs).length := by
    rw [grow_len b no no cs h0 hn, if_pos rfl, List.length_append, hln]
  have hat : (growM b no cs).at no = b.at no ++ cs := by rw [grow_at b no no cs h0 hn h0, if_pos rfl]
  rw [with_pos hg (by omega) (by rw [hl]; exact hn), hlen, hat, List.take_length]
  have e1 : (growM b no cs).par = b.par := rfl
  have e2 : (growM b no cs).forks = b.forks := rfl
  rw [e1, e2, hi]
  rw [with_pos hf (by omega) hn, hln, List.take_length] at hw ⊢
  by_cases h2 : (withM b (b.par.getD no.toNat 0) (b.forks.getD no.toNat 0).toNat).2 = 0
  · rw [if_pos h2] at hw ⊢
    rw [if_pos h2, recM_app, if_pos hw]
  · rw [if_neg h2] at hw
    exact absurd hw h2

theorem grow_wide {b : Brn} (hW : b.wide) (no : Int) (cs : List Chg) (h : (b.at no).length + cs.length < 2 ^ 63) : (growM b no cs).wide := by
  refine ⟨hW.b, fun l hl => ?_⟩
  rcases List.mem_or_eq_of_mem_set hl with hl | rfl
  · exact hW.r l hl
  · rw [List.length_append]; exact h
def changeM (b : Brn) (no : Int) (c : Chg) : Brn × Int :=
  if b.valid then (if openP b no then (if (recM (withM b no (lenM b no)).1 [c]).2 = 0 then (growM b no [c], 0) else (Brn.zero, (recM (withM b no (lenM b no)).1 [c]).2)) else (Brn.zero, 1)) else (Brn.zero, 540)
theorem branches_Change (b : Brn) (no : Int) (c : Chg) (hW : b.wide) (ht : b.valid → b.total + 1 < 2 ^ 18) : CallP Try.prog 17 [.d b.d, .d (I no), .d c.d] (retD [(changeM b no c).1.d, I (changeM b no c).2]) := by
  have hC := branches_check b hW
  unfold changeM
  refine exPure_sound (E := envOf Try.prog tt Try.f17.ntmps) (envOf_ok ttok mixed) Try.func17 (by rfl) rfl rfl (Nat.le_of_ble_eq_true rfl) ?_
  by_cases hv : b.valid
  · rw [if_pos hv] at hC ⊢
    have ht := ht hv
    have hfd := hv.1.d
    have hfn := hv.1.n
    have hO := branches_open b no (by omega)
    by_cases ho : openP b no
    · have h1 := open_lt ho
      rw [decide_eq_true ho] at hO
      rw [if_pos ho]
      have hal := at_len b no
      have hle : VLes [.d b.d, .d (I no), .d (.sl 6 true [c.d])] [.d b.d, .d (I no), .d (brD [c])] := ⟨VLe.refl _, VLe.refl _, VLe.d (DLe.full _ _ _), rfl⟩
      have hgr := CallP.le hle (branches_grown b no [c] h1.1 h1.2 (by omega) (by omega) (by simp))
      have hof := branches_of (growM b no [c]) (grow_formed hv.1 [c] h1.1 h1.2) hv.2.1 (grow_wide hW no [c] (by simp only [List.length_cons, List.length_nil]; omega)) no (by simp only [growM, List.length_set]; exact h1.2)
      rw [grown_facts hv [c] h1.1 h1.2] at hof
      by_cases he : (recM (withM b no (lenM b no)).1 [c]).2 = 0
      · rw [if_pos he]
        rw [he] at hof
        repeat' ((conv => whnf); first | with_reducible refine Dec.t (show true = true from rfl) ?_ | with_reducible refine Dec.t (show false = false from rfl) ?_ | with_reducible refine Dec.f (show ¬ (true = false) by decide) ?_ | with_reducible refine Dec.f (show ¬ (false = true) by decide) ?_ | refine Dec.t (by omega) ?_ | refine Dec.f (by omega) ?_ | refine Dec.split (fun _ => ?_) (fun _ => ?_) | refine Wr.id (by omega) ?_ | refine Chk.mk (by first | omega | exact rfl | (simp only [List.length_map]; omega) | (simp [room]; done) | (simp [room]; omega) | (simp [dropL, room]; done) | (simp [dropL, room]; omega)) ?_ | refine Nam.mk (List.length_map _) ?_ | refine Prep.skip ?_ | refine Eith.l ?_ | refine chk_t (x := D.flat _) (by assumption) ?_ | refine br_mk (fun _ => ?_) (fun _ => ?_) | refine ACall.of (hC) ?_ | refine APCall.of (hC) ?_ | refine ACall.of (hO) ?_ | refine APCall.of (hO) ?_ | refine ACall.of (hgr) ?_ | refine APCall.of (hgr) ?_ | refine ACall.of (hof) ?_ | refine APCall.of (hof) ?_ | fail)
        all_goals first | (exfalso; omega) | skip
        all_goals (conv => whnf)
        all_goals first | exact ⟨DLe.refl _, DLe.refl _, rfl⟩
      · rw [if_neg he]
        repeat' ((conv => whnf); first | with_reducible refine Dec.t (show true = true from rfl) ?_ | with_reducible refine Dec.t (show false = false from rfl) ?_ | with_reducible refine Dec.f (show ¬ (true = false) by decide) ?_ | with_reducible refine Dec.f (show ¬ (false = true) by decide) ?_ | refine Dec.t (by omega) ?_ | refine Dec.f (by omega) ?_ | refine Dec.split (fun _ => ?_) (fun _ => ?_) | refine Wr.id (by omega) ?_ | refine Chk.mk (by first | omega | exact rfl | (simp only [List.length_map]; omega) | (simp [room]; done) | (simp [room]; omega) | (simp [dropL, room]; done) | (simp [dropL, room]; omega)) ?_ | refine Nam.mk (List.length_map _) ?_ | refine Prep.skip ?_ | refine Eith.l ?_ | refine chk_t (x := D.flat _) (by assumption) ?_ | refine br_mk (fun _ => ?_) (fun _ => ?_) | refine ACall.of (hC) ?_ | refine APCall.of (hC) ?_ | refine ACall.of (hO) ?_ | refine APCall.of (hO) ?_ | refine ACall.of (hgr) ?_ | refine APCall.of (hgr) ?_ | refine ACall.of (hof) ?_ | refine APCall.of (hof) ?_ | fail)
        all_goals first | (exfalso; omega) | skip
        all_goals (conv => whnf)
        all_goals first | exact ⟨zeroBrn, DLe.refl _, rfl⟩
    · rw [decide_eq_false ho] at hO
      rw [if_neg ho]
      repeat' ((conv => whnf); first | with_reducible refine Dec.t (show true = true from rfl) ?_ | with_reducible refine Dec.t (show false = false from rfl) ?_ | with_reducible refine Dec.f (show ¬ (true = false) by decide) ?_ | with_reducible refine Dec.f (show ¬ (false = true) by decide) ?_ | refine Dec.t (by omega) ?_ | refine Dec.f (by omega) ?_ | refine Dec.split (fun _ => ?_) (fun _ => ?_) | refine Wr.id (by omega) ?_ | refine Chk.mk (by first | omega | exact rfl | (simp only [List.length_map]; omega) | (simp [room]; done) | (simp [room]; omega) | (simp [dropL, room]; done) | (simp [dropL, room]; omega)) ?_ | refine Nam.mk (List.length_map _) ?_ | refine Prep.skip ?_ | refine Eith.l ?_ | refine chk_t (x := D.flat _) (by assumption) ?_ | refine br_mk (fun _ => ?_) (fun _ => ?_) | refine ACall.of (hC) ?_ | refine APCall.of (hC) ?_ | refine ACall.of (hO) ?_ | refine APCall.of (hO) ?_ | fail)
      all_goals first | (exfalso; omega) | skip
      all_goals (conv => whnf)
      all_goals first | exact ⟨zeroBrn, DLe.refl _, rfl⟩
  · rw [if_neg hv] at hC ⊢
    repeat' ((conv => whnf); first | with_reducible refine Dec.t (show true = true from rfl) ?_ | with_reducible refine Dec.t (show false = false from rfl) ?_ | with_reducible refine Dec.f (show ¬ (true = false) by decide) ?_ | with_reducible refine Dec.f (show ¬ (false = true) by decide) ?_ | refine Dec.t (by omega) ?_ | refine Dec.f (by omega) ?_ | refine Dec.split (fun _ => ?_) (fun _ => ?_) | refine Wr.id (by omega) ?_ | refine Chk.mk (by first | omega | exact rfl | (simp only [List.length_map]; omega) | (simp [room]; done) | (simp [room]; omega) | (simp [dropL, room]; done) | (simp [dropL, room]; omega)) ?_ | refine Nam.mk (List.length_map _) ?_ | refine Prep.skip ?_ | refine Eith.l ?_ | refine chk_t (x := D.flat _) (by assumption) ?_ | refine br_mk (fun _ => ?_) (fun _ => ?_) | refine ACall.of (hC) ?_ | refine APCall.of (hC) ?_ | fail)
    all_goals first | (exfalso; omega) | skip
    all_goals (conv => whnf)
    all_goals first | exact ⟨zeroBrn, DLe.refl _, rfl⟩
theorem ref54_Change (b : Brn) (no : Int) (c : Chg) (hW : b.wide) (ht : b.valid → b.total + 1 < 2 ^ 18) : CallP Try.prog 18 [.d b.d, .d (I no), .d c.d] (retD [(changeM b no c).1.d, I (changeM b no c).2]) := by
  have hC := ref54_Valid b hW
  unfold changeM
  refine exPure_sound (E := envOf Try.prog tt Try.f18.ntmps) (envOf_ok ttok mixed) Try.func18 (by rfl) rfl rfl (Nat.le_of_ble_eq_true rfl) ?_
  by_cases hv : b.valid
  · rw [decide_eq_true hv] at hC
    rw [if_pos hv]
    have ht := ht hv
    have hfd := hv.1.d
    have hfn := hv.1.n
    have hfp := hv.1.p
    have hff := hv.1.f
    have hO := ref54_open b no (by omega)
    by_cases ho : openP b no
    · have h1 := open_lt ho
      rw [decide_eq_true ho] at hO
      rw [if_pos ho]
      have hal := at_len b no
      have hl := ref54_length b no h1.2
      have hw := ref54_with b hv.1 hv.2.1 hW no (lenM b no) h1.2 ⟨by omega, Int.le_refl _⟩
      rw [Int.toNat_natCast] at hw
      have hwe : (withM b no (lenM b no)).2 = 0 := by have := hv.2.2 no.toNat (by omega); rwa [show ((no.toNat : Nat) : Int) = no by omega] at this
      have hwc := with_check hv.1 hv.2.1 no (lenM b no) h1.2 hwe
      have hwl := with_len hv.1 no (lenM b no) h1.2
      have hr := ref54_record (withM b no (lenM b no)).1 c hwc (by omega)
      rw [add_next hwc] at hr
      have g1 : ([] ++ b.br.map brD)[0 + no.toNat]? = some (brD (b.at no)) := by rw [List.nil_append, Nat.zero_add]; exact at_get (by omega) h1.2
      have g0 := at_get (b := b) (no := no) (by omega) h1.2
      have l1 : 0 + no.toNat < ([] ++ b.br.map brD).length := by rw [List.nil_append, Nat.zero_add, List.length_map]; omega
      have s1 : ([] ++ b.br.map brD).set (0 + no.toNat) (.sl 6 false ((b.at no).map Chg.d ++ [c.d])) = (b.br.set no.toNat (b.at no ++ [c])).map brD := grow_set b no [c]
      by_cases he : (c.fact (nextKn (withM b no (lenM b no)).1)).ok
      · have he1 : (recM (withM b no (lenM b no)).1 [c]).2 = 0 := by rw [recM_cons, if_pos he, recM_nil]
        rw [if_pos he1]
        rw [if_pos he] at hr
        repeat' ((conv => whnf); first | with_reducible refine Dec.t (show true = true from rfl) ?_ | with_reducible refine Dec.t (show false = false from rfl) ?_ | with_reducible refine Dec.f (show ¬ (true = false) by decide) ?_ | with_reducible refine Dec.f (show ¬ (false = true) by decide) ?_ | refine Dec.t (by omega) ?_ | refine Dec.f (by omega) ?_ | refine Dec.split (fun _ => ?_) (fun _ => ?_) | refine Wr.id (by omega) ?_ | refine Chk.mk (by first | omega | exact rfl | (simp only [List.length_map]; omega) | (simp [room]; done) | (simp [room]; omega) | (simp [dropL, room]; done) | (simp [dropL, room]; omega)) ?_ | refine Nam.mk (List.length_map _) ?_ | refine Prep.skip ?_ | refine Eith.l ?_ | refine chk_t (x := D.flat _) (by assumption) ?_ | refine br_mk (fun _ => ?_) (fun _ => ?_) | refine ACall.of (hC) ?_ | refine APCall.of (hC) ?_ | refine ACall.of (hO) ?_ | refine APCall.of (hO) ?_ | refine ACall.of (hl) ?_ | refine APCall.of (hl) ?_ | refine ACall.of (hw) ?_ | refine APCall.of (hw) ?_ | refine ACall.of (hr) ?_ | refine APCall.of (hr) ?_ | refine ACall.body (E := envOf Try.prog tt Try.f44.ntmps) (envOf_ok ttok mixed) Try.func44 (by rfl) rfl (Nat.le_of_ble_eq_true rfl) ?_ | refine nthK_mk g1 ?_ | refine nthK_mk g0 ?_ | refine setK_to l1 s1 ?_ | refine Nam.mk (nil_app _) ?_ | refine Nam.mk (snoc_app' _ _) ?_ | refine Nam.mk (y := (b.br.set no.toNat (b.at no ++ [c])).map brD) (whole (by simp)) ?_ | refine Chk.mk ⟨by simp <;> omega, by simp <;> omega⟩ ?_ | refine Chk.mk ⟨rfl, by simp <;> omega, by simp [room] <;> omega⟩ ?_ | refine Chk.mk ⟨rfl, by simp⟩ ?_ | fail)
        all_goals first | (exfalso; omega) | skip
        all_goals (conv => whnf)
        all_goals first | exact ⟨DLe.refl _, DLe.refl _, rfl⟩
      · have he1 : (recM (withM b no (lenM b no)).1 [c]) = ([], 40) := by rw [recM_cons, if_neg he]
        rw [he1, if_neg (by simp)]
        rw [if_neg he] at hr
        repeat' ((conv => whnf); first | with_reducible refine Dec.t (show true = true from rfl) ?_ | with_reducible refine Dec.t (show false = false from rfl) ?_ | with_reducible refine Dec.f (show ¬ (true = false) by decide) ?_ | with_reducible refine Dec.f (show ¬ (false = true) by decide) ?_ | refine Dec.t (by omega) ?_ | refine Dec.f (by omega) ?_ | refine Dec.split (fun _ => ?_) (fun _ => ?_) | refine Wr.id (by omega) ?_ | refine Chk.mk (by first | omega | exact rfl | (simp only [List.length_map]; omega) | (simp [room]; done) | (simp [room]; omega) | (simp [dropL, room]; done) | (simp [dropL, room]; omega)) ?_ | refine Nam.mk (List.length_map _) ?_ | refine Prep.skip ?_ | refine Eith.l ?_ | refine chk_t (x := D.flat _) (by assumption) ?_ | refine br_mk (fun _ => ?_) (fun _ => ?_) | refine ACall.of (hC) ?_ | refine APCall.of (hC) ?_ | refine ACall.of (hO) ?_ | refine APCall.of (hO) ?_ | refine ACall.of (hl) ?_ | refine APCall.of (hl) ?_ | refine ACall.of (hw) ?_ | refine APCall.of (hw) ?_ | refine ACall.of (hr) ?_ | refine APCall.of (hr) ?_ | fail)
        all_goals first | (exfalso; omega) | skip
        all_goals (conv => whnf)
        all_goals first | exact ⟨zeroBrn, DLe.refl _, rfl⟩
    · rw [decide_eq_false ho] at hO
      rw [if_neg ho]
      repeat' ((conv => whnf); first | with_reducible refine Dec.t (show true = true from rfl) ?_ | with_reducible refine Dec.t (show false = false from rfl) ?_ | with_reducible refine Dec.f (show ¬ (true = false) by decide) ?_ | with_reducible refine Dec.f (show ¬ (false = true) by decide) ?_ | refine Dec.t (by omega) ?_ | refine Dec.f (by omega) ?_ | refine Dec.split (fun _ => ?_) (fun _ => ?_) | refine Wr.id (by omega) ?_ | refine Chk.mk (by first | omega | exact rfl | (simp only [List.length_map]; omega) | (simp [room]; done) | (simp [room]; omega) | (simp [dropL, room]; done) | (simp [dropL, room]; omega)) ?_ | refine Nam.mk (List.length_map _) ?_ | refine Prep.skip ?_ | refine Eith.l ?_ | refine chk_t (x := D.flat _) (by assumption) ?_ | refine br_mk (fun _ => ?_) (fun _ => ?_) | refine ACall.of (hC) ?_ | refine APCall.of (hC) ?_ | refine ACall.of (hO) ?_ | refine APCall.of (hO) ?_ | fail)
      all_goals first | (exfalso; omega) | skip
      all_goals (conv => whnf)
      all_goals first | exact ⟨zeroBrn, DLe.refl _, rfl⟩
  · rw [decide_eq_false hv] at hC
    rw [if_neg hv]
    repeat' ((conv => whnf); first | with_reducible refine Dec.t (show true = true from rfl) ?_ | with_reducible refine Dec.t (show false = false from rfl) ?_ | with_reducible refine Dec.f (show ¬ (true = false) by decide) ?_ | with_reducible refine Dec.f (show ¬ (false = true) by decide) ?_ | refine Dec.t (by omega) ?_ | refine Dec.f (by omega) ?_ | refine Dec.split (fun _ => ?_) (fun _ => ?_) | refine Wr.id (by omega) ?_ | refine Chk.mk (by first | omega | exact rfl | (simp only [List.length_map]; omega) | (simp [room]; done) | (simp [room]; omega) | (simp [dropL, room]; done) | (simp [dropL, room]; omega)) ?_ | refine Nam.mk (List.length_map _) ?_ | refine Prep.skip ?_ | refine Eith.l ?_ | refine chk_t (x := D.flat _) (by assumption) ?_ | refine br_mk (fun _ => ?_) (fun _ => ?_) | refine ACall.of (hC) ?_ | refine APCall.of (hC) ?_ | fail)
    all_goals first | (exfalso; omega) | skip
    all_goals (conv => whnf)
    all_goals first | exact ⟨zeroBrn, DLe.refl _, rfl⟩
end Go.PM

