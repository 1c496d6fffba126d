/- Deltas, reference: numbers. -/
import Derived.Test.YtfckliidjmeeaaaDoorD42ntoD42o
namespace Go.PM
open Go.Proofs
set_option maxRecDepth 10000
set_option maxHeartbeats 2000000

theorem Wr.i64 {n : Int} {K : Int → Prop} (m : Int) (e : n = m) (h : -9223372036854775808 ≤ m ∧ m < 9223372036854775808) (a : K m) : Wr .i64 n K := by subst e; exact .id h a
theorem tdivN (n k : Nat) : (n : Int).tdiv (k : Int) = ((n / k : Nat) : Int) := (Int.ofNat_tdiv n k).symm
structure XNum where
  m : Nat
  s : List UInt8
end Go.PM

/- Deltas, reference: texts. -/
namespace Go.PM
open Go.Proofs
set_option maxRecDepth 10000
set_option maxHeartbeats 2000000

theorem outT_cons (xs w : List UInt8) (ws : List (List UInt8)) : outT xs (w :: ws) = outT (outW xs w) ws := rfl
theorem itoa_ne (n : Int) : itoa n ≠ [] := by
  by_cases hn : n < 0
  · rw [itoa_negs hn]; simp
  · obtain ⟨m, rfl⟩ : ∃ m : Nat, n = m := ⟨n.toNat, by omega⟩
    rw [itoa_nat]
    unfold decs
    rw [Go.Lib.decDigits]
    split <;> simp
theorem wordsI_ne (l : List Int) : ∀ w ∈ wordsI l, w ≠ [] := by
  intro w hw
  obtain ⟨n, _, rfl⟩ := List.mem_map.1 hw
  exact itoa_ne n
end Go.PM

/- Deltas, reference: lists, verdicts, answers. -/
namespace Go.PM
open Go.Proofs
set_option maxRecDepth 10000
set_option maxHeartbeats 2000000

theorem ratM_ne (r : Rat) : ratM r ≠ [] := by
  unfold ratM
  split <;> simp
theorem words_ne (p : Part) : p.words ≠ [] ∧ ∀ w ∈ p.words, w ≠ [] := by
  have hI := wordsI_ne
  have hL : ∀ l, ∀ w ∈ wordsL l, w ≠ [] := fun l w hw => by
    rcases List.mem_cons.1 hw with rfl | hw
    · exact itoa_ne _
    · exact hI l w hw
  cases p with
  | int n => exact ⟨by simp [Part.words], hI [n]⟩
  | bool x => exact ⟨by simp [Part.words], hI [if x then 1 else 0]⟩
  | ints l => exact ⟨by simp [Part.words, wordsL], hL l⟩
  | ratio r => exact ⟨by simp [Part.words], fun w hw => by rw [List.mem_singleton.1 hw]; exact ratM_ne r⟩
  | line a b c => exact ⟨by simp [Part.words, wordsI], hI _⟩
  | branch l a b c => exact ⟨by simp [Part.words, wordsL], fun w hw => by
      rcases List.mem_append.1 hw with h | h
      · exact hL l w h
      · exact hI _ w h⟩
  | read a b c d e => exact ⟨by simp [Part.words, wordsI], hI _⟩
theorem wordsP_ne (l : List Part) : ∀ w ∈ wordsP l, w ≠ [] := by
  intro w hw
  obtain ⟨p, _, hp⟩ := List.mem_flatMap.1 hw
  exact (words_ne p).2 w hp
theorem wordsP_cons (p : Part) (l : List Part) : wordsP (p :: l) = p.words ++ wordsP l := rfl
end Go.PM

/- Deltas, reference: verdicts and answers. -/
namespace Go.PM
open Go.Proofs
set_option maxRecDepth 10000
set_option maxHeartbeats 2000000

def okIs (l : List Int) : Prop := (∀ n ∈ l, okI n) ∧ l.length < 2 ^ 27
structure Ver.okR (x : Ver) : Prop where
  kind : okI x.kind
  wth : okIs x.wth
  wo : okIs x.wo
  n : x.leaves.length < 2 ^ 27
  leaves : ∀ b ∈ x.leaves, okIs b.ch ∧ okI b.k ∧ okI b.v ∧ okI b.p
  txt : (txt x.parts).length < 2 ^ 28
def verPre (x : Ver) (i : Nat) : List Part := [.int x.kind, .ints x.wth, .ints x.wo, .int x.leaves.length] ++ (x.leaves.take i).map Bran.part
structure Ans.okR (x : Ans) : Prop where
  n : x.amts.length < 2 ^ 27
  amts : ∀ l ∈ x.amts, okIs l
  conf : okIs x.conf
  m : x.reads.length < 2 ^ 27
  reads : ∀ r ∈ x.reads, okI r.a ∧ okI r.b ∧ okI r.c ∧ okI r.s ∧ okI r.e
  txt : (txt x.parts).length < 2 ^ 28
def ansPre (x : Ans) (i : Nat) : List Part := [.bool x.ok, .int x.amts.length] ++ (x.amts.take i).map Part.ints
def ansPre2 (x : Ans) (i : Nat) : List Part := ansPre x x.amts.length ++ [.ints x.conf, .int x.reads.length] ++ (x.reads.take i).map Rd.part
end Go.PM

/- Deltas, reference: entries, Report. -/
namespace Go.PM
open Go.Proofs
set_option maxRecDepth 10000
set_option maxHeartbeats 2000000

end Go.PM

