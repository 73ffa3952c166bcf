/- Bounds of a disk (Lim). -/
import Derived.Test.YtdccbceaajnajaaD45
import Derived.Test.YtdccbceaajnajaaD10
namespace Go.Proofs.Ytdccbceaajnajaa
open Go.RowKit
set_option linter.unusedSimpArgs false
set_option linter.unusedVariables false

/-- Bounds. -/
structure Lim (A : ADisk) (n : Nat) : Prop where
  acts : A.acts ≤ n
  falls : A.falls ≤ n
  waits : A.waits.length ≤ n
  small : Small A
  inside : ∀ p ∈ A.waits, p.1 < 3120
theorem lim_new : Lim newA 0 := ⟨by decide, by decide, by decide, newA_small, fun p hp => by cases hp⟩
theorem Lim.mono {A : ADisk} {n m : Nat} (h : Lim A n) (hm : n ≤ m) : Lim A m := ⟨by have := h.acts; omega, by have := h.falls; omega, by have := h.waits; omega, h.small, h.inside⟩
theorem Lim.act {A : ADisk} {n : Nat} (h : Lim A n) : Lim (actA A) (n + 1) := by
  have a := h.acts
  have f := h.falls
  have w := h.waits
  unfold actA
  split
  · exact h.mono (by omega)
  · split
    · exact ⟨by simp only; omega, by simp only; omega, by simp only; omega, h.small, h.inside⟩
    · exact ⟨by simp only; omega, by simp only; omega, by simp only; omega, h.small, h.inside⟩
theorem Lim.write {A : ADisk} {n : Nat} (h : Lim A n) (m : Int) (s : ByteArray) : Lim (writeA A m s) (n + 1) := by
  unfold writeA
  split
  · exact h.mono (by omega)
  · rename_i hb
    simp only [Bool.or_eq_true, Bool.not_eq_true', decide_eq_true_eq, not_or, Bool.not_eq_false] at hb
    have ha := h.act
    split
    · refine ⟨ha.acts, ha.falls, by have := h.waits; simp only [List.length_append, List.length_cons, List.length_nil]; omega, ⟨ha.small.1, fun p hp => ?_⟩, fun p hp => ?_⟩
      · rcases List.mem_append.1 hp with h1 | h1
        · exact h.small.2 p h1
        · simp at h1; subst h1; simp only; omega
      · rcases List.mem_append.1 hp with h1 | h1
        · exact h.inside p h1
        · simp at h1; subst h1; exact isB_lt hb.1
    · exact ha
theorem Lim.flush {A : ADisk} {n : Nat} (h : Lim A n) : Lim (flushA A) (n + 1) := by
  unfold flushA
  have ha := h.act
  split
  · exact ⟨ha.acts, ha.falls, Nat.zero_le _, ⟨fun i hi => h.small.lay i hi, fun p hp => by cases hp⟩, fun p hp => by cases hp⟩
  · exact ha
theorem Lim.arm {A : ADisk} {n : Nat} (h : Lim A n) (x : Int) : Lim { A with armed := x } n := ⟨h.acts, h.falls, h.waits, h.small, h.inside⟩
theorem Lim.start {A : ADisk} {n : Nat} (h : Lim A n) : Lim { A with down := false, armed := 0 } n := ⟨h.acts, h.falls, h.waits, h.small, h.inside⟩

end Go.Proofs.Ytdccbceaajnajaa
