/- Disks that are up and not armed (Calm); the blocks of a disk. -/
import Derived.Test.YtdccbceaajnajaaD11
namespace Go.Proofs.Ytdccbceaajnajaa
open Go.RowKit
set_option linter.unusedSimpArgs false
set_option linter.unusedVariables false

/-- A disk that is up, not armed, never fell, with at most n acts and n waiting writes. -/
structure Calm (A : ADisk) (n : Nat) : Prop where
  down : A.down = false
  armed : A.armed = 0
  falls : A.falls = 0
  acts : A.acts ≤ n
  waits : A.waits.length ≤ n
  small : Small A
  inside : ∀ p ∈ A.waits, p.1 < 3120
theorem Calm.mono {A : ADisk} {n m : Nat} (h : Calm A n) (hm : n ≤ m) : Calm A m := { h with acts := by have := h.acts; omega, waits := by have := h.waits; omega }
theorem calm_new : Calm newA 0 := ⟨rfl, rfl, rfl, by decide, by decide, newA_small, fun p hp => by cases hp⟩
theorem Calm.act {A : ADisk} {n : Nat} (h : Calm A n) : actE A = 0 := by simp [actE, h.down, h.armed]
theorem Calm.acted {A : ADisk} {n : Nat} (h : Calm A n) : actA A = { A with acts := A.acts + 1 } := by
  have := h.armed
  simp [actA, h.down, h.armed, show max (-1 : Int) 0 = 0 by decide]
theorem Calm.wrote {A : ADisk} {n : Nat} (h : Calm A n) (m : Int) (s : ByteArray) : writeE A m s = if isB m && decide (s.size ≤ 340) then 0 else 2 := by
  simp only [_root_.Go.Proofs.Ytdccbceaajnajaa.writeE, h.act]
  by_cases h1 : isB m = true <;> by_cases h2 : s.size ≤ 340 <;> simp [h1, h2] <;> omega
theorem writeE_ok {A : ADisk} {n : Nat} (h : Calm A n) {m : Int} {s : ByteArray} (hw : writeE A m s = 0) : isB m = true ∧ s.size ≤ 340 := by
  rw [h.wrote] at hw
  split at hw
  · simp_all
  · cases hw
theorem writeE_no {A : ADisk} {n : Nat} (h : Calm A n) {m : Int} {s : ByteArray} (hw : writeE A m s ≠ 0) : writeA A m s = A := by
  rw [h.wrote] at hw
  simp only [writeA]
  by_cases h1 : isB m = true <;> by_cases h2 : s.size ≤ 340 <;> simp_all
theorem writeA_ok {A : ADisk} {n : Nat} (h : Calm A n) {m : Int} {s : ByteArray} (hm : isB m = true) (hs : s.size ≤ 340) : writeA A m s = { A with acts := A.acts + 1, waits := A.waits ++ [(m.toNat, s)] } := by
  rw [writeA_yes hm hs h.act, h.acted]
theorem isB_lt {m : Int} (h : isB m = true) : m.toNat < 3120 := by unfold isB at h; simp at h; omega
theorem Calm.write {A : ADisk} {n : Nat} (h : Calm A n) {m : Int} {s : ByteArray} (hw : writeE A m s = 0) : Calm (writeA A m s) (n + 1) := by
  obtain ⟨hm, hs⟩ := writeE_ok h hw
  rw [writeA_ok h hm hs]
  refine ⟨h.down, h.armed, h.falls, ?_, ?_, ⟨h.small.1, ?_⟩, ?_⟩
  · have := h.acts; simp only; omega
  · have := h.waits; simp only [List.length_append, List.length_cons, List.length_nil]; omega
  · intro p hp
    rcases List.mem_append.1 hp with h1 | h1
    · exact h.small.2 p h1
    · simp at h1; subst h1; exact hs
  · intro p hp
    rcases List.mem_append.1 hp with h1 | h1
    · exact h.inside p h1
    · simp at h1; subst h1; exact isB_lt hm
theorem Calm.flush {A : ADisk} {n : Nat} (h : Calm A n) : Calm (flushA A) (n + 1) := by
  have e : flushA A = { A with acts := A.acts + 1, waits := [], safe := layAll A.waits A.safe } := by
    simp only [flushA, h.act, h.acted, if_true]
  rw [e]
  refine ⟨h.down, h.armed, h.falls, ?_, Nat.zero_le _, ⟨fun i hi => h.small.lay i hi, fun p hp => by cases hp⟩, fun p hp => by cases hp⟩
  have := h.acts; simp only; omega

/-! Two disks side by side. -/
theorem DiskAt.base {w : World} {b : Nat} {ow : Option Nat} {A : ADisk} (h : DiskAt w b ow A) : ∃ c, w.heap[b]? = some (.cells c 63 (0, 0)) := by
  obtain ⟨f, ⟨cs, h1, _⟩, _⟩ := h
  exact ⟨cs, h1⟩
theorem DiskAt.row {w : World} {b : Nat} {ow : Option Nat} {A : ADisk} (h : DiskAt w b ow A) {k : Nat} (hk : ow = some k) : ∃ c, w.heap[k]? = some (.cells c 103 (0, 0)) := by
  obtain ⟨f, _, hd⟩ := h
  obtain ⟨⟨xs, h1, _⟩, h3⟩ := hd.waits
  rw [← h3] at hk
  rcases h1.2 with ⟨e, _⟩ | ⟨g, cap, cur, e, hg, hh, r⟩
  · rw [e] at hk; simp [Value.ownBlock] at hk
  · rw [e] at hk
    simp only [Value.ownBlock, Option.some.injEq] at hk
    subst hk
    exact ⟨_, hh⟩
/-- The blocks of a disk. -/
abbrev its (b : Nat) (ow : Option Nat) (k : Nat) : Prop := k = b ∨ ow = some k
theorem DiskAt.typed {w : World} {b : Nat} {ow : Option Nat} {A : ADisk} (h : DiskAt w b ow A) {k : Nat} (hk : its b ow k) : ∃ c t, w.heap[k]? = some (.cells c t (0, 0)) ∧ (t = 63 ∨ t = 103) := by
  rcases hk with rfl | hk
  · obtain ⟨c, e⟩ := h.base; exact ⟨c, 63, e, .inl rfl⟩
  · obtain ⟨c, e⟩ := h.row hk; exact ⟨c, 103, e, .inr rfl⟩
theorem DiskAt.its_lt {w : World} {b : Nat} {ow : Option Nat} {A : ADisk} (h : DiskAt w b ow A) {k : Nat} (hk : its b ow k) : k < w.heap.size := by
  obtain ⟨c, t, e, _⟩ := h.typed hk
  exact (Array.getElem?_eq_some_iff.1 e).1
theorem DiskAt.apart {w : World} {b : Nat} {ow : Option Nat} {A : ADisk} (h : DiskAt w b ow A) : Apart (its b ow) w := by
  intro k c fr hk e
  obtain ⟨c', t, e', ht⟩ := h.typed hk
  rw [e] at e'
  injection e' with e'
  injection e' with _ e2 _
  rcases ht with rfl | rfl <;> cases e2
theorem DiskAt.own_ne {w : World} {b : Nat} {ow : Option Nat} {A : ADisk} (h : DiskAt w b ow A) {base : Nat} {e : TypeId} {size : Nat} {v : Value} {n : Nat} {xs : List Value} (hr : w.ownsRow base e size v n xs) (h1 : e ≠ 63) (h2 : e ≠ 103) :
    ∀ k, v.ownBlock = some k → ¬ its b ow k := by
  intro k hv hk
  obtain ⟨c, t, e', ht⟩ := h.typed hk
  refine Proofs.Ytdccbceaajnajaa.own_ne hr e' (fun e => ?_) hv
  rcases ht with h | h <;> subst h <;> subst e
  · exact h1 rfl
  · exact h2 rfl
/-- A disk beside one that turns. -/
theorem DiskAt.beside {w w' : World} {b b' : Nat} {ow ow' : Option Nat} {A A' : ADisk} (h : DiskAt w b' ow' A') (hd : DiskAt w b ow A) (ht : Turn (its b ow) w w') (hb : ¬ its b ow b') (ho : ∀ k, ow' = some k → ¬ its b ow k) : DiskAt w' b' ow' A' :=
  h.turn ht hd.apart hb ho

end Go.Proofs.Ytdccbceaajnajaa
