/- Disks that are up and not armed (Calm); two disks side by side (Two); in plain words, what a loss of power may leave. -/
import Derived.Test.YtbclgklpcbajfaaD19
import Derived.Test.YtbclgklpcbajfaaD16
namespace Go.Proofs.Ytbclgklpcbajfaa
open Go.RowKit
set_option linter.unusedSimpArgs false
set_option linter.unusedVariables false

/-- A disk that is up, not armed, never fell, with at most n acts and n waiting writes. -/
structure Calm (A : ADisk) (n : Nat) : Prop where
  down : A.down = false
  armed : A.armed = 0
  falls : A.falls = 0
  acts : A.acts ≤ n
  waits : A.waits.length ≤ n
  small : Small A
  inside : ∀ p ∈ A.waits, p.1 < 3120
theorem Calm.mono {A : ADisk} {n m : Nat} (h : Calm A n) (hm : n ≤ m) : Calm A m := { h with acts := by have := h.acts; omega, waits := by have := h.waits; omega }
theorem calm_new : Calm newA 0 := ⟨rfl, rfl, rfl, by decide, by decide, newA_small, fun p hp => by cases hp⟩
theorem Calm.act {A : ADisk} {n : Nat} (h : Calm A n) : actE A = 0 := by simp [actE, h.down, h.armed]
theorem Calm.acted {A : ADisk} {n : Nat} (h : Calm A n) : actA A = { A with acts := A.acts + 1 } := by
  have := h.armed
  simp [actA, h.down, h.armed, show max (-1 : Int) 0 = 0 by decide]
theorem Calm.wrote {A : ADisk} {n : Nat} (h : Calm A n) (m : Int) (s : ByteArray) : writeE A m s = if isB m && decide (s.size ≤ 340) then 0 else 2 := by
  simp only [_root_.Go.Proofs.Ytbclgklpcbajfaa.writeE, h.act]
  by_cases h1 : isB m = true <;> by_cases h2 : s.size ≤ 340 <;> simp [h1, h2] <;> omega
theorem writeE_ok {A : ADisk} {n : Nat} (h : Calm A n) {m : Int} {s : ByteArray} (hw : writeE A m s = 0) : isB m = true ∧ s.size ≤ 340 := by
  rw [h.wrote] at hw
  split at hw
  · simp_all
  · cases hw
theorem writeE_no {A : ADisk} {n : Nat} (h : Calm A n) {m : Int} {s : ByteArray} (hw : writeE A m s ≠ 0) : writeA A m s = A := by
  rw [h.wrote] at hw
  simp only [writeA]
  by_cases h1 : isB m = true <;> by_cases h2 : s.size ≤ 340 <;> simp_all
theorem writeA_ok {A : ADisk} {n : Nat} (h : Calm A n) {m : Int} {s : ByteArray} (hm : isB m = true) (hs : s.size ≤ 340) : writeA A m s = { A with acts := A.acts + 1, waits := A.waits ++ [(m.toNat, s)] } := by
  rw [writeA_yes hm hs h.act, h.acted]
theorem isB_lt {m : Int} (h : isB m = true) : m.toNat < 3120 := by unfold isB at h; simp at h; omega
theorem Calm.write {A : ADisk} {n : Nat} (h : Calm A n) {m : Int} {s : ByteArray} (hw : writeE A m s = 0) : Calm (writeA A m s) (n + 1) := by
  obtain ⟨hm, hs⟩ := writeE_ok h hw
  rw [writeA_ok h hm hs]
  refine ⟨h.down, h.armed, h.falls, ?_, ?_, ⟨h.small.1, ?_⟩, ?_⟩
  · have := h.acts; simp only; omega
  · have := h.waits; simp only [List.length_append, List.length_cons, List.length_nil]; omega
  · intro p hp
    rcases List.mem_append.1 hp with h1 | h1
    · exact h.small.2 p h1
    · simp at h1; subst h1; exact hs
  · intro p hp
    rcases List.mem_append.1 hp with h1 | h1
    · exact h.inside p h1
    · simp at h1; subst h1; exact isB_lt hm
theorem Calm.flush {A : ADisk} {n : Nat} (h : Calm A n) : Calm (flushA A) (n + 1) := by
  have e : flushA A = { A with acts := A.acts + 1, waits := [], safe := layAll A.waits A.safe } := by
    simp only [flushA, h.act, h.acted, if_true]
  rw [e]
  refine ⟨h.down, h.armed, h.falls, ?_, Nat.zero_le _, ⟨fun i hi => h.small.lay i hi, fun p hp => by cases hp⟩, fun p hp => by cases hp⟩
  have := h.acts; simp only; omega

/-! Two disks side by side. -/
theorem own_ne {w : World} {base : Nat} {e : TypeId} {size : Nat} {v : Value} {n : Nat} {xs : List Value} (h : w.ownsRow base e size v n xs) {k : Nat} {c : Array Value} {t : TypeId} {fr : Nat × Nat} (hk : w.heap[k]? = some (.cells c t fr)) (ht : t ≠ e) : v.ownBlock ≠ some k := by
  intro hv
  rcases h.2 with ⟨rfl, _⟩ | ⟨g, cap, cur, rfl, hg, hh, r⟩
  · simp [Value.ownBlock] at hv
  · simp only [Value.ownBlock, Option.some.injEq] at hv
    subst hv
    rw [hh] at hk
    injection hk with hk
    injection hk with _ e2 _
    exact ht e2.symm
theorem DiskAt.base {w : World} {b : Nat} {ow : Option Nat} {A : ADisk} (h : DiskAt w b ow A) : ∃ c, w.heap[b]? = some (.cells c 69 (0, 0)) := by
  obtain ⟨f, ⟨cs, h1, _⟩, _⟩ := h
  exact ⟨cs, h1⟩
theorem DiskAt.row {w : World} {b : Nat} {ow : Option Nat} {A : ADisk} (h : DiskAt w b ow A) {k : Nat} (hk : ow = some k) : ∃ c, w.heap[k]? = some (.cells c 97 (0, 0)) := by
  obtain ⟨f, _, hd⟩ := h
  obtain ⟨⟨xs, h1, _⟩, h3⟩ := hd.waits
  rw [← h3] at hk
  rcases h1.2 with ⟨e, _⟩ | ⟨g, cap, cur, e, hg, hh, r⟩
  · rw [e] at hk; simp [Value.ownBlock] at hk
  · rw [e] at hk
    simp only [Value.ownBlock, Option.some.injEq] at hk
    subst hk
    exact ⟨_, hh⟩
/-- The blocks of a disk. -/
abbrev its (b : Nat) (ow : Option Nat) (k : Nat) : Prop := k = b ∨ ow = some k
theorem DiskAt.typed {w : World} {b : Nat} {ow : Option Nat} {A : ADisk} (h : DiskAt w b ow A) {k : Nat} (hk : its b ow k) : ∃ c t, w.heap[k]? = some (.cells c t (0, 0)) ∧ (t = 69 ∨ t = 97) := by
  rcases hk with rfl | hk
  · obtain ⟨c, e⟩ := h.base; exact ⟨c, 69, e, .inl rfl⟩
  · obtain ⟨c, e⟩ := h.row hk; exact ⟨c, 97, e, .inr rfl⟩
theorem DiskAt.its_lt {w : World} {b : Nat} {ow : Option Nat} {A : ADisk} (h : DiskAt w b ow A) {k : Nat} (hk : its b ow k) : k < w.heap.size := by
  obtain ⟨c, t, e, _⟩ := h.typed hk
  exact (Array.getElem?_eq_some_iff.1 e).1
theorem DiskAt.apart {w : World} {b : Nat} {ow : Option Nat} {A : ADisk} (h : DiskAt w b ow A) : Apart (its b ow) w := by
  intro k c fr hk e
  obtain ⟨c', t, e', ht⟩ := h.typed hk
  rw [e] at e'
  injection e' with e'
  injection e' with _ e2 _
  rcases ht with rfl | rfl <;> cases e2
theorem DiskAt.own_ne {w : World} {b : Nat} {ow : Option Nat} {A : ADisk} (h : DiskAt w b ow A) {base : Nat} {e : TypeId} {size : Nat} {v : Value} {n : Nat} {xs : List Value} (hr : w.ownsRow base e size v n xs) (h1 : e ≠ 69) (h2 : e ≠ 97) :
    ∀ k, v.ownBlock = some k → ¬ its b ow k := by
  intro k hv hk
  obtain ⟨c, t, e', ht⟩ := h.typed hk
  refine Proofs.Ytbclgklpcbajfaa.own_ne hr e' (fun e => ?_) hv
  rcases ht with h | h <;> subst h <;> subst e
  · exact h1 rfl
  · exact h2 rfl
/-- A disk beside one that turns. -/
theorem DiskAt.beside {w w' : World} {b b' : Nat} {ow ow' : Option Nat} {A A' : ADisk} (h : DiskAt w b' ow' A') (hd : DiskAt w b ow A) (ht : Turn (its b ow) w w') (hb : ¬ its b ow b') (ho : ∀ k, ow' = some k → ¬ its b ow k) : DiskAt w' b' ow' A' :=
  h.turn ht hd.apart hb ho

structure Two (w a : World) (b : Nat) (ow : Option Nat) (A : ADisk) (c : Nat) (oc : Option Nat) (C : ADisk) : Prop where
  one : Mine w a b ow A
  two : Mine w a c oc C
  bc : b ≠ c
  oo : ∀ k, ow = some k → oc ≠ some k
theorem Two.swap {w a : World} {b : Nat} {ow : Option Nat} {A : ADisk} {c : Nat} {oc : Option Nat} {C : ADisk} (h : Two w a b ow A c oc C) : Two w a c oc C b ow A :=
  ⟨h.two, h.one, Ne.symm h.bc, fun k h1 h2 => h.oo k h2 h1⟩
theorem types_ne {w : World} {k : Nat} {c d : Array Value} {fr fr' : Nat × Nat} {s t : TypeId} (h1 : w.heap[k]? = some (.cells c s fr)) (h2 : w.heap[k]? = some (.cells d t fr')) (hst : s ≠ t) : False := by
  rw [h1] at h2
  injection h2 with h2
  injection h2 with _ e _
  exact hst e
theorem Two.newer {w a a' : World} {b : Nat} {ow : Option Nat} {A : ADisk} {c : Nat} {oc : Option Nat} {C : ADisk} (h : Two w a b ow A c oc C) (hn : New a a') : Two w a' b ow A c oc C := ⟨h.one.newer hn, h.two.newer hn, h.bc, h.oo⟩
theorem Two.not1 {w a : World} {b : Nat} {ow : Option Nat} {A : ADisk} {c : Nat} {oc : Option Nat} {C : ADisk} (h : Two w a b ow A c oc C) : ¬ its b ow c := by
  intro hk
  rcases hk with e | e
  · exact h.bc e.symm
  · obtain ⟨x, e1⟩ := h.one.disk.row e
    obtain ⟨y, e2⟩ := h.two.disk.base
    exact types_ne e1 e2 (by decide)
theorem Two.not2 {w a : World} {b : Nat} {ow : Option Nat} {A : ADisk} {c : Nat} {oc : Option Nat} {C : ADisk} (h : Two w a b ow A c oc C) : ∀ k, oc = some k → ¬ its b ow k := by
  intro k hk hi
  rcases hi with e | e
  · subst e
    obtain ⟨x, e1⟩ := h.two.disk.row hk
    obtain ⟨y, e2⟩ := h.one.disk.base
    exact types_ne e1 e2 (by decide)
  · exact h.oo k e hk
theorem Two.moved {w a a' : World} {b : Nat} {ow : Option Nat} {A A' : ADisk} {c : Nat} {oc : Option Nat} {C : ADisk} {v : Value} {e : Ending} (h : Two w a b ow A c oc C) (hm : DiskMoved b ow v A' a e a') : ∃ ow', e = .returned v ∧ Two w a' b ow' A' c oc C ∧ Turn (its b ow) a a' := by
  obtain ⟨he, ow', h1, h2, h3⟩ := id hm
  have hc : Mine w a' c oc C := ⟨h.two.disk.beside h.one.disk h3 h.not1 h.not2, h.two.new.turn h3 (fun k hk hs => by
    rcases hs with rfl | hs
    · have := h.one.bb; omega
    · have := h.one.oo k hs; omega), h.two.bb, h.two.oo⟩
  obtain ⟨he', hm'⟩ : e = .returned v ∧ Mine w a' b ow' A' := by
    refine ⟨he, h1, hc.new, h.one.bb, fun k hk => ?_⟩
    rcases h2 k hk with h4 | h4
    · exact h.one.oo k h4
    · have := h.one.new.size; omega
  refine ⟨ow', he, ⟨hm', hc, h.bc, fun k hk hk2 => ?_⟩, h3⟩
  rcases h2 k hk with h4 | h4
  · exact h.oo k h4 hk2
  · have := h.two.disk.its_lt (.inr hk2); omega
theorem Two.back {w a a' : World} {b : Nat} {ow : Option Nat} {A A' : ADisk} {c : Nat} {oc : Option Nat} {C : ADisk} {v : Value} {e : Ending} (h : Two w a b ow A c oc C) (hm : DiskBack b ow v A' a e a') : e = .returned v ∧ Two w a' b ow A' c oc C ∧ Turn (its b ow) a a' := by
  obtain ⟨he, h1, h3⟩ := hm
  have ht : Turn (its b ow) a a' := h3.mono fun k _ h => .inl h
  have hm : DiskMoved b ow v A' a e a' := ⟨he, ow, h1, fun k hk => .inl hk, ht⟩
  have hc : Mine w a' c oc C := ⟨h.two.disk.beside h.one.disk ht h.not1 h.not2, h.two.new.turn ht (fun k hk hs => by
    rcases hs with rfl | hs
    · have := h.one.bb; omega
    · have := h.one.oo k hs; omega), h.two.bb, h.two.oo⟩
  exact ⟨he, ⟨⟨h1, hc.new, h.one.bb, h.one.oo⟩, hc, h.bc, h.oo⟩, ht⟩
/-- A copy beside what it is of. -/
theorem Mine.copied {w a a' : World} {b : Nat} {ow : Option Nat} {A : ADisk} {e : Ending} (h : Mine w a b ow A) (hc : CopyBack A a e a') : ∃ c oc, e = .returned (.pointer (some ⟨c, 0, none⟩)) ∧ Two w a' b ow A c oc A ∧ New a a' := by
  obtain ⟨c, oc, he, h1, h2, h3, h4⟩ := hc
  have hs := h.new.size
  refine ⟨c, oc, he, ⟨h.newer h2, ⟨h1, h.new.trans h2, by omega, fun k hk => by have := h4 k hk; omega⟩, ?_, fun k hk hk2 => ?_⟩, h2⟩
  · have := h.disk.lt; omega
  · have := h.disk.its_lt (.inr hk); have := h4 k hk2; omega

end Go.Proofs.Ytbclgklpcbajfaa
