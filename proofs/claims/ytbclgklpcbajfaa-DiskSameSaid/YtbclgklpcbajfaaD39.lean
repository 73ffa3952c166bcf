/- A disk and the specification's disk side by side (Pair), alike (Like). -/
import Derived.Test.YtbclgklpcbajfaaD38
import Derived.Test.YtbclgklpcbajfaaD34
import Derived.Test.YtbclgklpcbajfaaD25
namespace Go.Proofs.Ytbclgklpcbajfaa
open Go.RowKit
set_option linter.unusedSimpArgs false
set_option linter.unusedVariables false

abbrev both (b : Nat) (ow : Option Nat) (c : Nat) (oc : Option Nat) (k : Nat) : Prop := its b ow k ∨ its c oc k
structure Pair (w a : World) (b : Nat) (ow : Option Nat) (A : ADisk) (c : Nat) (oc : Option Nat) (R : ADisk) : Prop where
  new : New w a
  disk : DiskAt a b ow A
  ref : RefAt a c oc R
  old : ∀ k, both b ow c oc k → w.heap.size ≤ k
/-- Only blocks of X have turned; those of Y are among them, or new. -/
structure Step (a a' : World) (X Y : Nat → Prop) : Prop where
  turn : Turn X a a'
  fresh : ∀ k, Y k → X k ∨ a.heap.size ≤ k
theorem Step.trans {a a1 a2 : World} {X Y Z : Nat → Prop} (h : Step a a1 X Y) (k : Step a1 a2 Y Z) : Step a a2 X Z := by
  refine ⟨⟨k.turn.os.trans h.turn.os, k.turn.tape.trans h.turn.tape, k.turn.output.trans h.turn.output, Nat.le_trans h.turn.size k.turn.size, fun i hi hx => ?_⟩, fun i hz => ?_⟩
  · rw [k.turn.block i (Nat.lt_of_lt_of_le hi h.turn.size) (fun hy => by
      rcases h.fresh i hy with h' | h'
      · exact hx h'
      · omega)]
    exact h.turn.block i hi hx
  · rcases k.fresh i hz with h' | h'
    · exact h.fresh i h'
    · right; exact Nat.le_trans h.turn.size h'
theorem Step.of_new {a a' : World} {X : Nat → Prop} (h : New a a') : Step a a' X X := ⟨Turn.of_new h, fun _ h => .inl h⟩
theorem Step.refl (a : World) (X : Nat → Prop) : Step a a X X := ⟨Turn.refl _ _, fun _ h => .inl h⟩
theorem Pair.newer {w a a' : World} {b : Nat} {ow : Option Nat} {A : ADisk} {c : Nat} {oc : Option Nat} {R : ADisk} (h : Pair w a b ow A c oc R) (hn : New a a') : Pair w a' b ow A c oc R := ⟨h.new.trans hn, h.disk.new hn, h.ref.new hn, h.old⟩
theorem disk_off_ref {a : World} {b : Nat} {ow : Option Nat} {A : ADisk} {c : Nat} {oc : Option Nat} {R : ADisk} (h : DiskAt a b ow A) (g : RefAt a c oc R) {k : Nat} (hk : its b ow k) : ¬ its c oc k := by
  intro hk2
  obtain ⟨x, t, e, ht⟩ := h.typed hk
  obtain ⟨y, s, e2, hs⟩ := g.typed hk2
  refine types_ne e e2 (fun e => ?_)
  rcases ht with h | h <;> rcases hs with h' | h' <;> subst h <;> subst h' <;> cases e
theorem RefAt.apart {w : World} {b : Nat} {ow : Option Nat} {A : ADisk} (h : RefAt w b ow A) : Apart (its b ow) w := by
  intro k c fr hk e
  obtain ⟨c', t, e', ht⟩ := h.typed hk
  rw [e] at e'
  injection e' with e'
  injection e' with _ e2 _
  rcases ht with rfl | rfl <;> cases e2
theorem New.by {S : Nat → Prop} {w a a' : World} (h : New w a) (ht : Turn S a a') (hS : ∀ k, S k → w.heap.size ≤ k) : New w a' := h.turn ht (fun k hk hs => by have := hS k hs; omega)
theorem Pair.disk_moved {w a a' : World} {b : Nat} {ow : Option Nat} {A A' : ADisk} {c : Nat} {oc : Option Nat} {R : ADisk} {v : Value} {e : Ending} (h : Pair w a b ow A c oc R) (hm : DiskMoved b ow v A' a e a') :
    ∃ ow', e = .returned v ∧ Pair w a' b ow' A' c oc R ∧ Step a a' (both b ow c oc) (both b ow' c oc) := by
  obtain ⟨he, ow', h1, h2, h3⟩ := hm
  have hn : New w a' := h.new.by h3 (fun k hk => h.old k (.inl hk))
  have hfr : ∀ k, both b ow' c oc k → both b ow c oc k ∨ a.heap.size ≤ k := by
    intro k hk
    rcases hk with (rfl | hk) | hk
    · exact .inl (.inl (.inl rfl))
    · rcases h2 k hk with h4 | h4
      · exact .inl (.inl (.inr h4))
      · exact .inr h4
    · exact .inl (.inr hk)
  refine ⟨ow', he, ⟨hn, h1, h.ref.turn h3 (fun hk => disk_off_ref h.disk h.ref hk (.inl rfl)) (fun k hk hs => disk_off_ref h.disk h.ref hs (.inr hk)), fun k hk => ?_⟩, h3.mono fun k _ hk => .inl hk, hfr⟩
  rcases hfr k hk with h4 | h4
  · exact h.old k h4
  · exact Nat.le_trans h.new.size h4
theorem Pair.ref_moved {w a a' : World} {b : Nat} {ow : Option Nat} {A : ADisk} {c : Nat} {oc : Option Nat} {R R' : ADisk} {v : Value} {e : Ending} (h : Pair w a b ow A c oc R) (hm : RefMoved c oc v R' a e a') :
    ∃ oc', e = .returned v ∧ Pair w a' b ow A c oc' R' ∧ Step a a' (both b ow c oc) (both b ow c oc') := by
  obtain ⟨he, oc', h1, h2, h3⟩ := hm
  have hn : New w a' := h.new.by h3 (fun k hk => h.old k (.inr hk))
  have hfr : ∀ k, both b ow c oc' k → both b ow c oc k ∨ a.heap.size ≤ k := by
    intro k hk
    rcases hk with hk | (rfl | hk)
    · exact .inl (.inl hk)
    · exact .inl (.inr (.inl rfl))
    · rcases h2 k hk with h4 | h4
      · exact .inl (.inr (.inr h4))
      · exact .inr h4
  refine ⟨oc', he, ⟨hn, h.disk.turn h3 h.ref.apart (fun hk => disk_off_ref h.disk h.ref (.inl rfl) hk) (fun k hk hs => disk_off_ref h.disk h.ref (.inr hk) hs), h1, fun k hk => ?_⟩, h3.mono fun k _ hk => .inr hk, hfr⟩
  rcases hfr k hk with h4 | h4
  · exact h.old k h4
  · exact Nat.le_trans h.new.size h4
theorem DiskBack.moved {b : Nat} {ow : Option Nat} {v : Value} {A : ADisk} {w w' : World} {e : Ending} (h : DiskBack b ow v A w e w') : DiskMoved b ow v A w e w' :=
  ⟨h.1, ow, h.2.1, fun k hk => .inl hk, h.2.2.mono fun k _ h => .inl h⟩
theorem Pair.disk_copied {w a a' : World} {b : Nat} {ow : Option Nat} {A : ADisk} {c : Nat} {oc : Option Nat} {R : ADisk} {e : Ending} (h : Pair w a b ow A c oc R) (hc : CopyBack A a e a') :
    ∃ b' ow', e = .returned (.pointer (some ⟨b', 0, none⟩)) ∧ Pair w a' b' ow' A c oc R ∧ Step a a' (both b ow c oc) (both b' ow' c oc) := by
  obtain ⟨b', ow', he, h1, h2, h3, h4⟩ := hc
  have hs := h.new.size
  have hfr : ∀ k, both b' ow' c oc k → both b ow c oc k ∨ a.heap.size ≤ k := by
    intro k hk
    rcases hk with (rfl | hk) | hk
    · exact .inr h3
    · exact .inr (h4 k hk)
    · exact .inl (.inr hk)
  refine ⟨b', ow', he, ⟨h.new.trans h2, h1, h.ref.new h2, fun k hk => ?_⟩, Turn.of_new h2, hfr⟩
  rcases hfr k hk with h5 | h5
  · exact h.old k h5
  · exact Nat.le_trans hs h5
theorem Pair.ref_copied {w a a' : World} {b : Nat} {ow : Option Nat} {A : ADisk} {c : Nat} {oc : Option Nat} {R : ADisk} {e : Ending} (h : Pair w a b ow A c oc R) (hc : RefCopy R a e a') :
    ∃ c' oc', e = .returned (.pointer (some ⟨c', 0, none⟩)) ∧ Pair w a' b ow A c' oc' R ∧ Step a a' (both b ow c oc) (both b ow c' oc') := by
  obtain ⟨c', oc', he, h1, h2, h3, h4⟩ := hc
  have hs := h.new.size
  have hfr : ∀ k, both b ow c' oc' k → both b ow c oc k ∨ a.heap.size ≤ k := by
    intro k hk
    rcases hk with hk | (rfl | hk)
    · exact .inl (.inl hk)
    · exact .inr h3
    · exact .inr (h4 k hk)
  refine ⟨c', oc', he, ⟨h.new.trans h2, h.disk.new h2, h1, fun k hk => ?_⟩, Turn.of_new h2, hfr⟩
  rcases hfr k hk with h5 | h5
  · exact h.old k h5
  · exact Nat.le_trans hs h5
/-- Another pair, of whose blocks none has turned. -/
theorem Pair.beside {w a a' : World} {X Y : Nat → Prop} {b : Nat} {ow : Option Nat} {A : ADisk} {c : Nat} {oc : Option Nat} {R : ADisk} (h : Pair w a b ow A c oc R) (hs : Step a a' X Y) (hn : New w a') (hX : Apart X a) (hoff : ∀ k, X k → ¬ both b ow c oc k) :
    Pair w a' b ow A c oc R ∧ ∀ k, Y k → ¬ both b ow c oc k := by
  refine ⟨⟨hn, h.disk.turn hs.turn hX (fun hk => hoff b hk (.inl (.inl rfl))) (fun k hk hs => hoff k hs (.inl (.inr hk))), h.ref.turn hs.turn (fun hk => hoff c hk (.inr (.inl rfl))) (fun k hk hs => hoff k hs (.inr (.inr hk))), h.old⟩, fun k hy hb => ?_⟩
  rcases hs.fresh k hy with h1 | h1
  · exact hoff k h1 hb
  · have : k < a.heap.size := by
      rcases hb with h2 | h2
      · exact h.disk.its_lt h2
      · exact h.ref.its_lt h2
    omega
theorem Pair.apart {w a : World} {b : Nat} {ow : Option Nat} {A : ADisk} {c : Nat} {oc : Option Nat} {R : ADisk} (h : Pair w a b ow A c oc R) : Apart (both b ow c oc) a := by
  intro k x fr hk e
  rcases hk with hk | hk
  · exact h.disk.apart k x fr hk e
  · exact h.ref.apart k x fr hk e

/-! In plain words. -/
structure Like (A R : ADisk) : Prop where
  safe : R.safe = A.safe
  waits : R.waits = A.waits
  down : R.down = A.down
  acts : R.acts = A.acts
  falls : R.falls = A.falls
  armed : A.down = false → R.armed = A.armed
theorem Like.refl (A : ADisk) : Like A A := ⟨rfl, rfl, rfl, rfl, rfl, fun _ => rfl⟩
theorem Like.up {A R : ADisk} (h : Like A R) (hd : A.down = false) : R = A := by
  obtain ⟨h1, h2, h3, h4, h5, h6⟩ := h
  have h6 := h6 hd
  cases A; cases R
  simp_all
theorem act_down {A : ADisk} (h : A.down = true) : actE A = 7 ∧ actA A = A := by simp [actE, actA, h]
theorem Like.write {A R : ADisk} (h : Like A R) (n : Int) (s : ByteArray) : writeE R n s = writeE A n s ∧ Like (writeA A n s) (writeA R n s) := by
  cases hd : A.down with
  | false => rw [h.up hd]; exact ⟨rfl, Like.refl _⟩
  | true =>
    obtain ⟨a1, a2⟩ := act_down hd
    obtain ⟨r1, r2⟩ := act_down (h.down.trans hd)
    refine ⟨by simp only [writeE, a1, r1], ?_⟩
    simp only [writeA, a1, a2, r1, r2]
    split
    · exact h
    · exact h
theorem Like.flush {A R : ADisk} (h : Like A R) : actE R = actE A ∧ Like (flushA A) (flushA R) := by
  cases hd : A.down with
  | false => rw [h.up hd]; exact ⟨rfl, Like.refl _⟩
  | true =>
    obtain ⟨a1, a2⟩ := act_down hd
    obtain ⟨r1, r2⟩ := act_down (h.down.trans hd)
    refine ⟨by rw [a1, r1], ?_⟩
    simp only [flushA, a1, a2, r1, r2]
    exact h
theorem Like.arm {A R : ADisk} (h : Like A R) (x : Int) : Like { A with armed := x } { R with armed := x } := ⟨h.safe, h.waits, h.down, h.acts, h.falls, fun _ => rfl⟩
theorem Like.start {A R : ADisk} (h : Like A R) : Like { A with down := false, armed := 0 } { R with down := false, armed := 0 } := ⟨h.safe, h.waits, rfl, h.acts, h.falls, fun _ => rfl⟩
theorem Like.crash {A R : ADisk} (h : Like A R) (keep : List Bool) (k : Int) : Like (crashA A keep k) { crashA R keep k with armed := 0 } := by
  obtain ⟨h1, h2, h3, h4, h5, h6⟩ := h
  refine ⟨?_, rfl, rfl, h4, ?_, fun h => by cases h⟩
  · simp only [crashA, fallA, h1, h2]
  · simp only [crashA, fallA, h3, h5]
theorem Like.lose {A R : ADisk} (h : Like A R) (n : Int) : Like (loseA A n) (loseA R n) := by
  simp only [loseA]
  split
  · exact ⟨by simp only [h.safe], by simp only [h.waits], h.down, h.acts, h.falls, h.armed⟩
  · exact h
/-- Bounds. -/
structure Lim (A : ADisk) (n : Nat) : Prop where
  acts : A.acts ≤ n
  falls : A.falls ≤ n
  waits : A.waits.length ≤ n
  small : Small A
  inside : ∀ p ∈ A.waits, p.1 < 3120
theorem lim_new : Lim newA 0 := ⟨by decide, by decide, by decide, newA_small, fun p hp => by cases hp⟩
theorem Lim.mono {A : ADisk} {n m : Nat} (h : Lim A n) (hm : n ≤ m) : Lim A m := ⟨by have := h.acts; omega, by have := h.falls; omega, by have := h.waits; omega, h.small, h.inside⟩
theorem Lim.act {A : ADisk} {n : Nat} (h : Lim A n) : Lim (actA A) (n + 1) := by
  have a := h.acts
  have f := h.falls
  have w := h.waits
  unfold actA
  split
  · exact h.mono (by omega)
  · split
    · exact ⟨by simp only; omega, by simp only; omega, by simp only; omega, h.small, h.inside⟩
    · exact ⟨by simp only; omega, by simp only; omega, by simp only; omega, h.small, h.inside⟩
theorem Lim.write {A : ADisk} {n : Nat} (h : Lim A n) (m : Int) (s : ByteArray) : Lim (writeA A m s) (n + 1) := by
  unfold writeA
  split
  · exact h.mono (by omega)
  · rename_i hb
    simp only [Bool.or_eq_true, Bool.not_eq_true', decide_eq_true_eq, not_or, Bool.not_eq_false] at hb
    have ha := h.act
    split
    · refine ⟨ha.acts, ha.falls, by have := h.waits; simp only [List.length_append, List.length_cons, List.length_nil]; omega, ⟨ha.small.1, fun p hp => ?_⟩, fun p hp => ?_⟩
      · rcases List.mem_append.1 hp with h1 | h1
        · exact h.small.2 p h1
        · simp at h1; subst h1; simp only; omega
      · rcases List.mem_append.1 hp with h1 | h1
        · exact h.inside p h1
        · simp at h1; subst h1; exact isB_lt hb.1
    · exact ha
theorem Lim.flush {A : ADisk} {n : Nat} (h : Lim A n) : Lim (flushA A) (n + 1) := by
  unfold flushA
  have ha := h.act
  split
  · exact ⟨ha.acts, ha.falls, Nat.zero_le _, ⟨fun i hi => h.small.lay i hi, fun p hp => by cases hp⟩, fun p hp => by cases hp⟩
  · exact ha
theorem Lim.arm {A : ADisk} {n : Nat} (h : Lim A n) (x : Int) : Lim { A with armed := x } n := ⟨h.acts, h.falls, h.waits, h.small, h.inside⟩
theorem Lim.start {A : ADisk} {n : Nat} (h : Lim A n) : Lim { A with down := false, armed := 0 } n := ⟨h.acts, h.falls, h.waits, h.small, h.inside⟩
theorem Lim.crash {A : ADisk} {n : Nat} (h : Lim A n) (keep : List Bool) (k : Int) : Lim (crashA A keep k) (n + 1) := by
  have a := h.acts
  have f := h.falls
  refine ⟨by show A.acts ≤ _; omega, ?_, Nat.zero_le _, ⟨fun i hi => crashTo_small h.small.1 h.small.2 h.inside _ i hi, fun p hp => by cases hp⟩, fun p hp => by cases hp⟩
  simp only [crashA, fallA]
  split <;> omega
theorem Lim.lose {A : ADisk} {n : Nat} (h : Lim A n) (m : Int) : Lim (loseA A m) n := by
  unfold loseA
  split
  · refine ⟨h.acts, h.falls, by have := others_len m.toNat A.waits; have := h.waits; simp only; omega, ⟨fun i hi => ?_, fun p hp => h.small.2 p (others_mem hp)⟩, fun p hp => h.inside p (others_mem hp)⟩
    simp only [lay1]
    split
    · decide
    · exact h.small.1 i hi
  · exact h
theorem Like.lim {A R : ADisk} {n : Nat} (h : Like A R) (hl : Lim A n) : Lim R n := ⟨by rw [h.acts]; exact hl.acts, by rw [h.falls]; exact hl.falls, by rw [h.waits]; exact hl.waits, ⟨by rw [h.safe]; exact hl.small.1, by rw [h.waits]; exact hl.small.2⟩, by rw [h.waits]; exact hl.inside⟩
theorem Like.read {A R : ADisk} (h : Like A R) (n : Int) : readE R n = readE A n ∧ readB R n = readB A n := by
  have e : readE R n = readE A n := by simp only [readE, h.down]
  exact ⟨e, by simp only [readB, e, h.safe, h.waits]⟩
theorem Like.same {A R B S : ADisk} (h : Like A R) (k : Like B S) : SameD R S ↔ SameD A B := by simp only [SameD, h.down, k.down, h.safe, k.safe, h.waits, k.waits]

end Go.Proofs.Ytbclgklpcbajfaa
