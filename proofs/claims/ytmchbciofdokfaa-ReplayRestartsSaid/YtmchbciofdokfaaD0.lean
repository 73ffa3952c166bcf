/- Words for a disk in memory: its cells, its waiting writes, what its blocks hold; and what each call makes of it, in plain words. -/
import Derived.Test.YtmchbciofdokfaaA0
import Derived.Maps.AppendAt
namespace Go.Proofs.Ytmchbciofdokfaa
open Go.RowKit
set_option linter.unusedVariables false

/-- Only blocks of S have turned. -/
structure Turn (S : Nat → Prop) (w w' : World) : Prop where
  os : w'.os = w.os
  tape : w'.tape = w.tape
  output : w'.output = w.output
  size : w.heap.size ≤ w'.heap.size
  block : ∀ k, k < w.heap.size → ¬ S k → w'.heap[k]? = w.heap[k]?
theorem Turn.of_new {S : Nat → Prop} {w w' : World} (h : New w w') : Turn S w w' := ⟨h.os, h.tape, h.output, h.size, fun k hk _ => h.block k hk⟩
theorem Turn.refl (S : Nat → Prop) (w : World) : Turn S w w := ⟨rfl, rfl, rfl, Nat.le_refl _, fun _ _ _ => rfl⟩
theorem Turn.trans {S : Nat → Prop} {a b c : World} (h : Turn S a b) (k : Turn S b c) : Turn S a c :=
  ⟨k.os.trans h.os, k.tape.trans h.tape, k.output.trans h.output, Nat.le_trans h.size k.size, fun i hi hs => (k.block i (Nat.lt_of_lt_of_le hi h.size) hs).trans (h.block i hi hs)⟩
theorem Turn.mono {S T : Nat → Prop} {a b : World} (h : Turn S a b) (hST : ∀ k, k < a.heap.size → S k → T k) : Turn T a b := ⟨h.os, h.tape, h.output, h.size, fun k hk hT => h.block k hk fun hs => hT (hST k hk hs)⟩
theorem Turn.setCell {S : Nat → Prop} {a w : World} (h : Turn S a w) {p : Addr} (hp : S p.block) (u : Value) : Turn S a (w.setCell p u) :=
  h.trans ⟨rfl, rfl, rfl, by simp [World.setCell], fun k hk hs => Below.heap_setCell _ _ _ _ (fun e => hs (e ▸ hp))⟩
theorem Turn.drew {S : Nat → Prop} {a w : World} (h : Turn S a w) : Turn S a w.drew := ⟨h.os, h.tape, h.output, h.size, h.block⟩
theorem Turn.below {S : Nat → Prop} {w w' : World} (h : Turn S w w') {B : Nat} (hS : ∀ k, S k → B ≤ k) (hB : B ≤ w.heap.size) : Below B w w' :=
  ⟨h.os, h.tape, h.output, h.size, fun k hk => h.block k (by omega) (fun hs => by have := hS k hs; omega)⟩

/-- The n cells of block b are f. -/
def Raw (w : World) (b : Nat) (t : TypeId) (n : Nat) (f : Nat → Value) : Prop := ∃ cs, w.heap[b]? = some (.cells cs t (0, 0)) ∧ cs.size = n ∧ ∀ i, i < n → cs[i]? = some (f i)
def upd (f : Nat → Value) (i : Nat) (v : Value) : Nat → Value := fun j => if j = i then v else f j
theorem upd_same (f : Nat → Value) (i : Nat) (v : Value) : upd f i v i = v := by simp [upd]
theorem upd_other (f : Nat → Value) {i j : Nat} (v : Value) (h : j ≠ i) : upd f i v j = f j := by simp [upd, h]
theorem Raw.lt {w : World} {b : Nat} {t : TypeId} {n : Nat} {f : Nat → Value} (h : Raw w b t n f) : b < w.heap.size := by
  obtain ⟨cs, h1, _⟩ := h
  exact (Array.getElem?_eq_some_iff.1 h1).1
theorem Raw.cell {w : World} {b : Nat} {t : TypeId} {n : Nat} {f : Nat → Value} (h : Raw w b t n f) (i : Nat) (hi : i < n) : w.cell? ⟨b, i, none⟩ = some (f i) := by
  obtain ⟨cs, h1, h2, h3⟩ := h
  simp only [World.cell?, h1]
  exact h3 i hi
theorem Raw.frozen {w : World} {b : Nat} {t : TypeId} {n : Nat} {f : Nat → Value} (h : Raw w b t n f) (i : Nat) : w.frozen? ⟨b, i, none⟩ = false := by
  obtain ⟨cs, h1, _⟩ := h
  simp only [World.frozen?, h1]; simp
theorem Raw.set {w : World} {b : Nat} {t : TypeId} {n : Nat} {f : Nat → Value} (h : Raw w b t n f) (i : Nat) (v : Value) : Raw (w.setCell ⟨b, i, none⟩ v) b t n (upd f i v) := by
  obtain ⟨cs, h1, h2, h3⟩ := h
  refine ⟨cs.setIfInBounds i v, heap_setCell_same w b i cs t v h1, by simpa using h2, fun j hj => ?_⟩
  rw [Array.getElem?_setIfInBounds]
  by_cases e : i = j
  · subst e; rw [if_pos rfl, if_pos (by omega), upd_same]
  · rw [if_neg e, h3 j hj, upd_other _ _ (fun h => e h.symm)]
theorem Raw.turn {S : Nat → Prop} {w w' : World} {b : Nat} {t : TypeId} {n : Nat} {f : Nat → Value} (h : Raw w b t n f) (ht : Turn S w w') (hb : ¬ S b) : Raw w' b t n f := by
  have hl := h.lt
  obtain ⟨cs, h1, h2, h3⟩ := h
  exact ⟨cs, by rw [ht.block b hl hb]; exact h1, h2, h3⟩
theorem Raw.typed {w : World} {b : Nat} {t : TypeId} {n : Nat} {f : Nat → Value} (h : Raw w b t n f) {t' : TypeId} (ht : t ≠ t') (c : Array Value) (fr : Nat × Nat) : w.heap[b]? ≠ some (.cells c t' fr) := by
  obtain ⟨cs, h1, _⟩ := h
  rw [h1]
  intro e
  injection e with e
  injection e with _ e2 _
  exact ht e2

/-- No block of S is one of bytes. -/
def Apart (S : Nat → Prop) (w : World) : Prop := ∀ k c fr, S k → w.heap[k]? ≠ some (.cells c 5 fr)
/-- Bytes that lie in a block of bytes of their own. -/
def Content (w : World) (v : Value) (s : ByteArray) : Prop := Bytes w v s ∧ ∀ k, v.ownBlock = some k → ∃ c fr, w.heap[k]? = some (.cells c 5 fr)
theorem Content.turn {S : Nat → Prop} {w w' : World} {v : Value} {s : ByteArray} (h : Content w v s) (ht : Turn S w w') (hS : Apart S w) : Content w' v s := by
  obtain ⟨⟨p, c, rfl, h1, h2, h3⟩, h4⟩ := h
  have hk : ∀ k, (Value.slice p s.size c).ownBlock = some k → w'.heap[k]? = w.heap[k]? := fun k hk => by
    obtain ⟨cs, fr, e⟩ := h4 k hk
    exact ht.block k (Array.getElem?_eq_some_iff.1 e).1 (fun hs => hS k cs fr hs e)
  refine ⟨⟨p, c, rfl, h1, h2, fun h0 => ?_⟩, fun k hk' => ?_⟩
  · obtain ⟨b, o, rfl, hb, hc⟩ := h3 h0
    refine ⟨b, o, rfl, Nat.lt_of_lt_of_le hb ht.size, fun i hi => ?_⟩
    rw [World.cell?_of_block (w := w) (a := ⟨b, o + i, none⟩) (hk b rfl)]
    exact hc i hi
  · rw [hk k hk']; exact h4 k hk'
theorem Content.nil (w : World) : Content w (.slice none 0 0) ByteArray.empty := ⟨⟨Option.none, 0, rfl, Nat.le_refl _, by decide, fun h => absurd h (by decide)⟩, fun k hk => by simp [Value.ownBlock] at hk⟩

/-- What a disk is. -/
structure ADisk where
  safe : Nat → ByteArray
  waits : List (Nat × ByteArray)
  down : Bool
  armed : Int
  acts : Int
  falls : Int

theorem apart_none (w : World) : Apart (fun _ => False) w := fun _ _ _ h => h.elim
/-! What the calls make of it. -/
def fallA (A : ADisk) : ADisk := { A with down := true, falls := if A.down then A.falls else A.falls + 1 }
def actE (A : ADisk) : Int := if A.down then 7 else if A.armed = 1 then 7 else 0
def actA (A : ADisk) : ADisk := if A.down then A else if A.armed = 1 then { A with armed := 0, down := true, falls := A.falls + 1 } else { A with armed := max (A.armed - 1) 0, acts := A.acts + 1 }

end Go.Proofs.Ytmchbciofdokfaa
