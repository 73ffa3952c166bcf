/- A disk of one's own (Mine), and the law's Awake. -/
import Derived.Test.YtdccbceaajnajaaD10
import Derived.Test.YtdccbceaajnajaaD9
namespace Go.Proofs.Ytdccbceaajnajaa
open Go.RowKit
set_option linter.unusedSimpArgs false
set_option linter.unusedVariables false

/-- A disk that was made since w. -/
structure Mine (w a : World) (b : Nat) (ow : Option Nat) (A : ADisk) : Prop where
  disk : DiskAt a b ow A
  new : New w a
  bb : w.heap.size ≤ b
  oo : ∀ k, ow = some k → w.heap.size ≤ k
theorem New.turn {S : Nat → Prop} {w a a' : World} (h : New w a) (ht : Turn S a a') (hS : ∀ k, k < w.heap.size → ¬ S k) : New w a' :=
  ⟨ht.os.trans h.os, ht.tape.trans h.tape, ht.output.trans h.output, Nat.le_trans h.size ht.size, fun k hk => (ht.block k (Nat.lt_of_lt_of_le hk h.size) (hS k hk)).trans (h.block k hk)⟩
theorem Mine.newer {w a a' : World} {b : Nat} {ow : Option Nat} {A : ADisk} (h : Mine w a b ow A) (hn : New a a') : Mine w a' b ow A := ⟨h.disk.new hn, h.new.trans hn, h.bb, h.oo⟩
theorem Mine.moved {w a a' : World} {b : Nat} {ow : Option Nat} {A A' : ADisk} {v : Value} {e : Ending} (h : Mine w a b ow A) (hm : DiskMoved b ow v A' a e a') : ∃ ow', e = .returned v ∧ Mine w a' b ow' A' := by
  obtain ⟨he, ow', h1, h2, h3⟩ := hm
  refine ⟨ow', he, h1, h.new.turn h3 (fun k hk hs => ?_), h.bb, fun k hk => ?_⟩
  · rcases hs with rfl | hs
    · have := h.bb; omega
    · have := h.oo k hs; omega
  · rcases h2 k hk with h4 | h4
    · exact h.oo k h4
    · have := h.new.size; omega
theorem Mine.back {w a a' : World} {b : Nat} {ow : Option Nat} {A A' : ADisk} {v : Value} {e : Ending} (h : Mine w a b ow A) (hm : DiskBack b ow v A' a e a') : e = .returned v ∧ Mine w a' b ow A' := by
  obtain ⟨he, h1, h3⟩ := hm
  exact ⟨he, h1, h.new.turn h3 (fun k hk hs => by have := h.bb; omega), h.bb, h.oo⟩
theorem Mine.made (w a : World) (h : New w a) : Mine w (a.alloc (.cells newCells 63)) a.heap.size none newA := ⟨newAt a, h.alloc _ _, h.size, fun k hk => by cases hk⟩

/-- Bytes that were just laid. -/
theorem Content.made (w : World) (s : ByteArray) (n : Nat) (xs : List Value) (hn : s.size = n) (hm : n ≤ maxLen) (hx : byteVals s = xs) : Content (w.alloc (.cells xs.toArray 5)) (.slice (some ⟨w.heap.size, 0, none⟩) n n) s :=
  ⟨Bytes.made w s n xs hn hm hx, fun k hk => by simp only [Value.ownBlock, Option.some.injEq] at hk; subst hk; exact ⟨_, _, World.alloc_heap_new w _⟩⟩

def abc : ByteArray := ⟨#[97, 98, 99]⟩
def xy : ByteArray := ⟨#[120, 121]⟩
def wake1 : ADisk := writeA newA 5 abc
def wake2 : ADisk := flushA wake1
def wake3 : ADisk := writeA wake2 5 xy
def wake4 : ADisk := crashA wake3 [true] 1
def wake5 : ADisk := { wake4 with down := false, armed := 0 }
theorem wake_facts : writeE newA 5 abc = 0 ∧ actE wake1 = 0 ∧ writeE wake2 5 xy = 0 ∧ readE wake5 5 = 0 ∧ readB wake5 5 = ⟨#[120, 98, 99]⟩ ∧ wake1.waits.length = 1 ∧ wake3.waits.length = 1 ∧ wake5.waits.length = 0 ∧ wake1.falls = 0 ∧ wake1.acts = 1 ∧ wake2.falls = 0 ∧ wake2.acts = 2 ∧ wake2.waits.length = 0 ∧ wake3.falls = 0 := by
  refine ⟨?_, ?_, ?_, ?_, ?_, ?_, ?_, ?_, ?_, ?_, ?_, ?_, ?_, ?_⟩ <;> decide
theorem wake3_small : Small wake3 := by
  constructor
  · intro i hi
    show (layAll [(5, abc)] (fun _ => ByteArray.empty) i).size ≤ 340
    simp only [layAll, List.foldl, lay1]
    split <;> decide
  · intro p hp
    have : p = (5, xy) := by simpa using (show p ∈ [(5, xy)] from hp)
    subst this
    decide
theorem wake5_small : Small wake5 := by
  have h := wake3_small
  constructor
  · intro i hi
    exact crashTo_small (l := wake3.waits) (keep := [true]) (k := 1) (s := wake3.safe) h.1 h.2 (fun p hp => by
      have : p = (5, xy) := by simpa using (show p ∈ [(5, xy)] from hp)
      subst this; decide) 1 i hi
  · intro p hp; cases hp

end Go.Proofs.Ytdccbceaajnajaa
