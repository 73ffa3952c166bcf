/- disk.Disk.Write, at every disk that was made. -/
import Derived.Test.YtmchbciofdokfaaD2
import Derived.Deep.RegionLaw
import Derived.Deep.AppendLies
namespace Go.Proofs.Ytmchbciofdokfaa
open Go.RowKit
set_option linter.unusedSimpArgs false
set_option linter.unusedVariables false

theorem Turn.grown {S : Nat → Prop} {a w w' : World} {row : Option Nat} (h : Turn S a w) (hg : w.grownBy w' row) (hr : ∀ k, k < a.heap.size → row = some k → S k) : Turn S a w' :=
  ⟨hg.os.trans h.os, hg.tape.trans h.tape, hg.output.trans h.output, Nat.le_trans h.size hg.size, fun k hk hs => (hg.block k (Nat.lt_of_lt_of_le hk h.size) (fun e => hs (hr k hk e.symm))).trans (h.block k hk hs)⟩
theorem own_turn {S : Nat → Prop} {w w' : World} {base : Nat} {e : TypeId} {size : Nat} {v : Value} {n : Nat} {xs : List Value} (h : w.ownsRow base e size v n xs) (ht : Turn S w w') (hS : ∀ k, v.ownBlock = some k → ¬ S k) : w'.ownsRow base e size v n xs := by
  refine ⟨h.1, ?_⟩
  rcases h.2 with h3 | ⟨g, cap, cur, rfl, hg, hh, r⟩
  · exact .inl h3
  · exact .inr ⟨g, cap, cur, rfl, hg, by rw [ht.block g (Array.getElem?_eq_some_iff.1 hh).1 (hS g rfl)]; exact hh, r⟩
theorem own_old {w w' : World} {base : Nat} {e : TypeId} {size : Nat} {v : Value} {n : Nat} {xs : List Value} (h : w.ownsRow base e size v n xs) (hb : New w w') : w'.ownsRow base e size v n xs :=
  own_turn h (Turn.of_new (S := fun _ => False) hb) (fun _ _ h => h)
theorem Content.new {w w' : World} {v : Value} {s : ByteArray} (h : Content w v s) (hb : New w w') : Content w' v s := h.turn (Turn.of_new (S := fun _ => False) hb) (apart_none w)
/-- The block of a row that is not one of bytes. -/
theorem apart_own {w : World} {base : Nat} {e : TypeId} {size : Nat} {v : Value} {n : Nat} {xs : List Value} (h : w.ownsRow base e size v n xs) (he : e ≠ 5) : Apart (fun k => v.ownBlock = some k) w := by
  intro k c fr hk hh
  rcases h.2 with ⟨rfl, _⟩ | ⟨g, cap, cur, rfl, hg, h2, r⟩
  · simp [Value.ownBlock] at hk
  · simp only [Value.ownBlock, Option.some.injEq] at hk
    subst hk
    rw [h2] at hh
    injection hh with hh
    injection hh with _ e2 _
    exact he e2

theorem own_ne {w : World} {base : Nat} {e : TypeId} {size : Nat} {v : Value} {n : Nat} {xs : List Value} (h : w.ownsRow base e size v n xs) {k : Nat} {c : Array Value} {t : TypeId} {fr : Nat × Nat} (hk : w.heap[k]? = some (.cells c t fr)) (ht : t ≠ e) : v.ownBlock ≠ some k := by
  intro hv
  rcases h.2 with ⟨rfl, _⟩ | ⟨g, cap, cur, rfl, hg, hh, r⟩
  · simp [Value.ownBlock] at hv
  · simp only [Value.ownBlock, Option.some.injEq] at hv
    subst hv
    rw [hh] at hk
    injection hk with hk
    injection hk with _ e2 _
    exact ht e2.symm

/-- The cells of the waiting writes. -/
def WaitCells (w : World) (l : List (Nat × ByteArray)) (xs : List Value) : Prop := xs.length = l.length * 2 ∧ ∀ i (h : i < l.length), xs[i * 2]? = some (.int .i64 l[i].1) ∧ ∃ u, xs[i * 2 + 1]? = some u ∧ Content w u l[i].2
theorem WaitCells.snoc {w : World} {l : List (Nat × ByteArray)} {xs : List Value} (h : WaitCells w l xs) {n : Nat} {u : Value} {s : ByteArray} (hu : Content w u s) : WaitCells w (l ++ [(n, s)]) (xs ++ [.int .i64 n, u]) := by
  obtain ⟨h0, h1⟩ := h
  refine ⟨by simp [h0]; omega, fun i hi => ?_⟩
  rcases Nat.lt_or_ge i l.length with h | h
  · obtain ⟨e1, u', e2, e3⟩ := h1 i h
    rw [List.getElem_append_left h]
    exact ⟨by rw [List.getElem?_append_left (by omega)]; exact e1, u', by rw [List.getElem?_append_left (by omega)]; exact e2, e3⟩
  · have : i = l.length := by simp at hi; omega
    subst this
    refine ⟨?_, u, ?_, ?_⟩
    · rw [List.getElem?_append_right (by omega), h0]; simp
    · rw [List.getElem?_append_right (by omega), h0, show l.length * 2 + 1 - l.length * 2 = 1 by omega]; simp
    · simpa using hu
theorem WaitCells.turn {S : Nat → Prop} {w w' : World} {l : List (Nat × ByteArray)} {xs : List Value} (h : WaitCells w l xs) (ht : Turn S w w') (hS : Apart S w) : WaitCells w' l xs :=
  ⟨h.1, fun i hi => by obtain ⟨e1, u, e2, e3⟩ := h.2 i hi; exact ⟨e1, u, e2, e3.turn ht hS⟩⟩

theorem actA_waits (A : ADisk) : (actA A).waits = A.waits := by
  unfold actA
  by_cases h : A.down = true
  · simp [h]
  · by_cases h2 : A.armed = 1 <;> simp [h, h2]
theorem Bytes.new {w w' : World} {v : Value} {s : ByteArray} (h : Bytes w v s) (hb : New w w') : Bytes w' v s := RowAt.new h hb

def writeE (A : ADisk) (n : Int) (s : ByteArray) : Int := if !isB n || decide (340 < s.size) then 2 else actE A
def writeA (A : ADisk) (n : Int) (s : ByteArray) : ADisk := if !isB n || decide (340 < s.size) then A else if actE A = 0 then { actA A with waits := A.waits ++ [(n.toNat, s)] } else actA A
theorem writeA_yes {A : ADisk} {n : Int} {s : ByteArray} (hn : isB n = true) (hs : s.size ≤ 340) (ha : actE A = 0) : writeA A n s = { actA A with waits := (actA A).waits ++ [(n.toNat, s)] } := by
  have : ¬ 340 < s.size := by omega
  simp [writeA, hn, ha, this, actA_waits]

theorem Bytes.turn {S : Nat → Prop} {w w' : World} {v : Value} {s : ByteArray} (h : Bytes w v s) (ht : Turn S w w') (hS : 0 < s.size → ∀ k, v.ownBlock = some k → ¬ S k) : Bytes w' v s := by
  obtain ⟨p, c, rfl, h1, h2, h3⟩ := h
  refine ⟨p, c, rfl, h1, h2, fun h0 => ?_⟩
  obtain ⟨b, o, rfl, hb, hc⟩ := h3 h0
  refine ⟨b, o, rfl, Nat.lt_of_lt_of_le hb ht.size, fun i hi => ?_⟩
  rw [World.cell?_of_block (w := w) (a := ⟨b, o + i, none⟩) (ht.block b hb (hS h0 b rfl))]
  exact hc i hi

end Go.Proofs.Ytmchbciofdokfaa
