/- What tape.Encode returns at a mark, and at each record (printed by enc6.py). -/
import Derived.Test.YtdccbceaajnajaaA11
import Derived.Test.YtdccbceaajnajaaT13
namespace Go.Proofs.Ytdccbceaajnajaa
open Go.RowKit
set_option linter.unusedSimpArgs false
set_option linter.unusedVariables false

theorem valid_bounds_6 {r : Rec} (hk : r.kind = 6) (hv : validB r = true) : 0 ≤ r.unit ∧ r.unit ≤ 1000000 ∧ openB r.units = true := by
  have hu := (valid_kinds hv).2
  refine ⟨hu.1, hu.2, ?_⟩
  have hv := hv
  simp only [validB, hk] at hv
  simp at hv
  simp_all
theorem own_ne5 {w : World} {base : Nat} {v : Value} {n : Nat} {xs : List Value} (h : w.ownsRow base 5 1 v n xs) {k : Nat} {c : Array Value} {t : TypeId} {fr : Nat × Nat} (hk : w.heap[k]? = some (.cells c t fr)) (ht : t ≠ 5) : v.ownBlock ≠ some k := by
  rcases h.2 with ⟨rfl, rfl⟩ | ⟨g, cap, cur, rfl, hg, hh, r⟩
  · simp [Value.ownBlock]
  · intro e
    simp only [Value.ownBlock, Option.some.injEq] at e
    subst e
    rw [hh] at hk
    injection hk with e1
    injection e1 with e2 e3 e4
    exact ht e3.symm
theorem cells_of {w : World} {k : Nat} {c : Array Value} {t : TypeId} {f : Nat × Nat} (h : w.heap[k]? = some (.cells c t f)) : ∀ o, w.cell? ⟨k, o, none⟩ = c[o]? := by
  intro o
  simp only [World.cell?, h]; rfl
theorem opns_length {l : List Opn} (h : ∀ u ∈ l, 0 ≤ u.unit ∧ u.unit ≤ 1000000 ∧ 0 ≤ u.next ∧ u.next ≤ 1000000 ∧ u.ready.size ≤ 30) (k : Nat) : ((l.take k).flatMap opnB).length ≤ 39 * (l.take k).length := by
  have : ∀ m : List Opn, (∀ u ∈ m, u.ready.size ≤ 30) → (m.flatMap opnB).length ≤ 39 * m.length := by
    intro m
    induction m with
    | nil => intro _; simp
    | cons a m ih =>
      intro hm
      have h1 := hm a (by simp)
      have h2 := ih (fun u hu => hm u (by simp [hu]))
      have h3 : (opnB a).length ≤ 39 := by simp [opnB, textB, numB_length, data_length]; omega
      simp only [List.flatMap_cons, List.length_append, List.length_cons]
      omega
  exact this _ (fun u hu => (h u (List.mem_of_mem_take hu)).2.2.2.2)
/-- What is returned where no block is made. -/
def NoBlock (w : World) (e : Ending) (w' : World) : Prop := e = .returned (.tuple #[.slice none 0 0, .int .i64 2]) ∧ New w w'
end Go.Proofs.Ytdccbceaajnajaa
