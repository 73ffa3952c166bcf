/- add: what an undone record leaves. -/
import Derived.Test.YtmchbciofdokfaaW16
namespace Go.Proofs.Ytmchbciofdokfaa
open Go.RowKit
open Go.ChangeMaps (setBlock)
set_option linter.unusedSimpArgs false
set_option linter.unusedVariables false

theorem ok_undone {W : PW} {r : Rec} (hv : validB r = true) (hk : r.kind = 2) (hu : r.unit ≠ 0) : Ok W r ↔ (W.unit r.unit).st ≤ 1 ∧ Undoes W r :=
  ⟨fun h => ⟨h.runs, h.undone hk⟩, fun h => ⟨hv, fun e => absurd e hu, h.1, fun _ => ⟨by omega, by omega⟩, fun e => by omega, fun _ => h.2, fun e => by omega, fun e => by omega⟩⟩
/-- The last of what is left of a unit, in memory. -/
theorem left_last {w : World} {v : Value} {z zl : Nat} {l : List Nat} (h : w.ownsRow 0 3 1 v z (natVals l)) (hl : l.length = z) (hz : z = zl + 1) :
    ∃ g cap, v = .slice (some ⟨g, 0, none⟩) z cap ∧ w.cell? ⟨g, zl, none⟩ = some (.int .i64 ((lastN l : Nat) : Int)) ∧ w.ownsRow 0 3 1 (.slice (some ⟨g, 0, none⟩) zl cap) zl (natVals l.dropLast) ∧ z ≤ cap ∧ cap ≤ maxLen := by
  subst hz
  have hne : l ≠ [] := fun e => by rw [e] at hl; simp at hl
  obtain ⟨m, a, rfl⟩ : ∃ m a, l = m ++ [a] := ⟨l.dropLast, l.getLast hne, (List.dropLast_concat_getLast hne).symm⟩
  have hm : m.length = zl := by simpa using hl
  have e2 : natVals (m ++ [a]) = natVals m ++ [.int .i64 (a : Int)] := by unfold natVals; rw [List.map_append]; rfl
  have hmv : (natVals m).length = zl := by unfold natVals; rw [List.length_map, hm]
  rw [e2] at h
  have h0 := h
  rcases h0.2 with ⟨_, e0⟩ | ⟨g, cap, cur, e0, _, hh, h1, h3, h4, h5⟩
  · omega
  · refine ⟨g, cap, e0, ?_, ?_, h1, h3⟩
    · rw [cells_of hh zl]
      have h6 : (cur.toList.take ((zl + 1) * 1))[zl]? = some (.int .i64 (a : Int)) := by
        rw [h5, List.getElem?_append_right (by omega), hmv]
        simp
      rw [List.getElem?_take, if_pos (by omega), Array.getElem?_toList] at h6
      rw [h6]
      unfold lastN
      simp
    · rw [e0] at h
      have := ownsRow_pop (n := zl) (by rw [hmv]; omega) h
      simpa using this
theorem next_undone {W : PW} {r : Rec} {U : AU} (hk : r.kind = 2) (hU : W.unit r.unit = U) : next W r = { laidW W r with unit := fun n => if n = r.unit then ⟨U.st, U.left.dropLast, U.text, true⟩ else (if n = r.unit then ⟨U.st, U.left.dropLast, U.text, U.seen⟩ else W.unit n), recs := W.recs ++ [r] } := by
  have hl : lays r = true := by rw [lays, hk]; rfl
  unfold next laidW
  simp only [hl, true_and, hk, show ¬ ((2 : Int) = 3) by decide, if_false]
  congr 1
  funext n
  by_cases h : n = r.unit
  · rw [if_pos h, if_pos h, h, hU]
    simp [touch, hk]
  · rw [if_neg h, if_neg h, if_neg h]
end Go.Proofs.Ytmchbciofdokfaa
