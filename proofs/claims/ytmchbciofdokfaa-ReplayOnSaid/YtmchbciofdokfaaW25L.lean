/- Restart: how its memory stands while single cells turn. -/
import Derived.Test.YtmchbciofdokfaaW25
namespace Go.Proofs.Ytmchbciofdokfaa
open Go.RowKit
set_option linter.unusedSimpArgs false
set_option linter.unusedVariables false

/-- A boxed record of its own turns. -/
theorem RestAt.aside {w0 w w' : World} {wb tb ob : Nat} {S : WSh} {W : PW} {tv ov : Value} {T : List Opn} {O : List Rec} (h : RestAt w0 w wb tb ob S W tv ov T O) {k : Nat} {c : Array Value} (ht : Turn (· = k) w w') (hk : w0.heap.size ≤ k) (hb : w.heap[k]? = some (.cells c 36 (0, 0))) (h1 : S.rv.ownBlock ≠ some k) (h2 : ov.ownBlock ≠ some k) : RestAt w0 w' wb tb ob S W tv ov T O := by
  have ap : Apart (· = k) w := fun j c fr hj e => by
    rw [hj] at e
    exact absurd (kind_cells e hb).2 (by decide)
  obtain ⟨xs, o1, o2⟩ := h.orow
  refine ⟨h.at_.besides ht (fun j hj => ?_), block_turn h.tcell ht (fun e => typed_ne h.tcell hb (by decide) e), own_turn h.trow ht (fun j hj e => ?_), h.tnew, block_turn h.ocell ht (fun e => typed_ne h.ocell hb (by decide) e), ⟨xs, own_turn o1 ht (fun j hj e => h2 (e ▸ hj)), o2.imp fun r b a u q => q.turn ht ap⟩, h.onew, h.tb0, h.ob0⟩
  · rw [hj]
    exact ⟨hk, h1, c, 36, (0, 0), hb, by decide⟩
  · obtain ⟨c', hc, _⟩ := own_cells h.trow hj
    exact typed_ne hc hb (by decide) e
theorem opnVals_set {T : List Opn} {m : Nat} (hm : m < T.length) (n : Int) : opnVals (T.set m ⟨T[m].unit, n, T[m].ready⟩) = (opnVals T).set (m * 3 + 1) (.int .i64 n) := by
  induction T generalizing m with
  | nil => simp at hm
  | cons a T ih =>
    cases m with
    | zero => simp [opnVals]
    | succ m =>
      have := ih (m := m) (by simpa using hm)
      have e : (m + 1) * 3 + 1 = (m * 3 + 1) + 3 := by omega
      simp only [opnVals, List.set_cons_succ, List.flatMap_cons, List.getElem_cons_succ] at *
      rw [this, e]
      rfl
theorem own_set {w : World} {e : TypeId} {sz g n cap t : Nat} {xs : List Value} {v : Value} (h : w.ownsRow 0 e sz (.slice (some ⟨g, 0, none⟩) n cap) n xs) (ht : t < xs.length) : (w.setCell ⟨g, t, none⟩ v).ownsRow 0 e sz (.slice (some ⟨g, 0, none⟩) n cap) n (xs.set t v) := by
  have hl := h.1
  rcases h.2 with ⟨h0, _⟩ | ⟨g', cap', cur, h1, h0, h2, h3, h4, h5, h6⟩
  · cases h0
  · injection h1 with h1 _ h7
    injection h1 with h1
    injection h1 with h1
    subst h1 h7
    have hs := heap_setCell_same w g t _ e v h2
    refine ⟨by rw [List.length_set]; exact hl, .inr ⟨g, cap, _, rfl, Nat.zero_le _, hs, h3, h4, by simpa using h5, ?_⟩⟩
    rw [← h6]
    simp only [Array.toList_setIfInBounds, Array.set!_eq_setIfInBounds]
    rw [List.take_set]
/-- The next change of a unit that is left to end. -/
theorem RestAt.setNext {w0 w : World} {wb tb ob g cap m : Nat} {S : WSh} {W : PW} {ov : Value} {T : List Opn} {O : List Rec} (h : RestAt w0 w wb tb ob S W (.slice (some ⟨g, 0, none⟩) T.length cap) ov T O) (hm : m < T.length) (n : Int) :
    RestAt w0 (w.setCell ⟨g, m * 3 + 1, none⟩ (.int .i64 n)) wb tb ob S W (.slice (some ⟨g, 0, none⟩) T.length cap) ov (T.set m ⟨T[m].unit, n, T[m].ready⟩) O := by
  obtain ⟨c, hc, _⟩ := own_cells h.trow (k := g) rfl
  have ht := turn_cell w g (m * 3 + 1) (.int .i64 n)
  have ap : Apart (· = g) w := fun j c fr hj e => by
    rw [hj] at e
    exact absurd (kind_cells e hc).2 (by decide)
  obtain ⟨xs, o1, o2⟩ := h.orow
  refine ⟨h.at_.besides ht (fun j hj => ?_), block_turn h.tcell ht (fun e => typed_ne h.tcell hc (by decide) e), ?_, h.tnew, block_turn h.ocell ht (fun e => typed_ne h.ocell hc (by decide) e), ⟨xs, own_turn o1 ht (fun j hj e => ?_), o2.imp fun r b a u q => q.turn ht ap⟩, h.onew, h.tb0, h.ob0⟩
  · rw [hj]
    refine ⟨h.tnew g rfl, fun e => ?_, c, 47, (0, 0), hc, by decide⟩
    obtain ⟨xs', r1, _⟩ := h.at_.recs
    obtain ⟨c', hc', _⟩ := own_cells r1 e
    exact typed_ne hc' hc (by decide) rfl
  · rw [List.length_set, opnVals_set hm]
    exact own_set h.trow (by rw [opnVals_len]; omega)
  · obtain ⟨c', hc', _⟩ := own_cells o1 hj
    exact typed_ne hc' hc (by decide) e
theorem step_len {l : List Rec} {s t : Todo} {r : Rec} (h : Step l s r t) : t.open_.length ≤ s.open_.length := by
  cases h <;> simp
theorem steps_len {l : List Rec} {s t : Todo} {O : List Rec} (h : Steps l s O t) : t.open_.length ≤ s.open_.length := by
  induction h with
  | nil => exact Nat.le_refl _
  | snoc _ k ih => exact Nat.le_trans (step_len k) ih
theorem step_sub {l : List Rec} {s t : Todo} {r : Rec} (h : Step l s r t) : ∀ n, ∀ k ∈ t.left n, k ∈ s.left n := by
  cases h with
  | over => exact fun n k hk => hk
  | undo =>
    intro n k hk
    simp only [popL] at hk
    split at hk
    · exact (List.dropLast_sublist _).subset hk
    · exact hk
theorem steps_sub {l : List Rec} {s t : Todo} {O : List Rec} (h : Steps l s O t) : ∀ n, ∀ k ∈ t.left n, k ∈ s.left n := by
  induction h with
  | nil => exact fun n k hk => hk
  | snoc _ k ih => exact fun n j hj => ih n j (step_sub k n j hj)
theorem left_before {l : List Rec} {W : PW} (G : Good l W) {n : Int} {k : Nat} (h : k ∈ (W.unit n).left) : (recN l k).before.size ≤ 128 := by
  obtain ⟨_, _, h3, _, h5⟩ := G.left n k h
  have hb : (recN l k).before.size = (recN l k).after.size := by
    have h := h5
    unfold validB at h
    simp only [h3] at h
    simp at h
    exact h.2.1.1.1.2
  obtain ⟨_, _, _, _, _, hp⟩ := place_bounds (valid_place h5 (by rw [lays, h3]; rfl))
  omega
/-- Ten stores into a boxed record. -/
theorem ten_sets {w : World} {k : Nat} {zs : Array Value} (hz : w.heap[k]? = some (.cells zs 36 (0, 0))) (h10 : zs.size = 10) (v0 v1 v2 v3 v4 v5 v6 v7 v8 v9 : Value) :
    ((((((((((w.setCell ⟨k, 0, none⟩ v0).setCell ⟨k, 1, none⟩ v1).setCell ⟨k, 2, none⟩ v2).setCell ⟨k, 3, none⟩ v3).setCell ⟨k, 4, none⟩ v4).setCell ⟨k, 5, none⟩ v5).setCell ⟨k, 6, none⟩ v6).setCell ⟨k, 7, none⟩ v7).setCell ⟨k, 8, none⟩ v8).setCell ⟨k, 9, none⟩ v9).heap[k]? = some (.cells #[v0, v1, v2, v3, v4, v5, v6, v7, v8, v9] 36 (0, 0)) ∧
    Turn (· = k) w ((((((((((w.setCell ⟨k, 0, none⟩ v0).setCell ⟨k, 1, none⟩ v1).setCell ⟨k, 2, none⟩ v2).setCell ⟨k, 3, none⟩ v3).setCell ⟨k, 4, none⟩ v4).setCell ⟨k, 5, none⟩ v5).setCell ⟨k, 6, none⟩ v6).setCell ⟨k, 7, none⟩ v7).setCell ⟨k, 8, none⟩ v8).setCell ⟨k, 9, none⟩ v9) := by
  obtain ⟨ls⟩ := zs
  have h10 : ls.length = 10 := h10
  match ls, h10 with
  | [a0, a1, a2, a3, a4, a5, a6, a7, a8, a9], _ =>
    have e0 : (w.setCell ⟨k, 0, none⟩ v0).heap[k]? = some (.cells #[v0, a1, a2, a3, a4, a5, a6, a7, a8, a9] 36 (0, 0)) := heap_setCell_same w k 0 _ 36 v0 hz
    have e1 : ((w.setCell ⟨k, 0, none⟩ v0).setCell ⟨k, 1, none⟩ v1).heap[k]? = some (.cells #[v0, v1, a2, a3, a4, a5, a6, a7, a8, a9] 36 (0, 0)) := heap_setCell_same (w.setCell ⟨k, 0, none⟩ v0) k 1 _ 36 v1 e0
    have e2 : (((w.setCell ⟨k, 0, none⟩ v0).setCell ⟨k, 1, none⟩ v1).setCell ⟨k, 2, none⟩ v2).heap[k]? = some (.cells #[v0, v1, v2, a3, a4, a5, a6, a7, a8, a9] 36 (0, 0)) := heap_setCell_same ((w.setCell ⟨k, 0, none⟩ v0).setCell ⟨k, 1, none⟩ v1) k 2 _ 36 v2 e1
    have e3 : ((((w.setCell ⟨k, 0, none⟩ v0).setCell ⟨k, 1, none⟩ v1).setCell ⟨k, 2, none⟩ v2).setCell ⟨k, 3, none⟩ v3).heap[k]? = some (.cells #[v0, v1, v2, v3, a4, a5, a6, a7, a8, a9] 36 (0, 0)) := heap_setCell_same (((w.setCell ⟨k, 0, none⟩ v0).setCell ⟨k, 1, none⟩ v1).setCell ⟨k, 2, none⟩ v2) k 3 _ 36 v3 e2
    have e4 : (((((w.setCell ⟨k, 0, none⟩ v0).setCell ⟨k, 1, none⟩ v1).setCell ⟨k, 2, none⟩ v2).setCell ⟨k, 3, none⟩ v3).setCell ⟨k, 4, none⟩ v4).heap[k]? = some (.cells #[v0, v1, v2, v3, v4, a5, a6, a7, a8, a9] 36 (0, 0)) := heap_setCell_same ((((w.setCell ⟨k, 0, none⟩ v0).setCell ⟨k, 1, none⟩ v1).setCell ⟨k, 2, none⟩ v2).setCell ⟨k, 3, none⟩ v3) k 4 _ 36 v4 e3
    have e5 : ((((((w.setCell ⟨k, 0, none⟩ v0).setCell ⟨k, 1, none⟩ v1).setCell ⟨k, 2, none⟩ v2).setCell ⟨k, 3, none⟩ v3).setCell ⟨k, 4, none⟩ v4).setCell ⟨k, 5, none⟩ v5).heap[k]? = some (.cells #[v0, v1, v2, v3, v4, v5, a6, a7, a8, a9] 36 (0, 0)) := heap_setCell_same (((((w.setCell ⟨k, 0, none⟩ v0).setCell ⟨k, 1, none⟩ v1).setCell ⟨k, 2, none⟩ v2).setCell ⟨k, 3, none⟩ v3).setCell ⟨k, 4, none⟩ v4) k 5 _ 36 v5 e4
    have e6 : (((((((w.setCell ⟨k, 0, none⟩ v0).setCell ⟨k, 1, none⟩ v1).setCell ⟨k, 2, none⟩ v2).setCell ⟨k, 3, none⟩ v3).setCell ⟨k, 4, none⟩ v4).setCell ⟨k, 5, none⟩ v5).setCell ⟨k, 6, none⟩ v6).heap[k]? = some (.cells #[v0, v1, v2, v3, v4, v5, v6, a7, a8, a9] 36 (0, 0)) := heap_setCell_same ((((((w.setCell ⟨k, 0, none⟩ v0).setCell ⟨k, 1, none⟩ v1).setCell ⟨k, 2, none⟩ v2).setCell ⟨k, 3, none⟩ v3).setCell ⟨k, 4, none⟩ v4).setCell ⟨k, 5, none⟩ v5) k 6 _ 36 v6 e5
    have e7 : ((((((((w.setCell ⟨k, 0, none⟩ v0).setCell ⟨k, 1, none⟩ v1).setCell ⟨k, 2, none⟩ v2).setCell ⟨k, 3, none⟩ v3).setCell ⟨k, 4, none⟩ v4).setCell ⟨k, 5, none⟩ v5).setCell ⟨k, 6, none⟩ v6).setCell ⟨k, 7, none⟩ v7).heap[k]? = some (.cells #[v0, v1, v2, v3, v4, v5, v6, v7, a8, a9] 36 (0, 0)) := heap_setCell_same (((((((w.setCell ⟨k, 0, none⟩ v0).setCell ⟨k, 1, none⟩ v1).setCell ⟨k, 2, none⟩ v2).setCell ⟨k, 3, none⟩ v3).setCell ⟨k, 4, none⟩ v4).setCell ⟨k, 5, none⟩ v5).setCell ⟨k, 6, none⟩ v6) k 7 _ 36 v7 e6
    have e8 : (((((((((w.setCell ⟨k, 0, none⟩ v0).setCell ⟨k, 1, none⟩ v1).setCell ⟨k, 2, none⟩ v2).setCell ⟨k, 3, none⟩ v3).setCell ⟨k, 4, none⟩ v4).setCell ⟨k, 5, none⟩ v5).setCell ⟨k, 6, none⟩ v6).setCell ⟨k, 7, none⟩ v7).setCell ⟨k, 8, none⟩ v8).heap[k]? = some (.cells #[v0, v1, v2, v3, v4, v5, v6, v7, v8, a9] 36 (0, 0)) := heap_setCell_same ((((((((w.setCell ⟨k, 0, none⟩ v0).setCell ⟨k, 1, none⟩ v1).setCell ⟨k, 2, none⟩ v2).setCell ⟨k, 3, none⟩ v3).setCell ⟨k, 4, none⟩ v4).setCell ⟨k, 5, none⟩ v5).setCell ⟨k, 6, none⟩ v6).setCell ⟨k, 7, none⟩ v7) k 8 _ 36 v8 e7
    have e9 : ((((((((((w.setCell ⟨k, 0, none⟩ v0).setCell ⟨k, 1, none⟩ v1).setCell ⟨k, 2, none⟩ v2).setCell ⟨k, 3, none⟩ v3).setCell ⟨k, 4, none⟩ v4).setCell ⟨k, 5, none⟩ v5).setCell ⟨k, 6, none⟩ v6).setCell ⟨k, 7, none⟩ v7).setCell ⟨k, 8, none⟩ v8).setCell ⟨k, 9, none⟩ v9).heap[k]? = some (.cells #[v0, v1, v2, v3, v4, v5, v6, v7, v8, v9] 36 (0, 0)) := heap_setCell_same (((((((((w.setCell ⟨k, 0, none⟩ v0).setCell ⟨k, 1, none⟩ v1).setCell ⟨k, 2, none⟩ v2).setCell ⟨k, 3, none⟩ v3).setCell ⟨k, 4, none⟩ v4).setCell ⟨k, 5, none⟩ v5).setCell ⟨k, 6, none⟩ v6).setCell ⟨k, 7, none⟩ v7).setCell ⟨k, 8, none⟩ v8) k 9 _ 36 v9 e8
    refine ⟨e9, ?_⟩
    exact (((((((((turn_cell w k 0 v0).trans (turn_cell _ k 1 v1)).trans (turn_cell _ k 2 v2)).trans (turn_cell _ k 3 v3)).trans (turn_cell _ k 4 v4)).trans (turn_cell _ k 5 v5)).trans (turn_cell _ k 6 v6)).trans (turn_cell _ k 7 v7)).trans (turn_cell _ k 8 v8)).trans (turn_cell _ k 9 v9)
end Go.Proofs.Ytmchbciofdokfaa
