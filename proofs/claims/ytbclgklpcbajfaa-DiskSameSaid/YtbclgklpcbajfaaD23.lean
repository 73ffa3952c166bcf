/- Arguments opened: a slice of booleans, a script of acts. -/
import Derived.Test.YtbclgklpcbajfaaA14
import Derived.Test.YtbclgklpcbajfaaD17
import Derived.Deep.Grids
namespace Go.Proofs.Ytbclgklpcbajfaa
open Go.RowKit Go.ChangeShapes Go.WideShapes
set_option linter.unusedVariables false

theorem cells4 : Try.prog.cellsOf 4 = 1 := by kernel_rfl
theorem cells30 : Try.prog.cellsOf 30 = 1 := by kernel_rfl
theorem cells37 : Try.prog.cellsOf 37 = 5 := by kernel_rfl

section
variable {H : Type} {enc : TypeId × Value → H} {w : World} {base : Nat} {held : Bool}

theorem add_plain {a : Addr} {k : Nat} {v : Value} (h : w.cell? (a.add k) = some v) : a.add k = ⟨a.block, a.off + k, none⟩ ∧ a.block < w.heap.size := by
  by_cases hk : k = 0
  · subst hk
    have e0 : a.add 0 = a := by simp [Addr.add]
    rw [e0] at h ⊢
    exact addr_plain h
  · have e0 : a.add k = ⟨a.block, a.off + k, none⟩ := by unfold Addr.add; rw [if_neg hk]
    rw [e0] at h ⊢
    exact ⟨rfl, (addr_plain h).2⟩

/-- A slice of booleans that came in. -/
theorem bools_arg {fuel : Nat} {cs : List Value} {x : DataW H × List MemPlace} (h : DataW.trod enc Try.prog w base (fun _ => true) held fuel 30 cs = some x) : ∃ v l, cs = [v] ∧ Bools w v l := by
  rcases Go.Deep.open_bools Try.underlying30 Try.underlying4 cells4 h with ⟨rfl, _⟩ | ⟨a, len, cap, B, rfl, _, hl, hm, _, hcell⟩
  · exact ⟨_, [], rfl, none, 0, rfl, Nat.le_refl _, by decide, fun h => absurd h (by decide)⟩
  · have hs : ((List.range len).map B).length = len := by simp
    refine ⟨_, (List.range len).map B, rfl, some a, cap, by rw [hs], by rw [hs]; exact hl, hm, fun h0 => ?_⟩
    rw [hs] at h0
    obtain ⟨e, hb⟩ := addr_plain (hcell 0 (by omega) : w.cell? (a.add 0) = _)
    have e0 : a.add 0 = a := by simp [Addr.add]
    rw [e0] at e hb
    refine ⟨a.block, a.off, by rw [← e], hb, fun i hi => ?_⟩
    rw [List.length_map, hs] at hi
    have hc := hcell i (by omega)
    rw [e, plain_add] at hc
    rw [hc]
    simp [List.getD_eq_getElem?_getD, hi]

/-- A script of acts that came in. -/
theorem deeds_arg {fuel : Nat} {cs : List Value} {x : DataW H × List MemPlace} (h : DataW.trod enc Try.prog w base (fun _ => true) held fuel 29 cs = some x) : ∃ v l, cs = [v] ∧ Deeds w v l := by
  rcases Deep.open_slice Try.underlying29 h with ⟨rfl, _⟩ | ⟨a, len, cap, m, n, D, Pl, rfl, _, hl, hm, hmm, _, hi⟩
  · exact ⟨_, [], rfl, none, 0, rfl, Nat.le_refl _, by decide, fun h => absurd h (by decide)⟩
  · rw [cells37] at hi
    have hlm : len ≤ m := by rw [hmm]; split <;> omega
    have el : ∀ i, i < len → ∃ u : Deed, (a.add (i * 5)) = ⟨a.block, a.off + i * 5, none⟩ ∧ a.block < w.heap.size ∧ DeedAt w a.block (a.off + i * 5) u := by
      intro i hlt
      obtain ⟨cs', hc, ht⟩ := hi i (by omega)
      obtain ⟨_, hcl, hat⟩ := World.cells?_some hc
      match cs', hcl with
      | [c0, c1, c2, c3, c4], _ =>
        obtain ⟨_, _, f0⟩ := field_at Try.underlying37 ht 0 _ rfl cells3 c0 rfl
        obtain ⟨_, _, f1⟩ := field_at Try.underlying37 ht 1 _ rfl cells3 c1 rfl
        obtain ⟨_, _, f2⟩ := field_at Try.underlying37 ht 2 _ rfl cells3 c2 rfl
        obtain ⟨_, _, f3⟩ := field_at Try.underlying37 ht 3 _ rfl cells22 c3 rfl
        obtain ⟨_, _, f4⟩ := field_at Try.underlying37 ht 4 _ rfl cells30 c4 rfl
        obtain ⟨x0, e0, _⟩ := DataW.trod_int Try.underlying3 f0
        obtain ⟨x1, e1, _⟩ := DataW.trod_int Try.underlying3 f1
        obtain ⟨x2, e2, _⟩ := DataW.trod_int Try.underlying3 f2
        obtain ⟨v3, x3, e3, g3⟩ := bytes_arg f3
        obtain ⟨v4, x4, e4, g4⟩ := bools_arg f4
        simp only [List.cons.injEq, and_true] at e0 e1 e2 e3 e4
        subst e0 e1 e2 e3 e4
        have z0 := hat 0 (by omega)
        have z1 := hat 1 (by omega)
        have z2 := hat 2 (by omega)
        have z3 := hat 3 (by omega)
        have z4 := hat 4 (by omega)
        have ea : ((a.add (i * 5)).add 0) = a.add (i * 5) := by simp [Addr.add]
        rw [ea] at z0
        obtain ⟨e5, hb⟩ := add_plain z0
        rw [e5] at z0 z1 z2 z3 z4
        simp only [plain_add] at z1 z2 z3 z4
        exact ⟨⟨x0, x1, x2, x3, x4⟩, e5, hb, ⟨z0, z1, z2, ⟨_, z3, g3⟩, ⟨_, z4, g4⟩⟩⟩
    have ⟨g, hg⟩ : ∃ g : Nat → Deed, ∀ i, i < len → (a.add (i * 5)) = ⟨a.block, a.off + i * 5, none⟩ ∧ a.block < w.heap.size ∧ DeedAt w a.block (a.off + i * 5) (g i) :=
      ⟨fun i => if h : i < len then Classical.choose (el i h) else ⟨0, 0, 0, ByteArray.empty, []⟩, fun i h => by simp only [h, dif_pos]; exact Classical.choose_spec (el i h)⟩
    refine ⟨_, (List.range len).map g, rfl, some a, cap, by simp, by simpa using hl, hm, fun h0 => ?_⟩
    have h0 : 0 < len := by simpa using h0
    obtain ⟨e, hb, _⟩ := hg 0 h0
    have e0 : a.add (0 * 5) = a := by simp [Addr.add]
    rw [e0] at e
    refine ⟨a.block, a.off, by rw [e], hb, fun i hi => ?_⟩
    simp only [List.getElem_map, List.getElem_range]
    exact (hg i (by simpa using hi)).2.2
end

end Go.Proofs.Ytbclgklpcbajfaa
