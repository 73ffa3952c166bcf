/- A script of acts that came in, with the bounds of its numbers. -/
import Derived.Test.YtbclgklpcbajfaaD23
namespace Go.Proofs.Ytbclgklpcbajfaa
open Go.RowKit Go.ChangeShapes Go.WideShapes
set_option linter.unusedVariables false

section
variable {H : Type} {enc : TypeId × Value → H} {w : World} {base : Nat} {held : Bool}

/-- A script of acts that came in. -/
theorem deeds_arg2 {fuel : Nat} {cs : List Value} {x : DataW H × List MemPlace} (h : DataW.trod enc Try.prog w base (fun _ => true) held fuel 29 cs = some x) : ∃ v l, cs = [v] ∧ Deeds w v l ∧ ∀ a ∈ l, a.n ≤ 2 ^ 63 - 1 := by
  rcases Deep.open_slice Try.underlying29 h with ⟨rfl, _⟩ | ⟨a, len, cap, m, n, D, Pl, rfl, _, hl, hm, hmm, _, hi⟩
  · exact ⟨_, [], rfl, ⟨none, 0, rfl, Nat.le_refl _, by decide, fun h => absurd h (by decide)⟩, fun a ha => by cases ha⟩
  · rw [cells37] at hi
    have hlm : len ≤ m := by rw [hmm]; split <;> omega
    have el : ∀ i, i < len → ∃ u : Deed, (a.add (i * 5)) = ⟨a.block, a.off + i * 5, none⟩ ∧ a.block < w.heap.size ∧ DeedAt w a.block (a.off + i * 5) u ∧ u.n ≤ 2 ^ 63 - 1 := by
      intro i hlt
      obtain ⟨cs', hc, ht⟩ := hi i (by omega)
      obtain ⟨_, hcl, hat⟩ := World.cells?_some hc
      match cs', hcl with
      | [c0, c1, c2, c3, c4], _ =>
        obtain ⟨_, _, f0⟩ := field_at Try.underlying37 ht 0 _ rfl cells3 c0 rfl
        obtain ⟨_, _, f1⟩ := field_at Try.underlying37 ht 1 _ rfl cells3 c1 rfl
        obtain ⟨_, _, f2⟩ := field_at Try.underlying37 ht 2 _ rfl cells3 c2 rfl
        obtain ⟨_, _, f3⟩ := field_at Try.underlying37 ht 3 _ rfl cells22 c3 rfl
        obtain ⟨_, _, f4⟩ := field_at Try.underlying37 ht 4 _ rfl cells30 c4 rfl
        obtain ⟨x0, e0, _⟩ := DataW.trod_int Try.underlying3 f0
        obtain ⟨x1, e1, _⟩ := DataW.trod_int Try.underlying3 f1
        obtain ⟨x2, e2, _, hwf⟩ := DataW.trod_int Try.underlying3 f2
        obtain ⟨v3, x3, e3, g3⟩ := bytes_arg f3
        obtain ⟨v4, x4, e4, g4⟩ := bools_arg f4
        simp only [List.cons.injEq, and_true] at e0 e1 e2 e3 e4
        subst e0 e1 e2 e3 e4
        have z0 := hat 0 (by omega)
        have z1 := hat 1 (by omega)
        have z2 := hat 2 (by omega)
        have z3 := hat 3 (by omega)
        have z4 := hat 4 (by omega)
        have ea : ((a.add (i * 5)).add 0) = a.add (i * 5) := by simp [Addr.add]
        rw [ea] at z0
        obtain ⟨e5, hb⟩ := add_plain z0
        rw [e5] at z0 z1 z2 z3 z4
        simp only [plain_add] at z1 z2 z3 z4
        have hx2 : x2 ≤ 2 ^ 63 - 1 := by
          simp [Lit.wf, IntKind.min, IntKind.max, IntKind.signed, IntKind.bits] at hwf
          omega
        exact ⟨⟨x0, x1, x2, x3, x4⟩, e5, hb, ⟨z0, z1, z2, ⟨_, z3, g3⟩, ⟨_, z4, g4⟩⟩, hx2⟩
    have ⟨g, hg⟩ : ∃ g : Nat → Deed, ∀ i, i < len → (a.add (i * 5)) = ⟨a.block, a.off + i * 5, none⟩ ∧ a.block < w.heap.size ∧ DeedAt w a.block (a.off + i * 5) (g i) ∧ (g i).n ≤ 2 ^ 63 - 1 :=
      ⟨fun i => if h : i < len then Classical.choose (el i h) else ⟨0, 0, 0, ByteArray.empty, []⟩, fun i h => by simp only [h, dif_pos]; exact Classical.choose_spec (el i h)⟩
    refine ⟨_, (List.range len).map g, rfl, ⟨some a, cap, by simp, by simpa using hl, hm, fun h0 => ?_⟩, fun u hu => ?_⟩
    rotate_left
    · simp only [List.mem_map, List.mem_range] at hu
      obtain ⟨i, hi, rfl⟩ := hu
      exact (hg i hi).2.2.2
    have h0 : 0 < len := by simpa using h0
    obtain ⟨e, hb, _⟩ := hg 0 h0
    have e0 : a.add (0 * 5) = a := by simp [Addr.add]
    rw [e0] at e
    refine ⟨a.block, a.off, by rw [e], hb, fun i hi => ?_⟩
    simp only [List.getElem_map, List.getElem_range]
    exact (hg i (by simpa using hi)).2.2.1
end

end Go.Proofs.Ytbclgklpcbajfaa
