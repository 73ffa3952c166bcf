/- slices.Clone at []disk.write. -/
import Derived.Test.YtbclgklpcbajfaaD8
import Derived.Deep.Onto
namespace Go.Proofs.Ytbclgklpcbajfaa
open Go.RowKit
set_option linter.unusedSimpArgs false
set_option linter.unusedVariables false

set_option maxRecDepth 10000 in
/-- append(row, l...): a row of waiting writes, whole. -/
theorem app_waits {ops : Array Oper} {rest : List Oper} {o : Oper} {a : Act} {w : World} {Q : Exit → Act → World → Prop} (hgd : o.guard = none) (sl x : Operand)
    (ho : o.op = .call { callee := .builtin .append, args := #[sl, x], argTypes := #[67, 67] }) (base : Nat)
    (v : Value) (n : Nat) (xs : List Value) (hs : a.eval sl = v) (hown : w.ownsRow base 97 2 v n xs) (q : Addr) (m c : Nat) (news : List Value) (hx : a.eval x = .slice (some q) m c) (hl : news.length = m * 2)
    (hn : ∀ j u, news[j]? = some u → w.cell? (q.add j) = some u) (h1 : ∀ u ∈ news, u.oneCell' = true)
    (hb : n + m ≤ 1000000000) (hbase : base ≤ w.heap.size)
    (h : ∀ v' w', w'.ownsRow base 97 2 v' (n + m) (xs ++ news) → w.grownBy w' v.ownBlock → (v'.ownBlock = v.ownBlock ∨ v'.ownBlock = some w.heap.size) → wpList Try.prog ops Q rest (a.put o.dst v') w') : wpList Try.prog ops Q (o :: rest) a w := by
  obtain ⟨i0, hi, hz0, hz1, hz2⟩ := info_parts info97
  exact wpList_append_own_at w hgd sl x 67 ho base 97 i0 _ 2 32 Try.underlying67 hi hz0 hz1 hz2 rfl (by decide) v n xs hs hown q m c news hx hl hn h1 (by unfold maxLen; omega) (by omega) hbase fun v' w' h1 h2 _ h4 => h v' w' h1 h2 h4

/-- The waiting writes come back in new memory. -/
def WaitsBack (l : List (Nat × ByteArray)) (w : World) (e : Ending) (w' : World) : Prop := ∃ p c ow, e = .returned (.slice p l.length c) ∧ Waits w' (.slice p l.length c) ow l ∧ New w w' ∧ ∀ k, ow = some k → w.heap.size ≤ k

theorem WaitCells.one {w : World} {l : List (Nat × ByteArray)} {xs : List Value} (h : WaitCells w l xs) : ∀ u ∈ xs, u.oneCell' = true := by
  intro u hu
  obtain ⟨i, hi, rfl⟩ := List.mem_iff_getElem.1 hu
  have hl := h.1
  obtain ⟨e1, v, e2, e3⟩ := h.2 (i / 2) (by omega)
  rcases Nat.mod_two_eq_zero_or_one i with h0 | h0
  · rw [show i / 2 * 2 = i by omega, List.getElem?_eq_getElem hi] at e1
    injection e1 with e1
    rw [e1]; rfl
  · rw [show i / 2 * 2 + 1 = i by omega, List.getElem?_eq_getElem hi] at e2
    injection e2 with e2
    rw [e2]
    obtain ⟨⟨p, c, e, _⟩, _⟩ := e3
    rw [e]; rfl

set_option maxHeartbeats 800000 in
theorem cloneWaits_any (v : Value) (ow : Option Nat) (l : List (Nat × ByteArray)) (w : World) (h : Waits w v ow l) (hl : l.length ≤ 1000000000) : Calls Try.prog 66 #[v] w (WaitsBack l w) := by
  obtain ⟨xs, hx, hc⟩ := h.cells
  obtain ⟨p, c, rfl, _⟩ := waits_slice h
  cases p with
  | none =>
    have hz : l.length = 0 := by
      rcases Nat.eq_zero_or_pos l.length with h | h
      · exact h
      · obtain ⟨g, cap, e, _⟩ := hx.form h
        cases e
    have he : l = [] := List.eq_nil_of_length_eq_zero hz
    subst he
    have hq := fun (w : World) => Lib.run_eql_slice_nil (P := Try.prog) w 67 97 none 0 c 0 0 Try.underlying67
    clear h hx hc
    go_enter Try.func66, Try.ntmps66
    go_wp2
    go_ret
    exact ⟨none, 0, none, rfl, ⟨⟨[], ⟨rfl, .inl ⟨rfl, rfl⟩⟩, fun i h => absurd h (Nat.not_lt_zero _)⟩, rfl⟩, New.refl w, fun k hk => by cases hk⟩
  | some q =>
    obtain ⟨g0, rfl⟩ : ∃ g0, q = ⟨g0, 0, none⟩ := by
      rcases hx.2 with ⟨e, _⟩ | ⟨g, cap, cur, e, _⟩
      · cases e
      · injection e with e _ _; injection e with e; exact ⟨g, e⟩
    have hq := fun (w : World) => Lib.run_eql_slice_nil (P := Try.prog) w 67 97 (some ⟨g0, 0, none⟩) l.length c 0 0 Try.underlying67
    have HX := hid (own_old hx ((New.refl w).alloc #[] 97))
    have HC := hid hc
    have HL := hid hl
    clear h hx hc hl
    go_enter Try.func66, Try.ntmps66
    go_wp2_with (at_builtin; refine app_waits rfl _ _ rfl w.heap.size _ 0 [] rfl (World.ownsRow_lit w #[] 0 (Nat.le_refl _) (by decide) rfl) ⟨g0, 0, none⟩ l.length c xs rfl HC.out.1 ?c0 HC.out.one ?c1 ?c2 ?_)
    case c0 => exact HX.out.cells rfl
    case c1 => have := HL.out; omega
    case c2 => simp
    intro v' w' hown hg hblk
    obtain ⟨A, k, rfl⟩ : ∃ A k, v' = .slice A l.length k := by
      rcases hown.2 with ⟨rfl, e⟩ | ⟨g, cap, cur, rfl, _⟩
      · exact ⟨_, _, by rw [e]⟩
      · exact ⟨_, _, rfl⟩
    have hnew : New w w' := ((New.refl w).alloc #[] 97).grown hg (by simp) (by simp [Value.ownBlock])
    have HO := hid hown
    clear hown
    go_wp2
    go_ret
    exact ⟨A, k, _, rfl, ⟨⟨xs, (by simpa using HO.out.mono (Nat.zero_le _)), (HC.out.turn (Turn.of_new (S := fun _ => False) hnew) (apart_none w)).2⟩, rfl⟩, hnew, fun k hk => (HO.out.lt k hk).1⟩

end Go.Proofs.Ytbclgklpcbajfaa
