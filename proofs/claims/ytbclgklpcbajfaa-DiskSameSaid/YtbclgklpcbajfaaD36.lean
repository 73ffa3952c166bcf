/- disk.Disk.Lose: the closure, slices.IndexFunc at []disk.write. -/
import Derived.Test.YtbclgklpcbajfaaD35
import Derived.Test.YtbclgklpcbajfaaD15
namespace Go.Proofs.Ytbclgklpcbajfaa
open Go.RowKit
set_option linter.unusedSimpArgs false
set_option linter.unusedVariables false

/-- Waiting writes with the values in which their bytes lie. -/
abbrev Zs := List ((Nat × ByteArray) × Value)
def encZ (Z : Zs) : List Value := Z.flatMap fun z => [.int .i64 (z.1.1 : Int), z.2]
theorem encZ_length (Z : Zs) : (encZ Z).length = Z.length * 2 := by
  induction Z with
  | nil => rfl
  | cons a l ih => simp only [encZ, List.flatMap_cons, List.length_append, List.length_cons, List.length_nil] at *; omega
theorem encZ_get (Z : Zs) (i : Nat) (h : i < Z.length) : (encZ Z)[i * 2]? = some (.int .i64 (Z[i].1.1 : Int)) ∧ (encZ Z)[i * 2 + 1]? = some Z[i].2 := by
  induction Z generalizing i with
  | nil => simp at h
  | cons a l ih =>
    cases i with
    | zero => simp [encZ]
    | succ i =>
      have := ih i (by simpa using h)
      have e : (i + 1) * 2 = i * 2 + 2 := by omega
      simp only [encZ, List.flatMap_cons, List.getElem_cons_succ] at *
      rw [e, show i * 2 + 2 + 1 = i * 2 + 1 + 2 by omega]
      simpa using this
theorem encZ_snoc (Z : Zs) (z : (Nat × ByteArray) × Value) : encZ (Z ++ [z]) = encZ Z ++ [.int .i64 (z.1.1 : Int), z.2] := by simp [encZ]
def ZsAt (w : World) (Z : Zs) : Prop := ∀ z ∈ Z, Content w z.2 z.1.2
theorem WaitCells.zs {w : World} {l : List (Nat × ByteArray)} {xs : List Value} (h : WaitCells w l xs) : ∃ Z : Zs, Z.map (·.1) = l ∧ xs = encZ Z ∧ ZsAt w Z := by
  obtain ⟨h0, h1⟩ := h
  induction l generalizing xs with
  | nil => exact ⟨[], rfl, List.eq_nil_of_length_eq_zero (by simpa using h0), fun z hz => by cases hz⟩
  | cons a l ih =>
    obtain ⟨x, xs, rfl⟩ : ∃ x r, xs = x :: r := by cases xs with | nil => simp at h0 | cons x r => exact ⟨x, r, rfl⟩
    obtain ⟨y, xs, rfl⟩ : ∃ x r, xs = x :: r := by cases xs with | nil => simp at h0; omega | cons x r => exact ⟨x, r, rfl⟩
    obtain ⟨Z, e1, e2, e3⟩ := ih (xs := xs) (by simp at h0 ⊢; omega) (fun i hi => by
      obtain ⟨a1, u, a2, a3⟩ := h1 (i + 1) (by simpa using hi)
      rw [show (i + 1) * 2 = i * 2 + 2 by omega] at a1
      rw [show (i + 1) * 2 + 1 = i * 2 + 1 + 2 by omega] at a2
      exact ⟨by simpa using a1, u, by simpa using a2, by simpa using a3⟩)
    obtain ⟨b1, u, b2, b3⟩ := h1 0 (by simp)
    simp at b1 b2 b3
    refine ⟨(a, u) :: Z, by simp [e1], ?_, ?_⟩
    · simp only [encZ, List.flatMap_cons, List.cons_append, List.nil_append, List.cons.injEq]
      exact ⟨b1, b2, e2⟩
    · intro z hz
      rcases List.mem_cons.1 hz with e | e
      · subst e; exact b3
      · exact e3 z e
theorem ZsAt.cells {w : World} {Z : Zs} (h : ZsAt w Z) : WaitCells w (Z.map (·.1)) (encZ Z) := by
  refine ⟨by rw [encZ_length]; simp, fun i hi => ?_⟩
  have hi' : i < Z.length := by simpa using hi
  obtain ⟨e1, e2⟩ := encZ_get Z i hi'
  exact ⟨by simpa using e1, _, e2, by simpa using h _ (List.getElem_mem hi')⟩
def othersZ (m : Nat) (Z : Zs) : Zs := Z.filter fun z => decide (z.1.1 ≠ m)
theorem othersZ_map (m : Nat) (Z : Zs) : (othersZ m Z).map (·.1) = others m (Z.map (·.1)) := by
  induction Z with
  | nil => rfl
  | cons a Z ih =>
    by_cases h : a.1.1 = m
    · have e1 : othersZ m (a :: Z) = othersZ m Z := by simp [othersZ, List.filter_cons, h]
      have e2 : others m ((a :: Z).map (·.1)) = others m (Z.map (·.1)) := by simp [others, List.filter_cons, h]
      rw [e1, e2, ih]
    · have e1 : othersZ m (a :: Z) = a :: othersZ m Z := by simp [othersZ, List.filter_cons, h]
      have e2 : others m ((a :: Z).map (·.1)) = a.1 :: others m (Z.map (·.1)) := by simp [others, List.filter_cons, h]
      rw [e1, e2, ← ih]; rfl
theorem othersZ_yes {m : Nat} {Z : Zs} {z : (Nat × ByteArray) × Value} (h : z.1.1 ≠ m) : othersZ m (Z ++ [z]) = othersZ m Z ++ [z] := by simp [othersZ, List.filter_append, h]
theorem othersZ_no {m : Nat} {Z : Zs} {z : (Nat × ByteArray) × Value} (h : z.1.1 = m) : othersZ m (Z ++ [z]) = othersZ m Z := by simp [othersZ, List.filter_append, h]
theorem othersZ_len (m : Nat) (Z : Zs) : (othersZ m Z).length ≤ Z.length := List.length_filter_le _ _
theorem othersZ_all {m : Nat} {Z : Zs} (h : ∀ z ∈ Z, z.1.1 ≠ m) : othersZ m Z = Z := List.filter_eq_self.2 fun z hz => decide_eq_true (h z hz)

theorem lose1_any (x m : Int) (p : Option Addr) (n c gb : Nat) (w : World) (hb : w.cell? ⟨gb, 0, none⟩ = some (.int .i64 m)) (hg : gb < w.heap.size) :
    Calls Try.prog 100 #[.agg #[.int .i64 x, .slice p n c], .pointer (some ⟨gb, 0, none⟩)] w fun e w' => e = .returned (.bool (decide (x = m))) ∧ New w w' := by
  go_enter Try.func100, Try.ntmps100
  go_wp2
  go_ret
  exact ⟨ret_bool rfl, (New.refl w).alloc _ _⟩

set_option maxHeartbeats 1000000 in
theorem idx_any (v : Value) (Z : Zs) (m gb : Nat) (w : World) (h : w.ownsRow 0 97 2 v Z.length (encZ Z)) (hz : ZsAt w Z) (hb : w.cell? ⟨gb, 0, none⟩ = some (.int .i64 (m : Int))) (hl : Z.length ≤ 1000000000) :
    Calls Try.prog 126 #[v, .func (.func 100) #[] #[.pointer (some ⟨gb, 0, none⟩)]] w fun e w' => New w w' ∧ ((e = .returned (.int .i64 (-1)) ∧ ∀ z ∈ Z, z.1.1 ≠ m) ∨ ∃ i : Nat, ∃ hi : i < Z.length, e = .returned (.int .i64 i) ∧ Z[i].1.1 = m ∧ ∀ k, (hk : k < i) → Z[k].1.1 ≠ m) := by
  have HO := hid h
  have HZ := hid hz
  have hgb : gb < w.heap.size := World.block_lt_of_cell? w _ hb
  obtain ⟨q, k, rfl⟩ : ∃ q k, v = .slice q Z.length k := by
    rcases h.2 with ⟨rfl, e⟩ | ⟨g, cap, cur, rfl, _⟩
    · exact ⟨_, _, by rw [e]⟩
    · exact ⟨_, _, rfl⟩
  clear h hz
  go_enter Try.func126, Try.ntmps126
  go_wp2
  go_loopw [5, 8] (fun _ i wr => ∃ j : Nat, j ≤ Z.length ∧ i = .int .i64 j ∧ New w wr ∧ Hid (∀ k, (hk : k < Z.length) → k < j → Z[k].1.1 ≠ m)) (fun _ i _ => Z.length - (intOf i).toNat)
  case atStart => exact ⟨0, Nat.zero_le _, rfl, New.refl _, hid fun k hk h => absurd h (Nat.not_lt_zero _)⟩
  case round =>
    obtain ⟨j, hj, rfl, hn, hall⟩ := hrel
    by_cases hlt : j < Z.length
    · have ho := own_old HO.out hn
      obtain ⟨g, cap, e, _, hg⟩ := ho.form (by omega)
      injection e with e1 e8 e9
      subst e1
      clear e8 e9
      obtain ⟨x0, x1⟩ := encZ_get Z j hlt
      have d0 := ho.cellAt (j * 2) (by omega)
      have d1 := ho.cellAt (j * 2 + 1) (by omega)
      rw [x0] at d0
      rw [x1] at d1
      have hb' := hb
      rw [← hn.cell _ _ hgb] at hb'
      have hgb' : gb < wr.heap.size := Nat.lt_of_lt_of_le hgb hn.size
      obtain ⟨⟨p2, c2, e2, _⟩, _⟩ := HZ.out Z[j] (List.getElem_mem hlt)
      rw [e2] at d1
      have HALL : Hid (Z[j].1.1 ≠ m → ∀ k, (hk : k < Z.length) → k < j + 1 → Z[k].1.1 ≠ m) := fun h k hk hk2 => by
        rcases Nat.lt_or_ge k j with h' | h'
        · exact hall.out k hk h'
        · obtain rfl : k = j := by omega
          exact h
      have HFOUND : Hid (∀ k, (hk : k < j) → Z[k].1.1 ≠ m) := fun k hk => hall.out k (by omega) hk
      have HLT := hid hlt
      clear ho x0 x1 e2 hall
      by_cases e3 : Z[j].1.1 = m
      · have HEQ := hid e3
        have t3 : decide ((Z[j].1.1 : Int) = (m : Int)) = true := by simp [e3]
        clear e3
        generalize hx : Z[j].1.1 = x at *
        have HX := hid hx
        clear hx
        go_wp2_with fail
        refine (lose1_any _ _ _ _ _ gb _ hb' hgb').mono ?_
        rintro e w2 ⟨rfl, hn2⟩
        rw [t3]
        go_wp2
        go_ret
        exact ⟨hn.trans hn2, .inr ⟨j, HLT.out, rfl, HX.out.trans HEQ.out, HFOUND.out⟩⟩
      · have HNE := hid e3
        have t3 : decide ((Z[j].1.1 : Int) = (m : Int)) = false := by simp; omega
        clear e3
        generalize hx : Z[j].1.1 = x at *
        clear hx
        go_wp2_with fail
        refine (lose1_any _ _ _ _ _ gb _ hb' hgb').mono ?_
        rintro e w2 ⟨rfl, hn2⟩
        rw [t3]
        go_wp2
        go_roundw
        case rel => exact ⟨j + 1, by omega, by go_num, hn.trans hn2, hid (HALL.out HNE.out)⟩
        case measure => simp [intOf]; omega
    · obtain rfl : j = Z.length := by omega
      go_wp2
      go_ret
      exact ⟨hn, .inl ⟨rfl, fun z hz => by
        obtain ⟨i, hi, rfl⟩ := List.mem_iff_getElem.1 hz
        exact hall.out i hi hi⟩⟩

end Go.Proofs.Ytbclgklpcbajfaa
