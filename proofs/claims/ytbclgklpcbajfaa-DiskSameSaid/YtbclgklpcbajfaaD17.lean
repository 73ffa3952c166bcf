/- The acts of a script in memory; few. -/
import Derived.Test.YtbclgklpcbajfaaD9
namespace Go.Proofs.Ytbclgklpcbajfaa
open Go.RowKit
set_option linter.unusedSimpArgs false
set_option linter.unusedVariables false

/-- One act of a script. -/
structure Deed where
  kind : Int
  block : Int
  n : Int
  bytes : ByteArray
  keep : List Bool
structure DeedAt (w : World) (b o : Nat) (a : Deed) : Prop where
  c0 : w.cell? ⟨b, o, none⟩ = some (.int .i64 a.kind)
  c1 : w.cell? ⟨b, o + 1, none⟩ = some (.int .i64 a.block)
  c2 : w.cell? ⟨b, o + 2, none⟩ = some (.int .i64 a.n)
  c3 : ∃ u, w.cell? ⟨b, o + 3, none⟩ = some u ∧ Bytes w u a.bytes
  c4 : ∃ u, w.cell? ⟨b, o + 4, none⟩ = some u ∧ Bools w u a.keep
theorem DeedAt.new {w w' : World} {b o : Nat} {a : Deed} (h : DeedAt w b o a) (hb : b < w.heap.size) (hn : New w w') : DeedAt w' b o a := by
  obtain ⟨h0, h1, h2, ⟨u, h3, h4⟩, v, h5, h6⟩ := h
  exact ⟨by rw [hn.cell b o hb]; exact h0, by rw [hn.cell b _ hb]; exact h1, by rw [hn.cell b _ hb]; exact h2, ⟨u, by rw [hn.cell b _ hb]; exact h3, RowAt.new h4 hn⟩, ⟨v, by rw [hn.cell b _ hb]; exact h5, RowAt.new h6 hn⟩⟩

/-- The acts of a script. -/
def Deeds (w : World) (v : Value) (l : List Deed) : Prop :=
  ∃ p c, v = .slice p l.length c ∧ l.length ≤ c ∧ c ≤ maxLen ∧ (0 < l.length → ∃ b o, p = some ⟨b, o, none⟩ ∧ b < w.heap.size ∧ ∀ i (h : i < l.length), DeedAt w b (o + i * 5) l[i])
theorem Deeds.new {w w' : World} {v : Value} {l : List Deed} (h : Deeds w v l) (hn : New w w') : Deeds w' v l := by
  obtain ⟨p, c, e, h1, h2, h3⟩ := h
  refine ⟨p, c, e, h1, h2, fun h0 => ?_⟩
  obtain ⟨b, o, e1, e2, e3⟩ := h3 h0
  exact ⟨b, o, e1, Nat.lt_of_lt_of_le e2 hn.size, fun i hi => (e3 i hi).new e2 hn⟩

/-- Is a script one of few acts, of few bytes? -/
def fewOne (a : Deed) : Bool := decide (a.bytes.size ≤ 400) && decide (a.keep.length ≤ 60)
def fewB (l : List Deed) : Bool := l.all fewOne && decide (l.length ≤ 40)
theorem fewB_no {l : List Deed} {k : Nat} (hk : k < l.length) (h : fewOne l[k] = false) : fewB l = false := by
  have : l.all fewOne = false := by
    rw [List.all_eq_false]
    exact ⟨l[k], List.getElem_mem hk, by simp [h]⟩
  simp [fewB, this]
theorem fewB_end {l : List Deed} (h : ∀ j (hj : j < l.length), fewOne l[j] = true) : fewB l = decide (l.length ≤ 40) := by
  have : l.all fewOne = true := by
    rw [List.all_eq_true]
    intro x hx
    obtain ⟨i, hi, rfl⟩ := List.mem_iff_getElem.1 hx
    exact h i hi
  simp [fewB, this]

set_option maxHeartbeats 1000000 in
theorem few_any (v : Value) (l : List Deed) (w : World) (h : Deeds w v l) : Calls Try.prog 19 #[v] w fun e w' => e = .returned (.bool (fewB l)) ∧ w = w' := by
  obtain ⟨gp, gc, rfl, g1, g2, g3⟩ := h
  unfold maxLen at g2
  have G3 := hid g3
  clear g3
  go_enter Try.func19, Try.ntmps19
  go_wp2
  go_loopw [3] (fun i wr => ∃ k : Nat, k ≤ l.length ∧ i = .int .i64 k ∧ w = wr ∧ Hid (∀ j (hj : j < l.length), j < k → fewOne l[j] = true)) (fun i _ => l.length - (intOf i).toNat)
  case atStart => exact ⟨0, Nat.zero_le _, rfl, rfl, hid fun j hj h => by omega⟩
  case round =>
    obtain ⟨k, hk, rfl, rfl, hall⟩ := hrel
    by_cases hlt : k < l.length
    · obtain ⟨b, o, rfl, hb, hc⟩ := G3.out (by omega)
      obtain ⟨_, _, _, ⟨u, c3, ⟨q, cu, rfl, s1, s2, _⟩⟩, v, c4, ⟨r, cv, rfl, l1, l2, _⟩⟩ := hc k hlt
      unfold maxLen at s2 l2
      have HNO : Hid (fewOne l[k] = false → fewB l = false) := fewB_no hlt
      have HGO : Hid (fewOne l[k] = true → ∃ k' : Nat, k' ≤ l.length ∧ Value.int .i64 ((k : Int) + 1) = .int .i64 k' ∧ True ∧ Hid (∀ j (hj : j < l.length), j < k' → fewOne l[j] = true)) := fun ho =>
        ⟨k + 1, by omega, by simp, trivial, fun j hj hj2 => by
          rcases Nat.lt_or_ge j k with h | h
          · exact hall.out j hj h
          · obtain rfl : j = k := by omega
            exact ho⟩
      clear hall hc
      generalize hx : l[k] = x at *
      clear hx
      by_cases e1 : x.bytes.size ≤ 400
      case neg =>
        have t1 : decide ((400 : Int) < (x.bytes.size : Int)) = true := by simp; omega
        have E1 := hid e1
        clear e1
        go_wp2
        go_ret
        exact ⟨ret_bool (HNO.out (by simp [fewOne, E1.out])).symm, rfl⟩
      have t1 : decide ((400 : Int) < (x.bytes.size : Int)) = false := by simp; omega
      have E1 := hid e1
      clear e1
      by_cases e2 : x.keep.length ≤ 60
      case neg =>
        go_wp2
        go_ret
        exact ⟨ret_bool (HNO.out (by simp [fewOne, e2])).symm, rfl⟩
      have E2 := hid e2
      go_wp2
      go_roundw
      case rel => exact HGO.out (by simp [fewOne, E1.out, E2.out])
      case measure => simp [intOf]; omega
    · obtain rfl : k = l.length := by omega
      have HE : Hid _ := fewB_end fun j hj => hall.out j hj hj
      go_wp2
      go_ret
      exact ⟨ret_bool (by rw [HE.out]; simp; omega), rfl⟩

end Go.Proofs.Ytbclgklpcbajfaa
