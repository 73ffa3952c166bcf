/- DiskArms in plain words; the cells of one act. -/
import Derived.Test.YtbclgklpcbajfaaD24
import Derived.Test.YtbclgklpcbajfaaD22
namespace Go.Proofs.Ytbclgklpcbajfaa
open Go.RowKit
set_option linter.unusedSimpArgs false
set_option linter.unusedVariables false

/-- The cells of one act, in every later world. -/
structure ActCells (w wr : World) (b o : Nat) (a : Deed) (sp kp : Option Addr) (sc kc : Nat) : Prop where
  c0 : wr.cell? ⟨b, o, none⟩ = some (.int .i64 a.kind)
  c1 : wr.cell? ⟨b, o + 1, none⟩ = some (.int .i64 a.block)
  c2 : wr.cell? ⟨b, o + 2, none⟩ = some (.int .i64 a.n)
  c3 : wr.cell? ⟨b, o + 3, none⟩ = some (.slice sp a.bytes.size sc)
  c4 : wr.cell? ⟨b, o + 4, none⟩ = some (.slice kp a.keep.length kc)
  s : Bytes wr (.slice sp a.bytes.size sc) a.bytes
  k : Bools wr (.slice kp a.keep.length kc) a.keep
  sold : 0 < a.bytes.size → ∀ k, (Value.slice sp a.bytes.size sc).ownBlock = some k → k < w.heap.size
  kold : 0 < a.keep.length → ∀ k, (Value.slice kp a.keep.length kc).ownBlock = some k → k < w.heap.size
  sb : a.bytes.size ≤ sc ∧ sc ≤ 2 ^ 63 - 1
  kb : a.keep.length ≤ kc ∧ kc ≤ 2 ^ 63 - 1
theorem Deeds.at {w : World} {p : Option Addr} {c n : Nat} {l : List Deed} (h : Deeds w (.slice p n c) l) {j : Nat} (hj : j < l.length) :
    ∃ b o, p = some ⟨b, o, none⟩ ∧ b < w.heap.size ∧ ∃ sp sc kp kc, ∀ wr, New w wr → ActCells w wr b (o + j * 5) l[j] sp kp sc kc := by
  obtain ⟨p', c', e, _, _, h3⟩ := h
  injection e with e1 e2 e3
  subst e1
  obtain ⟨b, o, rfl, hb, hc⟩ := h3 (by omega)
  obtain ⟨d0, d1, d2, ⟨u, d3, hs⟩, v, d4, hv⟩ := hc j hj
  obtain ⟨sp, sc, rfl, s1, s2, _⟩ := id hs
  obtain ⟨kp, kc, rfl, k1, k2, _⟩ := id hv
  unfold maxLen at s2 k2
  exact ⟨b, o, rfl, hb, sp, sc, kp, kc, fun wr hn => ⟨by rw [hn.cell _ _ hb]; exact d0, by rw [hn.cell _ _ hb]; exact d1, by rw [hn.cell _ _ hb]; exact d2, by rw [hn.cell _ _ hb]; exact d3, by rw [hn.cell _ _ hb]; exact d4,
    RowAt.new hs hn, RowAt.new hv hn, hs.old, hv.old, ⟨s1, s2⟩, ⟨k1, k2⟩⟩⟩

/-- A disk that is armed with m, behind d acts. -/
structure Armed (A : ADisk) (i m d : Nat) : Prop where
  down : A.down = false
  lt : d < m
  armed : A.armed = (m : Int) - d
  falls : A.falls = 0
  acts : A.acts = d
  di : d ≤ i
  waits : A.waits.length ≤ i
theorem armed_new (m : Nat) (hm : 0 < m) : Armed { newA with armed := max (m : Int) 0 } 0 m 0 := ⟨rfl, hm, by simp only; omega, rfl, rfl, Nat.le_refl _, Nat.le_refl _⟩
/-- What an act may do. -/
inductive Out (A : ADisk) (i m d : Nat) : Int → ADisk → Prop
  | bad : Out A i m d 2 A
  | fall : d + 1 = m → Out A i m d 7 { A with armed := 0, down := true, falls := A.falls + 1 }
  | ok (A' : ADisk) : Armed A' (i + 1) m (d + 1) → Out A i m d 0 A'
theorem Armed.write {A : ADisk} {i m d : Nat} (h : Armed A i m d) (n : Int) (s : ByteArray) : Out A i m d (writeE A n s) (writeA A n s) := by
  obtain ⟨h1, h2, h3, h4, h5, h7, h6⟩ := h
  by_cases hb : (!isB n || decide (340 < s.size)) = true
  · have e1 : writeE A n s = 2 := by simp only [writeE, if_pos hb]
    have e2 : writeA A n s = A := by simp only [writeA, if_pos hb]
    rw [e1, e2]; exact .bad
  · by_cases ha : A.armed = 1
    · have e0 : actE A = 7 := by simp [actE, h1, ha]
      have e1 : writeE A n s = 7 := by simp only [writeE, if_neg hb, e0]
      have e2 : writeA A n s = { A with armed := 0, down := true, falls := A.falls + 1 } := by
        simp only [writeA, if_neg hb, e0]
        simp [actA, h1, ha]
      rw [e1, e2]
      exact .fall (by omega)
    · have e0 : actE A = 0 := by simp [actE, h1, ha]
      have e1 : writeE A n s = 0 := by simp only [writeE, if_neg hb, e0]
      have e2 : writeA A n s = { A with armed := max (A.armed - 1) 0, acts := A.acts + 1, waits := A.waits ++ [(n.toNat, s)] } := by
        simp only [writeA, if_neg hb, e0, if_true]
        simp [actA, h1, ha]
      rw [e1, e2]
      exact .ok _ ⟨h1, by omega, by simp only; omega, h4, by simp only; omega, by omega, by simp only [List.length_append, List.length_cons, List.length_nil]; omega⟩
theorem Armed.flush {A : ADisk} {i m d : Nat} (h : Armed A i m d) : Out A i m d (actE A) (flushA A) := by
  obtain ⟨h1, h2, h3, h4, h5, h7, h6⟩ := h
  by_cases ha : A.armed = 1
  · have e0 : actE A = 7 := by simp [actE, h1, ha]
    have e2 : flushA A = { A with armed := 0, down := true, falls := A.falls + 1 } := by
      simp only [flushA, e0]
      simp [actA, h1, ha]
    rw [e0, e2]
    exact .fall (by omega)
  · have e0 : actE A = 0 := by simp [actE, h1, ha]
    have e2 : flushA A = { A with armed := max (A.armed - 1) 0, acts := A.acts + 1, waits := [], safe := layAll A.waits A.safe } := by
      simp only [flushA, e0, if_true]
      simp [actA, h1, ha]
    rw [e0, e2]
    exact .ok _ ⟨h1, by omega, by simp only; omega, h4, by simp only; omega, by omega, Nat.zero_le _⟩
theorem same_refl (A : ADisk) : SameD A A := ⟨rfl, fun _ _ => ⟨rfl, rfl⟩⟩
theorem same_fell (A : ADisk) (x y : Int) : SameD { A with armed := 0, down := false, falls := x } { A with down := false, armed := 0 } := ⟨rfl, fun _ _ => ⟨rfl, rfl⟩⟩

end Go.Proofs.Ytbclgklpcbajfaa
