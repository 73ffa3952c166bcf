/- In plain words: what a loss of power leaves in a block is one of the texts that are possible. -/
import Derived.Test.YtbclgklpcbajfaaD20
namespace Go.Proofs.Ytbclgklpcbajfaa
open Go.RowKit
set_option linter.unusedSimpArgs false
set_option linter.unusedVariables false

def Whole (l : List (Nat × ByteArray)) (s : Nat → ByteArray) (m : Nat) (v : ByteArray) : Prop := v = s m ∨ ∃ p ∈ l, p.1 = m ∧ v = p.2
def May (l : List (Nat × ByteArray)) (s : Nat → ByteArray) (m k : Nat) (v : ByteArray) : Prop := Whole l s m v ∨ ∃ p ∈ l, p.1 = m ∧ k < p.2.size ∧ ∃ c, Whole l s m c ∧ v = mixed p.2 c k

theorem crashTo_whole (l : List (Nat × ByteArray)) (keep : List Bool) (k : Nat) (s : Nat → ByteArray) (m : Nat) : ∀ i, i < l.length → Whole l s m (crashTo l keep k s i m) := by
  intro i
  induction i with
  | zero => intro _; exact .inl rfl
  | succ i ih =>
    intro hi
    have h := ih (by omega)
    cases hk : keep.getD i false with
    | false => rw [crashTo_skip hk]; exact h
    | true =>
      rw [crashTo_keep (by omega) hk (by omega)]
      simp only [lay1]
      split
      · rename_i e
        exact .inr ⟨l[i], List.getElem_mem _, e.symm, rfl⟩
      · exact h
theorem crashTo_may (l : List (Nat × ByteArray)) (keep : List Bool) (k : Nat) (s : Nat → ByteArray) (m : Nat) : May l s m k (crashTo l keep k s l.length m) := by
  rcases Nat.eq_zero_or_pos l.length with h0 | h0
  · rw [h0]; exact .inl (.inl rfl)
  obtain ⟨i, hi⟩ : ∃ i, l.length = i + 1 := ⟨l.length - 1, by omega⟩
  have h := crashTo_whole l keep k s m i (by omega)
  rw [hi]
  cases hk : keep.getD i false with
  | false => rw [crashTo_skip hk]; exact .inl h
  | true =>
    rw [crashTo_last (by omega) hk hi.symm]
    have hm : l[i] ∈ l := List.getElem_mem _
    simp only [lay1]
    split
    · rename_i e
      rw [← e]
      unfold tornB
      split
      · exact .inl (.inr ⟨l[i], hm, e.symm, rfl⟩)
      · rename_i h2
        exact .inr ⟨l[i], hm, e.symm, by omega, _, h, rfl⟩
    · exact .inl h
theorem crashTo_none (l : List (Nat × ByteArray)) (k : Nat) (s : Nat → ByteArray) : ∀ i, crashTo l [] k s i = s := by
  intro i
  induction i with
  | zero => rfl
  | succ i ih => rw [crashTo_skip (by simp), ih]

/-- The disk A behind i acts of a script, of whose writes those with their number in ws were taken. -/
structure Torn (l : List Deed) (i : Nat) (A : ADisk) (ws : List Nat) : Prop where
  calm : Calm A (2 * i)
  ofs : ∀ p ∈ A.waits, ∃ j, ∃ h : j < l.length, j ∈ ws ∧ (l[j]).block.toNat = p.1 ∧ (l[j]).bytes = p.2
  ins : ∀ j ∈ ws, ∃ h : j < l.length, isB (l[j]).block = true ∧ (l[j]).bytes.size ≤ 340
  len : ws.length ≤ i
theorem torn_new (l : List Deed) : Torn l 0 newA [] := ⟨calm_new, fun p hp => (by cases hp), fun j hj => (by cases hj), Nat.le_refl _⟩
theorem Torn.skip {l : List Deed} {i : Nat} {A : ADisk} {ws : List Nat} (h : Torn l i A ws) : Torn l (i + 1) A ws := ⟨h.calm.mono (by omega), h.ofs, h.ins, by have := h.len; omega⟩
theorem Torn.write {l : List Deed} {i : Nat} {A : ADisk} {ws : List Nat} (h : Torn l i A ws) (hi : i < l.length) (hw : writeE A (l[i]).block (l[i]).bytes = 0) : Torn l (i + 1) (writeA A (l[i]).block (l[i]).bytes) (ws ++ [i]) := by
  obtain ⟨hm, hs⟩ := writeE_ok h.calm hw
  refine ⟨(h.calm.write hw).mono (by omega), ?_, ?_, by have := h.len; simp; omega⟩
  · rw [writeA_ok h.calm hm hs]
    intro p hp
    rcases List.mem_append.1 hp with h1 | h1
    · obtain ⟨j, hj, e1, e2⟩ := h.ofs p h1
      exact ⟨j, hj, List.mem_append.2 (.inl e1), e2⟩
    · simp at h1
      subst h1
      exact ⟨i, hi, by simp, rfl, rfl⟩
  · intro j hj
    rcases List.mem_append.1 hj with h1 | h1
    · exact h.ins j h1
    · simp at h1
      subst h1
      exact ⟨hi, hm, hs⟩
theorem Torn.flush {l : List Deed} {i : Nat} {A : ADisk} {ws : List Nat} (h : Torn l i A ws) (hi : i < l.length) (hw : writeE A (l[i]).block (l[i]).bytes = 0) : Torn l (i + 1) (flushA (writeA A (l[i]).block (l[i]).bytes)) (ws ++ [i]) := by
  have h1 := h.write hi hw
  refine ⟨((h.calm.write hw).flush).mono (by omega), ?_, h1.ins, h1.len⟩
  have e : (flushA (writeA A (l[i]).block (l[i]).bytes)).waits = [] := by
    simp only [flushA, (h.calm.write hw).act, if_true]
  rw [e]
  intro p hp
  cases hp

theorem isB_toNat {m n : Int} (h1 : isB m = true) (h2 : isB n = true) (h : m.toNat = n.toNat) : m = n := by unfold isB at h1 h2; simp at h1 h2; omega
theorem Torn.texts {l : List Deed} {i : Nat} {A : ADisk} {ws : List Nat} (h : Torn l i A ws) {m : Int} (hm : isB m = true) {v : ByteArray} (hv : Whole A.waits A.safe m.toNat v) : v ∈ textsOf l ws m (A.safe m.toNat) := by
  simp only [textsOf, List.mem_cons, List.mem_filterMap]
  rcases hv with e | ⟨p, hp, h1, e⟩
  · exact .inl e
  · obtain ⟨j, hj, h2, h3, h4⟩ := h.ofs p hp
    obtain ⟨_, h5, _⟩ := h.ins j h2
    refine .inr ⟨j, h2, ?_⟩
    rw [List.getElem?_eq_getElem hj]
    simp only [Option.bind_some]
    rw [if_pos (isB_toNat h5 hm (h3.trans h1)), e, h4]
theorem Torn.poss {l : List Deed} {i : Nat} {A : ADisk} {ws : List Nat} (h : Torn l i A ws) {m : Int} (hm : isB m = true) {k : Nat} {v : ByteArray} (hv : May A.waits A.safe m.toNat k v) : possB (textsOf l ws m (A.safe m.toNat)) v k = true := by
  simp only [possB, List.any_eq_true]
  rcases hv with hv | ⟨p, hp, h1, h2, c, hc, e⟩
  · exact ⟨v, h.texts hm hv, by simp [oneOk]⟩
  · refine ⟨p.2, h.texts hm (.inr ⟨p, hp, h1, rfl⟩), ?_⟩
    simp only [oneOk, Bool.or_eq_true, List.any_eq_true, Bool.and_eq_true, decide_eq_true_eq]
    exact .inr ⟨c, h.texts hm hc, h2, e⟩
/-- The bounds of the texts. -/
theorem Torn.sizes {l : List Deed} {i : Nat} {A : ADisk} {ws : List Nat} (h : Torn l i A ws) {m : Int} (hm : isB m = true) : ∀ a ∈ textsOf l ws m (A.safe m.toNat), a.size ≤ 1000 := by
  intro a ha
  simp only [textsOf, List.mem_cons, List.mem_filterMap] at ha
  rcases ha with rfl | ⟨j, hj, e⟩
  · have := h.calm.small.1 m.toNat (isB_lt hm); omega
  · obtain ⟨hl, _, h5⟩ := h.ins j hj
    rw [List.getElem?_eq_getElem hl] at e
    simp only [Option.bind_some] at e
    split at e
    · injection e with e; subst e; omega
    · cases e

/-- A disk behind a loss of power, started again. -/
def upA (A : ADisk) (keep : List Bool) (k : Int) : ADisk := { crashA A keep k with down := false, armed := 0 }
theorem upA_small {A : ADisk} {n : Nat} (h : Calm A n) (keep : List Bool) (k : Int) : Small (upA A keep k) :=
  ⟨fun i hi => crashTo_small h.small.1 h.small.2 h.inside _ i hi, fun p hp => by cases hp⟩
theorem crashA_small {A : ADisk} {n : Nat} (h : Calm A n) (keep : List Bool) (k : Int) : Small (crashA A keep k) :=
  ⟨fun i hi => crashTo_small h.small.1 h.small.2 h.inside _ i hi, fun p hp => by cases hp⟩
theorem upA_read {A : ADisk} {keep : List Bool} {k m : Int} (hm : isB m = true) : readE (upA A keep k) m = 0 ∧ readB (upA A keep k) m = crashTo A.waits keep (max k 0).toNat A.safe A.waits.length m.toNat := by
  have e : readE (upA A keep k) m = 0 := by simp [readE, hm, upA]
  exact ⟨e, by simp only [readB, e, if_true]; rfl⟩

end Go.Proofs.Ytbclgklpcbajfaa
