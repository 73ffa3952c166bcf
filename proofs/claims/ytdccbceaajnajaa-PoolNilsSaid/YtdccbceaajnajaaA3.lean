/- What progenyref01.Compare returns, for all slices of bytes. -/
import Derived.Test.YtdccbceaajnajaaProg
import Derived.Test.YtdccbceaajnajaaA0
namespace Go.Proofs.Ytdccbceaajnajaa
open Go.RowKit

/-- Byte by byte. -/
def cmpL : List UInt8 → List UInt8 → Int
  | [], [] => 0
  | [], _ :: _ => -1
  | _ :: _, [] => 1
  | a :: l, b :: m => if a = b then cmpL l m else if a < b then -1 else 1
theorem cmpL_zero : ∀ l m, cmpL l m = 0 ↔ l = m := by
  intro l
  induction l with
  | nil => intro m; cases m <;> simp [cmpL]
  | cons a l ih =>
    intro m
    cases m with
    | nil => simp [cmpL]
    | cons b m =>
      simp only [cmpL, List.cons.injEq]
      by_cases e : a = b
      · rw [if_pos e, ih]; simp [e]
      · rw [if_neg e]; split <;> simp [e]
def cmpS (s t : ByteArray) : Int := cmpL s.data.toList t.data.toList
theorem cmpS_zero (s t : ByteArray) : cmpS s t = 0 ↔ s = t := by
  unfold cmpS
  rw [cmpL_zero]
  exact ⟨fun h => ByteArray.ext (Array.ext' h), fun h => by rw [h]⟩
theorem drop_at {s : ByteArray} {k : Nat} (h : k < s.size) : s.data.toList.drop k = s[k] :: s.data.toList.drop (k + 1) := List.drop_eq_getElem_cons (by simpa using h)
theorem cmp_lt {s t : ByteArray} {k : Nat} (h1 : k < s.size) (h2 : k < t.size) (hall : cmpS s t = cmpL (s.data.toList.drop k) (t.data.toList.drop k)) (h : (s[k]'h1).toNat < (t[k]'h2).toNat) : cmpS s t = -1 := by
  rw [hall, drop_at h1, drop_at h2]
  have hlt : s[k] < t[k] := h
  have hne : s[k] ≠ t[k] := fun e => by rw [e] at hlt; exact absurd hlt (by simp)
  simp only [cmpL]
  rw [if_neg hne, if_pos hlt]
theorem cmp_gt {s t : ByteArray} {k : Nat} (h1 : k < s.size) (h2 : k < t.size) (hall : cmpS s t = cmpL (s.data.toList.drop k) (t.data.toList.drop k)) (hn : (s[k]'h1).toNat ≠ (t[k]'h2).toNat) (h : ¬ (s[k]'h1).toNat < (t[k]'h2).toNat) : cmpS s t = 1 := by
  rw [hall, drop_at h1, drop_at h2]
  have hlt : ¬ s[k] < t[k] := h
  have hne : s[k] ≠ t[k] := fun e => hn (by rw [e])
  simp only [cmpL]
  rw [if_neg hne, if_neg hlt]
theorem cmp_next {s t : ByteArray} {k : Nat} (h1 : k < s.size) (h2 : k < t.size) (hall : cmpS s t = cmpL (s.data.toList.drop k) (t.data.toList.drop k)) (h : (s[k]'h1).toNat = (t[k]'h2).toNat) : cmpS s t = cmpL (s.data.toList.drop (k + 1)) (t.data.toList.drop (k + 1)) := by
  rw [hall, drop_at h1, drop_at h2]
  have he : s[k] = t[k] := UInt8.toNat_inj.1 h
  simp only [cmpL]
  exact if_pos he
theorem cmp_end {s t : ByteArray} {k : Nat} (hk : k ≤ s.size) (hk2 : k ≤ t.size) (h : s.size ≤ k ∨ t.size ≤ k) (hall : cmpS s t = cmpL (s.data.toList.drop k) (t.data.toList.drop k)) :
    cmpS s t = if s.size < t.size then -1 else if t.size < s.size then 1 else 0 := by
  rw [hall]
  have l1 : (s.data.toList.drop k).length = s.size - k := by simp
  have l2 : (t.data.toList.drop k).length = t.size - k := by simp
  generalize s.data.toList.drop k = a at *
  generalize t.data.toList.drop k = b at *
  cases a <;> cases b <;> simp [cmpL] at * <;> (split <;> (try split)) <;> first | rfl | omega

end Go.Proofs.Ytdccbceaajnajaa
