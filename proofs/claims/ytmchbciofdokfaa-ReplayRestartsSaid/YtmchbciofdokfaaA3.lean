/- What progenyref01.Compare returns, for all slices of bytes. -/
import Derived.Test.YtmchbciofdokfaaProg
import Derived.Test.YtmchbciofdokfaaA0
namespace Go.Proofs.Ytmchbciofdokfaa
open Go.RowKit

/-- Byte by byte. -/
def cmpL : List UInt8 → List UInt8 → Int
  | [], [] => 0
  | [], _ :: _ => -1
  | _ :: _, [] => 1
  | a :: l, b :: m => if a = b then cmpL l m else if a < b then -1 else 1
theorem cmpL_zero : ∀ l m, cmpL l m = 0 ↔ l = m := by
  intro l
  induction l with
  | nil => intro m; cases m <;> simp [cmpL]
  | cons a l ih =>
    intro m
    cases m with
    | nil => simp [cmpL]
    | cons b m =>
      simp only [cmpL, List.cons.injEq]
      by_cases e : a = b
      · rw [if_pos e, ih]; simp [e]
      · rw [if_neg e]; split <;> simp [e]
def cmpS (s t : ByteArray) : Int := cmpL s.data.toList t.data.toList
theorem cmpS_zero (s t : ByteArray) : cmpS s t = 0 ↔ s = t := by
  unfold cmpS
  rw [cmpL_zero]
  exact ⟨fun h => ByteArray.ext (Array.ext' h), fun h => by rw [h]⟩
theorem drop_at {s : ByteArray} {k : Nat} (h : k < s.size) : s.data.toList.drop k = s[k] :: s.data.toList.drop (k + 1) := List.drop_eq_getElem_cons (by simpa using h)
theorem cmp_lt {s t : ByteArray} {k : Nat} (h1 : k < s.size) (h2 : k < t.size) (hall : cmpS s t = cmpL (s.data.toList.drop k) (t.data.toList.drop k)) (h : (s[k]'h1).toNat < (t[k]'h2).toNat) : cmpS s t = -1 := by
  rw [hall, drop_at h1, drop_at h2]
  have hlt : s[k] < t[k] := h
  have hne : s[k] ≠ t[k] := fun e => by rw [e] at hlt; exact absurd hlt (by simp)
  simp only [cmpL]
  rw [if_neg hne, if_pos hlt]
theorem cmp_gt {s t : ByteArray} {k : Nat} (h1 : k < s.size) (h2 : k < t.size) (hall : cmpS s t = cmpL (s.data.toList.drop k) (t.data.toList.drop k)) (hn : (s[k]'h1).toNat ≠ (t[k]'h2).toNat) (h : ¬ (s[k]'h1).toNat < (t[k]'h2).toNat) : cmpS s t = 1 := by
  rw [hall, drop_at h1, drop_at h2]
  have hlt : ¬ s[k] < t[k] := h
  have hne : s[k] ≠ t[k] := fun e => hn (by rw [e])
  simp only [cmpL]
  rw [if_neg hne, if_neg hlt]
theorem cmp_next {s t : ByteArray} {k : Nat} (h1 : k < s.size) (h2 : k < t.size) (hall : cmpS s t = cmpL (s.data.toList.drop k) (t.data.toList.drop k)) (h : (s[k]'h1).toNat = (t[k]'h2).toNat) : cmpS s t = cmpL (s.data.toList.drop (k + 1)) (t.data.toList.drop (k + 1)) := by
  rw [hall, drop_at h1, drop_at h2]
  have he : s[k] = t[k] := UInt8.toNat_inj.1 h
  simp only [cmpL]
  exact if_pos he
theorem cmp_end {s t : ByteArray} {k : Nat} (hk : k ≤ s.size) (hk2 : k ≤ t.size) (h : s.size ≤ k ∨ t.size ≤ k) (hall : cmpS s t = cmpL (s.data.toList.drop k) (t.data.toList.drop k)) :
    cmpS s t = if s.size < t.size then -1 else if t.size < s.size then 1 else 0 := by
  rw [hall]
  have l1 : (s.data.toList.drop k).length = s.size - k := by simp
  have l2 : (t.data.toList.drop k).length = t.size - k := by simp
  generalize s.data.toList.drop k = a at *
  generalize t.data.toList.drop k = b at *
  cases a <;> cases b <;> simp [cmpL] at * <;> (split <;> (try split)) <;> first | rfl | omega

set_option maxHeartbeats 1000000 in
theorem compare_any (u v : Value) (s t : ByteArray) (w : World) (h1 : Bytes w u s) (h2 : Bytes w v t) :
    Calls Try.prog 69 #[u, v] w fun e w' => e = .returned (.int .i64 (cmpS s t)) ∧ New w w' := by
  obtain ⟨up, uc, rfl, u1, u2, u3⟩ := h1
  obtain ⟨vp, vc, rfl, v1, v2, v3⟩ := h2
  unfold maxLen at u2 v2
  rw [byteVals_length] at u3 v3
  go_enter Try.func69, Try.ntmps69
  go_wp2
  go_loopw [5] (fun i wr => ∃ k : Nat, k ≤ s.size ∧ k ≤ t.size ∧ i = .int .i64 k ∧ New w wr ∧ Hid (cmpS s t = cmpL (s.data.toList.drop k) (t.data.toList.drop k))) (fun i _ => s.size - (intOf i).toNat)
  case atStart => exact ⟨0, Nat.zero_le _, Nat.zero_le _, rfl, New.refl _, rfl⟩
  case round =>
    obtain ⟨k, hk, hk2, rfl, hnew, hall⟩ := hrel
    by_cases hlt : k < s.size
    · by_cases hlm : k < t.size
      · obtain ⟨b, o, rfl, hb, hc⟩ := u3 (by omega)
        obtain ⟨b', o', rfl, hb', hc'⟩ := v3 (by omega)
        have c0 := hc k hlt
        have d0 := hc' k hlm
        rw [byteVals_getD s k hlt, ← hnew.cell _ _ hb] at c0
        rw [byteVals_getD t k hlm, ← hnew.cell _ _ hb'] at d0
        clear hc u3 hc' v3
        have H1 : Hid _ := cmp_next hlt hlm hall.out
        have H2 : Hid _ := cmp_lt hlt hlm hall.out
        have H3 : Hid _ := cmp_gt hlt hlm hall.out
        generalize (s[k]'hlt).toNat = x at *
        generalize (t[k]'hlm).toNat = y at *
        by_cases e1 : x = y
        · subst e1
          go_wp2
          go_region
          go_wp2
          go_roundw
          case rel => exact ⟨k + 1, by omega, by omega, by go_num, hnew.drew, H1.out trivial⟩
          case measure => simp [intOf]; omega
        · have e2 : ((x : Int) != (y : Int)) = true := by simp; omega
          have E1 : Hid _ := e1
          clear e1
          by_cases e3 : x < y
          · go_wp2
            go_region
            go_wp2
            go_region
            go_wp2
            go_ret
            exact ⟨ret_int (H2.out e3).symm, hnew.drew.drew⟩
          · go_wp2
            go_region
            go_wp2
            go_region
            go_wp2
            go_ret
            exact ⟨ret_int (H3.out E1.out e3).symm, hnew.drew.drew⟩
      · have HE : Hid _ := cmp_end hk hk2 (Or.inr (by omega)) hall.out
        go_wp2
        all_goals go_ret
        all_goals (refine ⟨ret_int ?_, hnew⟩; rw [HE.out]; split <;> (try split) <;> first | rfl | omega)
    · have HE : Hid _ := cmp_end hk hk2 (Or.inl (by omega)) hall.out
      go_wp2
      all_goals go_ret
      all_goals (refine ⟨ret_int ?_, hnew⟩; rw [HE.out]; split <;> (try split) <;> first | rfl | omega)

end Go.Proofs.Ytmchbciofdokfaa
