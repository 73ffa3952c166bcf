/- The block of a record is read as the record. -/
import Derived.Test.YtbclgklpcbajfaaT12
namespace Go.Proofs.Ytbclgklpcbajfaa
open Go.RowKit
set_option linter.unusedSimpArgs false
set_option linter.unusedVariables false

theorem valid_kinds {r : Rec} (hv : validB r = true) : (r.kind = 1 ∨ r.kind = 2 ∨ r.kind = 3 ∨ r.kind = 4 ∨ r.kind = 5 ∨ r.kind = 6 ∨ r.kind = 7) ∧ 0 ≤ r.unit ∧ r.unit ≤ 1000000 := by
  simp only [validB, Bool.and_eq_true, wi_iff] at hv
  obtain ⟨hu, hv⟩ := hv
  refine ⟨?_, hu⟩
  split at hv
  · omega
  split at hv
  · omega
  split at hv
  · omega
  split at hv
  · omega
  split at hv
  · omega
  split at hv
  · omega
  split at hv
  · omega
  · cases hv
theorem open_units {l : List Opn} (h : openB l = true) : l.length ≤ 8 ∧ ∀ u ∈ l, 0 ≤ u.unit ∧ u.unit ≤ 1000000 ∧ 0 ≤ u.next ∧ u.next ≤ 1000000 ∧ u.ready.size ≤ 30 := by
  simp only [openB, Bool.and_eq_true, List.all_eq_true, List.mem_range, decide_eq_true_eq] at h
  refine ⟨h.2, fun u hu => ?_⟩
  obtain ⟨i, hi, rfl⟩ := List.mem_iff_getElem.1 hu
  have := h.1 i hi
  unfold okAt at this
  rw [List.getElem?_eq_getElem hi] at this
  simp only [okU, Bool.and_eq_true, wi_iff, decide_eq_true_eq] at this
  omega
theorem empty_of {s : ByteArray} (h : s.size = 0) : s = ByteArray.empty := ByteArray.ext (Array.eq_empty_of_size_eq_zero h)
theorem decRest_app {r : Rec} (hv : validB r = true) : decRest r.kind r.unit (some (restB r)) = (r, some []) ∧ (restB r).length ≤ 100000 := by
  have hk := (valid_kinds hv).1
  have hb : ∀ t : ByteArray, (textB t).length = t.size + 1 := fun t => by rw [textB_eq, List.length_cons, data_length]
  have hs : ∀ v, (smallB v).length = 1 := fun v => rfl
  obtain ⟨k, u, pg, at', bf, af, bk, nx, tx, us⟩ := r
  simp only at hk
  rcases hk with rfl | rfl | rfl | rfl | rfl | rfl | rfl
  · obtain ⟨b1, b2, b3, b4, b5, b6, b7, b8⟩ := valid_bounds_1 rfl hv
    simp only [validB, Bool.and_eq_true, if_true, nb, nu, nt, decide_eq_true_eq] at hv
    obtain ⟨_, ⟨⟨⟨_, _⟩, h3⟩, h4⟩, h5⟩ := hv
    simp only at *
    have e5 := empty_of h5
    have e4 : us = [] := List.eq_nil_of_length_eq_zero h4
    subst e4 e5
    obtain ⟨rfl, rfl⟩ := h3
    refine ⟨?_, by simp only [restB, if_true, List.length_append, numB_length, hb, hs]; omega⟩
    have e : restB ⟨1, u, pg, at', bf, af, 0, 0, ByteArray.empty, []⟩ = numB pg ++ (smallB at' ++ (textB bf ++ (textB af ++ []))) := by simp only [restB, if_true, List.append_assoc, List.append_nil]
    rw [e]
    simp only [decRest, if_true, recK, rdNum_app _ _ b3 (show pg ≤ 4294967295 by omega), rdSmall_app _ _ b5 (show at' ≤ 255 by omega), rdText_app bf _ (by omega), rdText_app af _ (by omega)]
  · obtain ⟨b1, b2, b3, b4, b5, b6, b7, b8, b9, b10, b11⟩ := valid_bounds_2 rfl hv
    have q : ¬ (2 : Int) = 1 := by decide
    simp only [validB, Bool.and_eq_true, if_true, q, if_false, nf, nu, nt, decide_eq_true_eq] at hv
    obtain ⟨_, ⟨⟨⟨⟨_, h2⟩, _⟩, _⟩, h4⟩, h5⟩ := hv
    simp only at *
    have e5 := empty_of h5
    have e2 := empty_of h2
    have e4 : us = [] := List.eq_nil_of_length_eq_zero h4
    subst e4 e5 e2
    refine ⟨?_, by simp only [restB, if_true, q, if_false, List.length_append, numB_length, hb, hs]; omega⟩
    have e : restB ⟨2, u, pg, at', ByteArray.empty, af, bk, nx, ByteArray.empty, []⟩ = numB pg ++ (smallB at' ++ (textB af ++ (numB bk ++ (numB nx ++ [])))) := by simp only [restB, q, if_false, if_true, List.append_assoc, List.append_nil]
    rw [e]
    simp only [decRest, if_true, q, if_false, recK, rdNum_app _ _ b3 (show pg ≤ 4294967295 by omega), rdSmall_app _ _ b5 (show at' ≤ 255 by omega), rdText_app af _ (by omega), rdNum_app bk _ b8 (by omega), rdNum_app nx _ b10 (by omega)]
  · have hbd := valid_bounds_3 rfl hv
    have q1 : ¬ (3 : Int) = 1 := by decide
    have q2 : ¬ (3 : Int) = 2 := by decide
    have q5 : ¬ (3 : Int) = 5 := by decide
    have q7 : ¬ (3 : Int) = 7 := by decide
    have q6 : ¬ (3 : Int) = 6 := by decide
    simp only [validB, Bool.and_eq_true, if_true, q1, q2, if_false, np, nf, nb, nu, nt, decide_eq_true_eq] at hv
    obtain ⟨_, ⟨⟨⟨⟨⟨h1, h2⟩, h6⟩, h7⟩, h8⟩, h4⟩, h5⟩ := hv
    simp only at *
    obtain ⟨rfl, rfl⟩ := h8
    have e1 := empty_of h6
    have e2 := empty_of h7
    have e5 := empty_of h5
    have e4 : us = [] := List.eq_nil_of_length_eq_zero h4
    subst e4 e5 e2 e1 h1 h2
    refine ⟨?_, by simp only [restB, q1, q2, q5, q6, q7, or_self, if_false, List.length_nil]; omega⟩
    simp only [decRest, restB, q1, q2, q5, q6, q7, or_self, if_false, recK]
  · have hbd := valid_bounds_4 rfl hv
    have q1 : ¬ (4 : Int) = 1 := by decide
    have q2 : ¬ (4 : Int) = 2 := by decide
    have q3 : ¬ (4 : Int) = 3 := by decide
    have q5 : ¬ (4 : Int) = 5 := by decide
    have q7 : ¬ (4 : Int) = 7 := by decide
    have q6 : ¬ (4 : Int) = 6 := by decide
    simp only [validB, Bool.and_eq_true, if_true, q1, q2, q3, if_false, np, nf, nb, nu, nt, decide_eq_true_eq] at hv
    obtain ⟨_, ⟨⟨⟨⟨⟨h1, h2⟩, h6⟩, h7⟩, h8⟩, h4⟩, h5⟩ := hv
    simp only at *
    obtain ⟨rfl, rfl⟩ := h8
    have e1 := empty_of h6
    have e2 := empty_of h7
    have e5 := empty_of h5
    have e4 : us = [] := List.eq_nil_of_length_eq_zero h4
    subst e4 e5 e2 e1 h1 h2
    refine ⟨?_, by simp only [restB, q1, q2, q3, q5, q6, q7, or_self, if_false, List.length_nil]; omega⟩
    simp only [decRest, restB, q1, q2, q3, q5, q6, q7, or_self, if_false, recK]
  · have hbd := valid_bounds_5 rfl hv
    have q1 : ¬ (5 : Int) = 1 := by decide
    have q2 : ¬ (5 : Int) = 2 := by decide
    have q3 : ¬ (5 : Int) = 3 := by decide
    have q4 : ¬ (5 : Int) = 4 := by decide
    simp only [validB, Bool.and_eq_true, if_true, q1, q2, q3, q4, if_false, np, nf, nb, nu, nt, decide_eq_true_eq] at hv
    obtain ⟨_, ⟨⟨⟨⟨⟨h1, h2⟩, h6⟩, h7⟩, h8⟩, h4⟩, h5⟩ := hv
    simp only at *
    obtain ⟨rfl, rfl⟩ := h8
    have e1 := empty_of h6
    have e2 := empty_of h7
    have e4 : us = [] := List.eq_nil_of_length_eq_zero h4
    subst e4 e2 e1 h1 h2
    refine ⟨?_, by simp only [restB, q1, q2, q3, q4, or_true, true_or, if_true, if_false, hb]; omega⟩
    have e : restB ⟨5, u, 0, 0, ByteArray.empty, ByteArray.empty, 0, 0, tx, []⟩ = textB tx ++ [] := by simp only [restB, q1, q2, q3, q4, or_true, true_or, if_true, if_false, List.append_nil]
    rw [e]
    simp only [decRest, q1, q2, q3, q4, or_true, true_or, if_true, if_false, recK, rdText_app tx _ (show tx.size ≤ 255 by omega)]
  · have q1 : ¬ (6 : Int) = 1 := by decide
    have q2 : ¬ (6 : Int) = 2 := by decide
    have q3 : ¬ (6 : Int) = 3 := by decide
    have q4 : ¬ (6 : Int) = 4 := by decide
    have q5 : ¬ (6 : Int) = 5 := by decide
    have q7 : ¬ (6 : Int) = 7 := by decide
    simp only [validB, Bool.and_eq_true, if_true, q1, q2, q3, q4, q5, if_false, np, nf, nb, nu, nt, decide_eq_true_eq] at hv
    obtain ⟨_, ⟨⟨⟨⟨⟨⟨h1, h2⟩, h6⟩, h7⟩, h8⟩, h4⟩, h9⟩, h5⟩ := hv
    simp only at *
    obtain ⟨rfl, rfl⟩ := h8
    have e1 := empty_of h6
    have e2 := empty_of h7
    have e5 := empty_of h5
    subst e5 e2 e1 h1 h2 h9
    obtain ⟨hl, hus⟩ := open_units h4
    have hlen : (us.flatMap opnB).length ≤ us.length * 50 := by
      clear h4 hl
      induction us with
      | nil => simp
      | cons a us ih =>
        have ha := hus a (by simp)
        have := ih (fun x hx => hus x (by simp [hx]))
        simp only [List.flatMap_cons, List.length_append, List.length_cons, opnB, numB_length, hb]
        omega
    refine ⟨?_, by simp only [restB, q1, q2, q5, q7, or_self, if_true, if_false, List.length_append, hs]; omega⟩
    have e : restB ⟨6, 0, 0, 0, ByteArray.empty, ByteArray.empty, 0, 0, ByteArray.empty, us⟩ = smallB (us.length : Int) ++ (us.flatMap opnB ++ []) := by simp only [restB, q1, q2, q5, q7, or_self, if_true, if_false, List.append_nil]
    rw [e]
    simp only [decRest, q1, q2, q5, q7, or_self, if_true, if_false, recK, rdSmall_app (us.length : Int) _ (by omega) (by omega), Int.toNat_natCast, rdOpens_app us _ (fun x hx => by have := hus x hx; omega)]
  · have hbd := valid_bounds_7 rfl hv
    have q1 : ¬ (7 : Int) = 1 := by decide
    have q2 : ¬ (7 : Int) = 2 := by decide
    have q3 : ¬ (7 : Int) = 3 := by decide
    have q4 : ¬ (7 : Int) = 4 := by decide
    have q5 : ¬ (7 : Int) = 5 := by decide
    have q6 : ¬ (7 : Int) = 6 := by decide
    simp only [validB, Bool.and_eq_true, if_true, q1, q2, q3, q4, q5, q6, if_false, np, nf, nb, nu, nt, decide_eq_true_eq] at hv
    obtain ⟨_, ⟨⟨⟨⟨⟨h1, h2⟩, h6⟩, h7⟩, h8⟩, h4⟩, h5⟩ := hv
    simp only at *
    obtain ⟨rfl, rfl⟩ := h8
    have e1 := empty_of h6
    have e2 := empty_of h7
    have e4 : us = [] := List.eq_nil_of_length_eq_zero h4
    subst e4 e2 e1 h1 h2
    refine ⟨?_, by simp only [restB, q1, q2, q3, q4, q5, q6, or_true, true_or, if_true, if_false, hb]; omega⟩
    have e : restB ⟨7, u, 0, 0, ByteArray.empty, ByteArray.empty, 0, 0, tx, []⟩ = textB tx ++ [] := by simp only [restB, q1, q2, q3, q4, q5, q6, or_true, true_or, if_true, if_false, List.append_nil]
    rw [e]
    simp only [decRest, q1, q2, q3, q4, q5, q6, or_true, true_or, if_true, if_false, recK, rdText_app tx _ (show tx.size ≤ 255 by omega)]

/-- What was written is read as it was. -/
theorem enc_dec {r : Rec} {n : Int} (hv : validB r = true) (h1 : 1 ≤ n) (h2 : n ≤ 1000000) : decHead (encB n r) = ⟨(encB n r).length, n, r.kind, r.unit, some (restB r)⟩ ∧ decRec (encB n r) = (r, some []) := by
  obtain ⟨hk, hu1, hu2⟩ := valid_kinds hv
  obtain ⟨hr, hlen⟩ := decRest_app hv
  have hh : (headB n r).length = 9 := by simp only [headB, List.length_append, numB_length]; rfl
  have hl : ((encB n r).length : Int) = 4 + ((headB n r ++ restB r).length : Int) := by
    unfold encB
    rw [List.length_append, numB_length]; push_cast; rfl
  have hll : (headB n r ++ restB r).length ≤ 200000 := by rw [List.length_append, hh]; omega
  have e : encB n r = numB ((encB n r).length : Int) ++ (numB n ++ (smallB r.kind ++ (numB r.unit ++ restB r))) := by
    rw [hl]
    unfold encB
    simp only [headB, List.append_assoc]
  have hd : decHead (encB n r) = ⟨(encB n r).length, n, r.kind, r.unit, some (restB r)⟩ := by
    generalize hL : ((encB n r).length : Int) = L at *
    rw [e]
    simp only [decHead]
    rw [rdNum_app L _ (by omega) (by omega)]
    simp only
    rw [rdNum_app n _ (by omega) (by omega)]
    simp only
    rw [rdSmall_app r.kind _ (by omega) (by omega)]
    simp only
    rw [rdNum_app r.unit _ (by omega) (by omega)]
  refine ⟨hd, ?_⟩
  unfold decRec
  rw [hd]
  exact hr

end Go.Proofs.Ytbclgklpcbajfaa
