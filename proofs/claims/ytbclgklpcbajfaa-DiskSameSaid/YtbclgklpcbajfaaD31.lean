/- The specification's disk: there, Read, Same. -/
import Derived.Test.YtbclgklpcbajfaaD30
import Derived.Test.YtbclgklpcbajfaaD24
import Derived.Lib.ConvBytes
namespace Go.Proofs.Ytbclgklpcbajfaa
open Go.RowKit
set_option linter.unusedSimpArgs false
set_option linter.unusedVariables false

/-- One waiting write in memory. -/
theorem RefIs.at {w : World} {f : Nat → Value} {ow : Option Nat} {A : ADisk} (h : RefIs w f ow A) {p : Option Addr} {n c : Nat} (he : f 3120 = .slice p n c) {j : Nat} (hj : j < A.waits.length) :
    n = A.waits.length ∧ ∃ g, p = some ⟨g, 0, none⟩ ∧ g < w.heap.size ∧ w.cell? ⟨g, j * 2, none⟩ = some (.int .i64 (A.waits[j].1 : Int)) ∧ w.cell? ⟨g, j * 2 + 1, none⟩ = some (.string A.waits[j].2) := by
  have ho := h.own
  obtain ⟨g, cap, e, _, hg⟩ := ho.form (by omega)
  rw [he] at e ho
  injection e with e1 e2 e3
  subst e1
  have hc := fun j u hu => World.ownsRow.cells ho (g := g) rfl j u hu
  obtain ⟨w0, w1⟩ := waitVals_get A.waits j hj
  have hadd : ∀ i, (⟨g, 0, none⟩ : Addr).add i = ⟨g, i, none⟩ := fun i => by unfold Addr.add; split <;> simp_all
  refine ⟨e2, g, rfl, hg, ?_, ?_⟩
  · have := hc (j * 2) _ w0
    rwa [hadd] at this
  · have := hc (j * 2 + 1) _ w1
    rwa [hadd] at this

theorem refThere_any (b : Nat) (ow : Option Nat) (A : ADisk) (m : Nat) (w : World) (h : RefAt w b ow A) (hm : m < 3120) (hb3 : A.waits.length ≤ 1000000000) :
    Calls Try.prog 77 #[.pointer (some ⟨b, 0, none⟩), .int .i64 m] w fun e w' => e = .returned (.string (layAll A.waits A.safe m)) ∧ w = w' := by
  obtain ⟨f, hr, hd⟩ := h
  have c0 := hr.cell m (by omega)
  have c1 := hr.cell 3120 (by omega)
  rw [hd.safe m hm] at c0
  obtain ⟨p, c, ep, _⟩ := ref_slice hd
  rw [ep] at c1
  have HD := hid hd
  have HE := hid ep
  clear hr hd ep
  go_enter Try.func77, Try.ntmps77
  go_wp2
  go_loopw [5, 6] (fun s i wr => ∃ j : Nat, j ≤ A.waits.length ∧ i = .int .i64 j ∧ s = .string (layAll (A.waits.take j) A.safe m) ∧ w = wr) (fun _ i _ => A.waits.length - (intOf i).toNat)
  case atStart => exact ⟨0, Nat.zero_le _, rfl, rfl, rfl⟩
  case round =>
    obtain ⟨j, hj, rfl, rfl, rfl⟩ := hrel
    by_cases hlt : j < A.waits.length
    · obtain ⟨_, g, rfl, _, d0, d1⟩ := HD.out.at HE.out hlt
      have HT := hid (layAll_take hlt A.safe)
      generalize hx : A.waits[j] = x at *
      clear hx
      by_cases e : x.1 = m
      · have t : ((x.1 : Int) == (m : Int)) = true := by simp [e]
        have E := hid e
        clear e
        go_wp2
        go_roundw
        case rel => exact ⟨j + 1, by omega, by go_num, by rw [HT.out]; simp [lay1, E.out], trivial⟩
        case measure => simp [intOf]; omega
      · have t : ((x.1 : Int) == (m : Int)) = false := by simp; omega
        have E := hid e
        go_wp2
        go_roundw
        case rel => exact ⟨j + 1, by omega, by go_num, by rw [HT.out]; simp [lay1, Ne.symm E.out], trivial⟩
        case measure => simp [intOf]; omega
    · obtain rfl : j = A.waits.length := by omega
      go_wp2
      go_ret
      exact ⟨by rw [List.take_length]; rfl, rfl⟩

/-- A text's bytes, in new memory. -/
theorem text_bytes (w : World) (s : ByteArray) (hs : s.size ≤ maxLen) : ∃ k w', (Go.convert 9 22 (.string s)).run Try.prog w = .ok (.slice (some ⟨w.heap.size, 0, none⟩) s.size k) w' ∧ Content w' (.slice (some ⟨w.heap.size, 0, none⟩) s.size k) s ∧ New w w' := by
  refine ⟨_, _, Lib.run_convert_string_bytes (P := Try.prog) w 9 22 5 s Try.underlying9 Try.underlying22 Try.underlying5, ⟨⟨_, _, rfl, grownCap_ge _ _ _ _, grownCap_le_maxLen _ _ _ _ hs, fun h0 => ⟨_, 0, rfl, ?_, fun i hi => ?_⟩⟩, fun k hk => ?_⟩, ?_⟩
  · rw [Lib.bytesWorld_size]; omega
  · have hi' : i < s.size := by rw [byteVals_length] at hi; exact hi
    rw [Nat.zero_add, Lib.bytesWorld_cell w 5 s i hi', byteVals_getD s i hi']
    simp [List.getD_eq_getElem?_getD, hi']
    rfl
  · simp only [Value.ownBlock, Option.some.injEq] at hk
    subst hk
    exact ⟨_, _, Lib.bytesWorld_at_new w 5 s⟩
  · exact ⟨rfl, rfl, rfl, by rw [Lib.bytesWorld_size]; omega, fun k hk => Lib.bytesWorld_at_old w 5 s k hk⟩

set_option maxHeartbeats 1000000 in
set_option maxRecDepth 100000 in
theorem refRead_any (b : Nat) (ow : Option Nat) (A : ADisk) (n : Int) (w : World) (h : RefAt w b ow A) (hs : Small A) (hb3 : A.waits.length ≤ 1000000000) :
    Calls Try.prog 78 #[.pointer (some ⟨b, 0, none⟩), .int .i64 n] w fun e w' => ∃ v, e = .returned (.tuple #[v, .int .i64 (readE A n)]) ∧ Content w' v (readB A n) ∧ New w w' := by
  have H := hid h
  obtain ⟨f, hr, hd⟩ := h
  have c1 := hr.cell 3122 (by omega)
  rw [hd.down] at c1
  clear hr hd
  cases hb : isB n with
  | false =>
    have er : readE A n = 2 := by simp [readE, hb]
    have HF : Hid (Content w (.slice none 0 0) (readB A n)) := hid (by simp only [readB, er]; exact Content.nil w)
    go_enter Try.func78, Try.ntmps78
    go_wp2_with fail
    refine (refIsBlock_any n w).mono ?_
    rintro e w' ⟨rfl, rfl⟩
    rw [hb]
    go_wp2
    go_ret2
    exact ⟨.slice none 0 0, by rw [er]; rfl, HF.out, New.refl _⟩
  | true =>
    cases hdn : A.down with
    | true =>
      have er : readE A n = 7 := by simp [readE, hb, hdn]
      have HF : Hid (Content w (.slice none 0 0) (readB A n)) := hid (by simp only [readB, er]; exact Content.nil w)
      rw [hdn] at c1
      go_enter Try.func78, Try.ntmps78
      go_wp2_with fail
      refine (refIsBlock_any n w).mono ?_
      rintro e w' ⟨rfl, rfl⟩
      rw [hb]
      go_wp2
      go_ret2
      exact ⟨.slice none 0 0, by rw [er]; rfl, HF.out, New.refl _⟩
    | false =>
      have er : readE A n = 0 := by simp [readE, hb, hdn]
      rw [hdn] at c1
      obtain ⟨m, rfl⟩ : ∃ m : Nat, n = m := ⟨n.toNat, by unfold isB at hb; simp at hb; omega⟩
      have hm : m < 3120 := isB_lt hb
      have eb : readB A m = layAll A.waits A.safe m := by simp only [readB, er, if_true, Int.toNat_natCast]
      have hsz := hs.lay m hm
      rw [← eb] at hsz
      obtain ⟨k, w2, hrun, hc2, hn2⟩ := text_bytes w (readB A m) (by unfold maxLen; omega)
      have HF := hid (And.intro hc2 hn2)
      have HE := hid er
      clear er hc2 hn2 hs hsz
      go_enter Try.func78, Try.ntmps78
      go_wp2_with fail
      refine (refIsBlock_any m w).mono ?_
      rintro e w' ⟨rfl, rfl⟩
      rw [hb]
      go_wp2_with fail
      refine (refThere_any b ow A m w H.out hm hb3).mono ?_
      rintro e w' ⟨rfl, rfl⟩
      rw [← eb]
      clear eb
      go_wp2
      go_ret2
      exact ⟨.slice (some ⟨w.heap.size, 0, none⟩) (readB A m).size k, by rw [HE.out]; rfl, HF.out.1, HF.out.2⟩

set_option maxHeartbeats 4000000 in
set_option maxRecDepth 100000 in
theorem refSame_any (b c : Nat) (ow oc : Option Nat) (A B : ADisk) (w : World) (h : RefAt w b ow A) (h' : RefAt w c oc B) (hA : A.waits.length ≤ 1000000000) (hB : B.waits.length ≤ 1000000000) :
    Calls Try.prog 35 #[.pointer (some ⟨b, 0, none⟩), .pointer (some ⟨c, 0, none⟩)] w fun e w' => ∃ x : Bool, e = .returned (.bool x) ∧ (x = true ↔ SameD A B) ∧ New w w' := by
  have H1 := hid h
  have H2 := hid h'
  obtain ⟨f, hr, hd⟩ := h
  obtain ⟨f', hr', hd'⟩ := h'
  have a1 := hr.cell 3122 (by omega)
  have b1 := hr'.cell 3122 (by omega)
  rw [hd.down] at a1
  rw [hd'.down] at b1
  have lb := hr.lt
  have lc := hr'.lt
  have R1 := hid hr
  have R2 := hid hr'
  have D1 := hid hd
  have D2 := hid hd'
  have LA := hid hA
  have LB := hid hB
  clear hr hr' hd hd' hA hB
  go_enter Try.func35, Try.ntmps35
  go_wp2
  go_loopw [5] (fun i wr => ∃ j : Nat, j ≤ 3120 ∧ i = .int .i64 j ∧ New w wr ∧ Hid (∀ k, k < j → A.safe k = B.safe k ∧ layAll A.waits A.safe k = layAll B.waits B.safe k)) (fun i _ => 3120 - (intOf i).toNat)
  case atStart => exact ⟨0, Nat.zero_le _, rfl, New.refl w, hid fun k hk => absurd hk (Nat.not_lt_zero _)⟩
  case round =>
    obtain ⟨j, hj, rfl, hn, hall⟩ := hrel
    have a1' := a1
    have b1' := b1
    rw [← hn.cell _ _ lb] at a1'
    rw [← hn.cell _ _ lc] at b1'
    by_cases hlt : j < 3120
    · have c1 := (R1.out.turn (Turn.of_new (S := fun _ => False) hn) (fun h => h)).cell j (by omega)
      have c2 := (R2.out.turn (Turn.of_new (S := fun _ => False) hn) (fun h => h)).cell j (by omega)
      rw [D1.out.safe j hlt] at c1
      rw [D2.out.safe j hlt] at c2
      have lb' : b < wr.heap.size := Nat.lt_of_lt_of_le lb hn.size
      have lc' : c < wr.heap.size := Nat.lt_of_lt_of_le lc hn.size
      have C1 : ∀ p : After wr, p.w.cell? ⟨b, j, none⟩ = some (.string (A.safe j)) := fun p => by rw [p.new.cell _ _ lb']; exact c1
      have C2 : ∀ p : After wr, p.w.cell? ⟨c, j, none⟩ = some (.string (B.safe j)) := fun p => by rw [p.new.cell _ _ lc']; exact c2
      have Q1 : ∀ p : After wr, Calls Try.prog 77 #[.pointer (some ⟨b, 0, none⟩), .int .i64 j] p.w fun e w' => e = .returned (.string (layAll A.waits A.safe j)) ∧ p.w = w' := fun p => refThere_any b ow A j _ (H1.out.new (hn.trans p.new)) hlt LA.out
      have Q2 : ∀ p : After wr, Calls Try.prog 77 #[.pointer (some ⟨c, 0, none⟩), .int .i64 j] p.w fun e w' => e = .returned (.string (layAll B.waits B.safe j)) ∧ p.w = w' := fun p => refThere_any c oc B j _ (H2.out.new (hn.trans p.new)) hlt LB.out
      have HALL := hall
      clear hall c1 c2
      by_cases h1 : A.safe j = B.safe j
      · have t1 : ((A.safe j).toList == (B.safe j).toList) = true := by rw [str_beq]; simp [h1]
        by_cases h2 : layAll A.waits A.safe j = layAll B.waits B.safe j
        · have t2 : ((layAll A.waits A.safe j).toList == (layAll B.waits B.safe j).toList) = true := by rw [str_beq]; simp [h2]
          have G1 := hid h1
          have G2 := hid h2
          clear h1 h2
          go_wp2_with fail
          refine wp_region_new (by kernel_rfl) (by kernel_rfl) ?_
          repeat (go_big_quiet_step (first
            | (with_reducible refine calls_after_same (Q1 _))
            | (with_reducible refine calls_after_same (Q2 _))))
          refine wpQuiet_nil ?_
          rintro _ ⟨q, rfl⟩
          go_wp2
          go_roundw
          case rel =>
            refine ⟨j + 1, by omega, by go_num, hn.trans q.new, hid fun i hi => ?_⟩
            rcases Nat.lt_or_ge i j with h | h
            · exact HALL.out i h
            · obtain rfl : i = j := by omega
              exact ⟨G1.out, G2.out⟩
          case measure => simp [intOf]; omega
        · have t2 : ((layAll A.waits A.safe j).toList == (layAll B.waits B.safe j).toList) = false := by rw [str_beq]; simp [h2]
          have G2 := hid h2
          clear h1 h2
          go_wp2_with fail
          refine wp_region_new (by kernel_rfl) (by kernel_rfl) ?_
          repeat (go_big_quiet_step (first
            | (with_reducible refine calls_after_same (Q1 _))
            | (with_reducible refine calls_after_same (Q2 _))))
          refine wpQuiet_nil ?_
          rintro _ ⟨q, rfl⟩
          go_wp2
          go_ret
          exact ⟨false, rfl, ⟨fun h => absurd h (by decide), fun h => absurd (h.2 j hlt).2 G2.out⟩, hn.trans q.new⟩
      · have t1 : ((A.safe j).toList == (B.safe j).toList) = false := by rw [str_beq]; simp [h1]
        have G1 := hid h1
        clear h1
        go_wp2_with fail
        refine wp_region_new (by kernel_rfl) (by kernel_rfl) ?_
        repeat (go_big_quiet_step (first
          | (with_reducible refine calls_after_same (Q1 _))
          | (with_reducible refine calls_after_same (Q2 _))))
        refine wpQuiet_nil ?_
        rintro _ ⟨q, rfl⟩
        go_wp2
        go_ret
        exact ⟨false, rfl, ⟨fun h => absurd h (by decide), fun h => absurd (h.2 j hlt).1 G1.out⟩, hn.trans q.new⟩
    · obtain rfl : j = 3120 := by omega
      go_wp2
      go_quiet (fail)
      go_wp2
      go_ret
      exact ⟨_, rfl, ⟨fun h => ⟨by simpa using h, fun i hi => hall.out i hi⟩, fun h => by simpa using h.1⟩, hn.drewN _⟩

end Go.Proofs.Ytbclgklpcbajfaa
