/- disk.Same at two made disks. -/
import Derived.Test.YtbclgklpcbajfaaD20
import Derived.Test.YtbclgklpcbajfaaA2
namespace Go.Proofs.Ytbclgklpcbajfaa
open Go.RowKit
set_option linter.unusedSimpArgs false
set_option linter.unusedVariables false

theorem last_of {P : Nat → Prop} {n : Nat} (h : ∃ j, j < n ∧ P j) : ∃ j, j < n ∧ P j ∧ ∀ i, j < i → i < n → ¬ P i := by
  induction n with
  | zero => obtain ⟨j, hj, _⟩ := h; omega
  | succ n ih =>
    by_cases hn : P n
    · exact ⟨n, by omega, hn, fun i h1 h2 => by omega⟩
    · obtain ⟨j, hj, hp⟩ := h
      have : j < n := by
        rcases Nat.lt_or_ge j n with h | h
        · exact h
        · obtain rfl : j = n := by omega
          exact absurd hp hn
      obtain ⟨k, hk, h1, h2⟩ := ih ⟨j, this, hp⟩
      refine ⟨k, by omega, h1, fun i h3 h4 => ?_⟩
      rcases Nat.lt_or_ge i n with h | h
      · exact h2 i h3 h
      · obtain rfl : i = n := by omega
        exact hn

/-- The value that there returns, the same in every later world in which nothing has turned. -/
theorem there_fix (b : Nat) (ow : Option Nat) (A : ADisk) (m : Nat) (w : World) (h : DiskAt w b ow A) (hm : m < 3120) (hb3 : A.waits.length ≤ 1000000000) :
    ∃ v, Content w v (layAll A.waits A.safe m) ∧ ∀ w', New w w' → Calls Try.prog 69 #[.pointer (some ⟨b, 0, none⟩), .int .i64 m] w' fun e w'' => e = .returned v ∧ New w' w'' := by
  obtain ⟨f, hr, hi⟩ := h
  obtain ⟨xs, hx, hc⟩ := hi.waits.cells
  have c1 := hr.cell 3121 (by omega)
  have c2 := hr.cell (1 + m) (by omega)
  have hu := hi.safe m hm
  obtain ⟨q, k, ew, _⟩ := waits_slice hi.waits
  obtain ⟨g, hq, hg, hcs⟩ : ∃ g, (0 < A.waits.length → q = some ⟨g, 0, none⟩) ∧ g < w.heap.size ∧ ∀ j, j < A.waits.length → w.cell? ⟨g, j * 2, none⟩ = xs[j * 2]? ∧ w.cell? ⟨g, j * 2 + 1, none⟩ = xs[j * 2 + 1]? := by
    rcases Nat.eq_zero_or_pos A.waits.length with h0 | h0
    · exact ⟨b, fun h => by omega, hr.lt, fun j hj => by omega⟩
    · obtain ⟨g, cap, e, _, hg⟩ := hx.form h0
      rw [e] at ew hx
      injection ew with e1 _ e2
      exact ⟨g, fun _ => e1.symm, hg, fun j hj => ⟨hx.cellAt _ (by omega), hx.cellAt _ (by omega)⟩⟩
  rw [ew] at c1
  have hlt := hr.lt
  have run : ∀ w', New w w' → Calls Try.prog 69 #[.pointer (some ⟨b, 0, none⟩), .int .i64 m] w' fun e w'' =>
      (((∀ j, j < A.waits.length → (cellsOf A.waits xs).num j ≠ m) ∧ e = .returned (f (1 + m))) ∨ (∃ j, j < A.waits.length ∧ (cellsOf A.waits xs).num j = m ∧ (∀ i, j < i → i < A.waits.length → (cellsOf A.waits xs).num i ≠ m) ∧ e = .returned ((cellsOf A.waits xs).bytes j))) ∧ New w' w'' := by
    intro w' hn
    refine (callsIn_wide (n := 6)).1 ?_
    refine there_in 6 (Nat.le_refl _) b m g _ k q (f (1 + m)) (cellsOf A.waits xs) w' hm hb3 hq (Nat.lt_of_lt_of_le hg hn.size) (Nat.lt_of_lt_of_le hlt hn.size) (by obtain ⟨⟨p, c, e, _⟩, _⟩ := hu; exact ⟨_, _, _, e⟩) (by rw [hn.cell _ _ hlt]; exact c1) (by rw [hn.cell _ _ hlt]; exact c2) (fun j hj => ?_)
    obtain ⟨_, e1, e2, _⟩ := cellsOf_at hc hj
    obtain ⟨d1, d2⟩ := hcs j hj
    exact ⟨(hn.cell _ _ hg).trans (d1.trans e1), (hn.cell _ _ hg).trans (d2.trans e2)⟩
  by_cases hex : ∃ j, j < A.waits.length ∧ (cellsOf A.waits xs).num j = m
  · obtain ⟨j, hj, hjm, hl⟩ := last_of hex
    refine ⟨(cellsOf A.waits xs).bytes j, ?_, fun w' hn => (run w' hn).mono ?_⟩
    · rw [layAll_last _ _ _ j hj (by have := (cellsOf_at hc hj).1; omega) (fun i hi1 hi2 e => hl i hi1 hi2 (by rw [(cellsOf_at hc hi2).1, e]))]
      exact (cellsOf_at hc hj).2.2.2
    · rintro e w'' ⟨⟨hno, _⟩ | ⟨i, hi', him, hil, rfl⟩, hnew⟩
      · exact absurd hjm (hno j hj)
      · have : i = j := by
          rcases Nat.lt_trichotomy i j with h | h | h
          · exact absurd hjm (hil j h hj)
          · exact h
          · exact absurd him (hl i h hi')
        subst this
        exact ⟨rfl, hnew⟩
  · refine ⟨f (1 + m), ?_, fun w' hn => (run w' hn).mono ?_⟩
    · rw [layAll_none]
      · exact hu
      · intro p hp e
        obtain ⟨i, hi', rfl⟩ := List.mem_iff_getElem.1 hp
        exact hex ⟨i, hi', by rw [(cellsOf_at hc hi').1, e]⟩
    · rintro e w'' ⟨⟨hno, rfl⟩ | ⟨i, hi', him, _⟩, hnew⟩
      · exact ⟨rfl, hnew⟩
      · exact absurd ⟨i, hi', him⟩ hex

/-- Are two disks the same? -/
def SameD (A B : ADisk) : Prop := A.down = B.down ∧ ∀ i, i < 3120 → A.safe i = B.safe i ∧ layAll A.waits A.safe i = layAll B.waits B.safe i

set_option maxHeartbeats 4000000 in
set_option maxRecDepth 100000 in
theorem same_any (b c : Nat) (ow oc : Option Nat) (A B : ADisk) (w : World) (h : DiskAt w b ow A) (h' : DiskAt w c oc B) (hA : A.waits.length ≤ 1000000000) (hB : B.waits.length ≤ 1000000000) :
    Calls Try.prog 31 #[.pointer (some ⟨b, 0, none⟩), .pointer (some ⟨c, 0, none⟩)] w fun e w' => ∃ x : Bool, e = .returned (.bool x) ∧ (x = true ↔ SameD A B) ∧ New w w' := by
  have H1 := hid h
  have H2 := hid h'
  obtain ⟨f, hr, hd⟩ := h
  obtain ⟨f', hr', hd'⟩ := h'
  have a0 := hr.cell 0 (by omega)
  have b0 := hr'.cell 0 (by omega)
  have a1 := hr.cell 3122 (by omega)
  have b1 := hr'.cell 3122 (by omega)
  rw [hd.made] at a0
  rw [hd'.made] at b0
  rw [hd.down] at a1
  rw [hd'.down] at b1
  have lb := hr.lt
  have lc := hr'.lt
  have R1 := hid hr
  have R2 := hid hr'
  have D1 := hid hd
  have D2 := hid hd'
  have LA := hid hA
  have LB := hid hB
  clear hr hr' hd hd' hA hB
  by_cases hdn : A.down = B.down
  · have e1 : (A.down != B.down) = false := by simp [hdn]
    go_enter Try.func31, Try.ntmps31
    go_wp2_with fail
    refine (none_no b w a0).mono ?_
    rintro e w' ⟨rfl, rfl⟩
    go_wp2_with fail
    refine (none_no c _ b0).mono ?_
    rintro e w' ⟨rfl, rfl⟩
    go_wp2_with fail
    go_quiet (fail)
    have a1' := a1
    go_wp2
    go_loopw [5, 27] (fun _ i wr => ∃ j : Nat, j ≤ 3120 ∧ i = .int .i64 j ∧ New w wr ∧ Hid (∀ k, k < j → A.safe k = B.safe k ∧ layAll A.waits A.safe k = layAll B.waits B.safe k)) (fun _ i _ => 3120 - (intOf i).toNat)
    case atStart => exact ⟨0, Nat.zero_le _, rfl, (New.refl w).drewN _, hid fun k hk => absurd hk (Nat.not_lt_zero _)⟩
    case round =>
      obtain ⟨j, hj, rfl, hn, hall⟩ := hrel
      by_cases hlt : j < 3120
      · obtain ⟨v1, hv1, call1⟩ := there_fix b ow A j wr (H1.out.new hn) hlt LA.out
        obtain ⟨v2, hv2, call2⟩ := there_fix c oc B j wr (H2.out.new hn) hlt LB.out
        have c1 := (R1.out.turn (Turn.of_new (S := fun _ => False) hn) (fun h => h)).cell (1 + j) (by omega)
        have c2 := (R2.out.turn (Turn.of_new (S := fun _ => False) hn) (fun h => h)).cell (1 + j) (by omega)
        have s1 := (D1.out.safe j hlt).new hn
        have s2 := (D2.out.safe j hlt).new hn
        obtain ⟨⟨p1, k1, e1, _⟩, _⟩ := id s1
        obtain ⟨⟨p2, k2, e2, _⟩, _⟩ := id s2
        rw [e1] at c1 s1
        rw [e2] at c2 s2
        obtain ⟨⟨p3, k3, rfl, _⟩, _⟩ := id hv1
        obtain ⟨⟨p4, k4, rfl, _⟩, _⟩ := id hv2
        have lb' : b < wr.heap.size := Nat.lt_of_lt_of_le lb hn.size
        have lc' : c < wr.heap.size := Nat.lt_of_lt_of_le lc hn.size
        have C1 : ∀ p : After wr, p.w.cell? ⟨b, 1 + j, none⟩ = some (.slice p1 (A.safe j).size k1) := fun p => by rw [p.new.cell _ _ lb']; exact c1
        have C2 : ∀ p : After wr, p.w.cell? ⟨c, 1 + j, none⟩ = some (.slice p2 (B.safe j).size k2) := fun p => by rw [p.new.cell _ _ lc']; exact c2
        have Q1 : ∀ p : After wr, Calls Try.prog 59 #[.slice p1 (A.safe j).size k1, .slice p2 (B.safe j).size k2] p.w fun e w' => e = .returned (.bool (decide (A.safe j = B.safe j))) ∧ p.w = w' := fun p => bytesEqual_any _ _ _ _ _ (s1.new p.new).1 (s2.new p.new).1
        have Q2 : ∀ p : After wr, Calls Try.prog 59 #[.slice p3 (layAll A.waits A.safe j).size k3, .slice p4 (layAll B.waits B.safe j).size k4] p.w fun e w' => e = .returned (.bool (decide (layAll A.waits A.safe j = layAll B.waits B.safe j))) ∧ p.w = w' := fun p => bytesEqual_any _ _ _ _ _ (hv1.new p.new).1 (hv2.new p.new).1
        have HALL := hall
        clear hall c1 c2 s1 s2 e1 e2 hv1 hv2
        by_cases h1 : A.safe j = B.safe j
        · by_cases h2 : layAll A.waits A.safe j = layAll B.waits B.safe j
          · rw [decide_eq_true h1] at Q1
            rw [decide_eq_true h2] at Q2
            have G1 := hid h1
            have G2 := hid h2
            clear h1 h2
            go_wp2_with fail
            refine wp_region_new (by kernel_rfl) (by kernel_rfl) ?_
            repeat (go_big_quiet_step (first
              | (with_reducible refine calls_after_same (Q1 _))
              | (with_reducible refine calls_after_same (Q2 _))
              | (with_reducible refine calls_after (call1 _ (After.new _)))
              | (with_reducible refine calls_after (call2 _ (After.new _)))))
            refine wpQuiet_nil ?_
            rintro _ ⟨q, rfl⟩
            go_wp2
            go_roundw
            case rel =>
              refine ⟨j + 1, by omega, by go_num, hn.trans q.new, hid fun i hi => ?_⟩
              rcases Nat.lt_or_ge i j with h | h
              · exact HALL.out i h
              · obtain rfl : i = j := by omega
                exact ⟨G1.out, G2.out⟩
            case measure => simp [intOf]; omega
          · rw [decide_eq_true h1] at Q1
            rw [decide_eq_false h2] at Q2
            have G2 := hid h2
            clear h1 h2
            go_wp2_with fail
            refine wp_region_new (by kernel_rfl) (by kernel_rfl) ?_
            repeat (go_big_quiet_step (first
              | (with_reducible refine calls_after_same (Q1 _))
              | (with_reducible refine calls_after_same (Q2 _))
              | (with_reducible refine calls_after (call1 _ (After.new _)))
              | (with_reducible refine calls_after (call2 _ (After.new _)))))
            refine wpQuiet_nil ?_
            rintro _ ⟨q, rfl⟩
            go_wp2
            go_ret
            exact ⟨false, rfl, ⟨fun h => absurd h (by decide), fun h => absurd (h.2 j hlt).2 G2.out⟩, hn.trans q.new⟩
        · rw [decide_eq_false h1] at Q1
          have G1 := hid h1
          clear h1 Q2
          go_wp2_with fail
          refine wp_region_new (by kernel_rfl) (by kernel_rfl) ?_
          repeat (go_big_quiet_step (first
            | (with_reducible refine calls_after_same (Q1 _))
            | (with_reducible refine calls_after_same (Q2 _))
            | (with_reducible refine calls_after (call1 _ (After.new _)))
            | (with_reducible refine calls_after (call2 _ (After.new _)))))
          refine wpQuiet_nil ?_
          rintro _ ⟨q, rfl⟩
          go_wp2
          go_ret
          exact ⟨false, rfl, ⟨fun h => absurd h (by decide), fun h => absurd (h.2 j hlt).1 G1.out⟩, hn.trans q.new⟩
      · obtain rfl : j = 3120 := by omega
        go_wp2
        go_ret
        exact ⟨true, rfl, ⟨fun _ => ⟨hdn, fun i hi => hall.out i hi⟩, fun _ => rfl⟩, hn⟩
  · have e1 : (A.down == B.down) = false := by simp [hdn]
    have HDN := hid hdn
    clear hdn
    go_enter Try.func31, Try.ntmps31
    go_wp2_with fail
    refine (none_no b w a0).mono ?_
    rintro e w' ⟨rfl, rfl⟩
    go_wp2_with fail
    refine (none_no c _ b0).mono ?_
    rintro e w' ⟨rfl, rfl⟩
    go_wp2_with fail
    go_quiet (fail)
    go_wp2
    go_ret
    exact ⟨false, rfl, ⟨fun h => absurd h (by decide), fun h => absurd h.1 HDN.out⟩, (New.refl w).drewN _⟩

end Go.Proofs.Ytbclgklpcbajfaa
