/- The specification's disk: Flush, Crash. -/
import Derived.Test.YtbclgklpcbajfaaD32
namespace Go.Proofs.Ytbclgklpcbajfaa
open Go.RowKit
set_option linter.unusedSimpArgs false
set_option linter.unusedVariables false

/-- What holds at the head of a round that lays waiting writes. -/
structure RLay (w1 wr : World) (b : Nat) (ow : Option Nat) (A : ADisk) (s : Nat → ByteArray) (v : Value) : Prop where
  lies : ∃ f, Raw wr b 56 3125 f ∧ RefIs wr f ow { A with safe := s } ∧ f 3120 = v
  turn : Turn (· = b) w1 wr
theorem RLay.new {w1 wr w2 : World} {b : Nat} {ow : Option Nat} {A : ADisk} {s : Nat → ByteArray} {v : Value} (h : RLay w1 wr b ow A s v) (hn : New wr w2) : RLay w1 w2 b ow A s v := by
  obtain ⟨⟨f, h1, h2, h3⟩, h4⟩ := h
  exact ⟨⟨f, h1.turn (Turn.of_new (S := fun _ => False) hn) (fun h => h), h2.turn (Turn.of_new (S := fun _ => False) hn) (fun _ _ h => h), h3⟩, h4.trans (Turn.of_new hn)⟩
theorem RLay.next {w1 wr : World} {b : Nat} {ow : Option Nat} {A : ADisk} {s : Nat → ByteArray} {v : Value} (h : RLay w1 wr b ow A s v) {n : Nat} (hl : n < 3120) (t : ByteArray) :
    RLay w1 (wr.setCell ⟨b, n, none⟩ (.string t)) b ow A (lay1 s (n, t)) v := by
  obtain ⟨⟨f, h1, h2, h3⟩, h4⟩ := h
  exact ⟨⟨_, h1.set n _, h2.lay h1 hl t, by rw [upd_other _ _ (by omega)]; exact h3⟩, h4.trans (Turn.setCell (S := (· = b)) (p := ⟨b, n, none⟩) (Turn.refl _ wr) rfl _)⟩
/-- The row of waiting writes dropped. -/
theorem RLay.drop {w1 wr : World} {b : Nat} {ow : Option Nat} {A : ADisk} {s : Nat → ByteArray} {v : Value} (h : RLay w1 wr b ow A s v) :
    RefAt (wr.setCell ⟨b, 3120, none⟩ (.slice none 0 0)) b none { A with safe := s, waits := [] } ∧ Turn (its b ow) w1 (wr.setCell ⟨b, 3120, none⟩ (.slice none 0 0)) := by
  obtain ⟨⟨f, h1, h2, h3⟩, h4⟩ := h
  obtain ⟨a, b'⟩ := h2.relaid h1 (Turn.refl _ wr) (v := .slice none 0 0) (l := []) ⟨rfl, .inl ⟨rfl, rfl⟩⟩ (fun p hp => by cases hp)
  exact ⟨a, (h4.mono fun k _ h => .inl h).trans b'⟩

set_option maxHeartbeats 4000000 in
set_option maxRecDepth 100000 in
theorem refFlush_any (b : Nat) (ow : Option Nat) (A : ADisk) (w : World) (h : RefAt w b ow A) (hb : A.falls ≤ 1000000000) (hb2 : A.acts ≤ 1000000000) (hb3 : A.waits.length ≤ 1000000000) :
    Calls Try.prog 71 #[.pointer (some ⟨b, 0, none⟩)] w (RefMoved b ow (.int .i64 (actE A)) (flushA A) w) := by
  have H := hid h
  obtain ⟨f, hr, hd⟩ := h
  have c2 := hr.cell 3122 (by omega)
  rw [hd.down] at c2
  clear hr hd
  cases hdn : A.down with
  | true =>
    have h0 : actE A = 7 := by simp [actE, hdn]
    have e2 : flushA A = A := by simp [flushA, h0, actA, hdn]
    rw [h0, e2]
    rw [hdn] at c2
    go_enter Try.func71, Try.ntmps71
    go_wp2
    go_ret
    exact ⟨rfl, ow, H.out, fun k hk => .inl hk, Turn.refl _ _⟩
  | false =>
    rw [hdn] at c2
    by_cases ha : actE A = 0
    case neg =>
      have h7 : actE A = 7 := by
        simp only [actE, hdn] at ha ⊢
        split at ha <;> simp_all
      have e2 : flushA A = actA A := by simp [flushA, h7]
      rw [h7, e2]
      go_enter Try.func71, Try.ntmps71
      go_wp2_with fail
      refine (refAct_any b ow A w H.out hdn hb hb2).mono ?_
      rintro e w1 ⟨rfl, h1, ht1⟩
      rw [decide_eq_false ha]
      go_wp2
      go_ret
      exact ⟨rfl, ow, h1, fun k hk => .inl hk, ht1.mono fun k _ h => .inl h⟩
    have HA := hid ha
    go_enter Try.func71, Try.ntmps71
    go_wp2_with fail
    refine (refAct_any b ow A w H.out hdn hb hb2).mono ?_
    rintro e w1 ⟨rfl, hd1, ht1⟩
    rw [decide_eq_true ha]
    obtain ⟨f1, hr1, hi1⟩ := hd1
    have c1 := hr1.cell 3120 (by omega)
    obtain ⟨q, k, ew, _⟩ := ref_slice hi1
    have hlt := hr1.lt
    have hle : (actA A).waits.length ≤ 1000000000 := by rw [actA_waits]; exact hb3
    rw [ew] at c1
    have HS : Hid (RLay w1 w1 b ow (actA A) (layAll ((actA A).waits.take 0) (actA A).safe) (.slice q (actA A).waits.length k)) := hid ⟨⟨f1, hr1, hi1, ew⟩, Turn.refl _ _⟩
    have HT1 := hid ht1
    clear hr1 hi1 ew ht1 ha c2 hdn
    generalize hB : actA A = B at *
    have HB := hid hB
    clear hB
    go_wp2
    go_loopw [3] (fun i wr => ∃ j : Nat, j ≤ B.waits.length ∧ i = .int .i64 j ∧ Hid (RLay w1 wr b ow B (layAll (B.waits.take j) B.safe) (.slice q B.waits.length k))) (fun i _ => B.waits.length - (intOf i).toNat)
    case atStart => exact ⟨0, Nat.zero_le _, rfl, HS⟩
    case round =>
      obtain ⟨j, hj, rfl, hL⟩ := hrel
      clear HS
      obtain ⟨⟨f2, hr2, hi2, e2⟩, ht2⟩ := hL.out
      have cw := hr2.cell 3120 (by omega)
      rw [e2] at cw
      have hbl := hr2.lt
      by_cases hlt : j < B.waits.length
      · obtain ⟨_, g, rfl, hg, d0, d1⟩ := hi2.at e2 hlt
        have hin := hi2.inside _ (List.getElem_mem hlt)
        simp only at d0 d1 hin
        have cb := hr2.cell B.waits[j].1 (by omega)
        have zb := hr2.frozen B.waits[j].1
        rw [hi2.safe _ hin] at cb
        have HN := hid ((hL.out.next hin B.waits[j].2).new (New.refl _).drew)
        have HTK := hid (layAll_take hlt B.safe)
        clear hr2 hi2 e2 hL ht2
        generalize hx : B.waits[j] = x at *
        clear hx
        go_wp2
        go_region
        all_goals
          go_wp2
          go_roundw
          case rel =>
            refine ⟨j + 1, by omega, by go_num, hid ?_⟩
            rw [HTK.out]
            exact HN.out
          case measure => simp [intOf]; omega
      · have : j = B.waits.length := by omega
        subst this
        have z2 := hr2.frozen 3120
        clear hr2 hi2 ht2 e2
        go_wp2
        go_ret
        obtain ⟨hd2, ht3⟩ := hL.out.drop
        rw [List.take_length, ← HB.out, actA_safe, actA_waits] at hd2
        refine ⟨by rw [HA.out]; rfl, none, ?_, fun k h => (by cases h), (HT1.out.mono fun k _ h => .inl h).trans ht3⟩
        simp only [flushA, HA.out, if_true]
        exact hd2

end Go.Proofs.Ytbclgklpcbajfaa
