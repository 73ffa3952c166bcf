/- DiskSame's walk (printed by dsame.py). -/
import Derived.Test.YtbclgklpcbajfaaD42
namespace Go.Proofs.Ytbclgklpcbajfaa
open Go.RowKit
set_option linter.unusedSimpArgs false
set_option linter.unusedVariables false

/-- Two pairs side by side. -/
structure Quad (w a : World) (b : Nat) (ow : Option Nat) (A : ADisk) (c : Nat) (oc : Option Nat) (R : ADisk) (b2 : Nat) (ow2 : Option Nat) (A2 : ADisk) (c2 : Nat) (oc2 : Option Nat) (R2 : ADisk) (n m : Nat) : Prop where
  one : Pair w a b ow A c oc R
  two : Pair w a b2 ow2 A2 c2 oc2 R2
  off : ∀ k, both b ow c oc k → ¬ both b2 ow2 c2 oc2 k
  like1 : Like A R
  like2 : Like A2 R2
  lim1 : Lim A n
  lim2 : Lim A2 m
theorem Quad.swap {w a : World} {b : Nat} {ow : Option Nat} {A : ADisk} {c : Nat} {oc : Option Nat} {R : ADisk} {b2 : Nat} {ow2 : Option Nat} {A2 : ADisk} {c2 : Nat} {oc2 : Option Nat} {R2 : ADisk} {n m : Nat} (h : Quad w a b ow A c oc R b2 ow2 A2 c2 oc2 R2 n m) : Quad w a b2 ow2 A2 c2 oc2 R2 b ow A c oc R m n :=
  ⟨h.two, h.one, fun k h1 h2 => h.off k h2 h1, h.like2, h.like1, h.lim2, h.lim1⟩
theorem Quad.does {w a a' : World} {b : Nat} {ow : Option Nat} {A : ADisk} {c : Nat} {oc : Option Nat} {R : ADisk} {b2 : Nat} {ow2 : Option Nat} {A2 : ADisk} {c2 : Nat} {oc2 : Option Nat} {R2 : ADisk} {n m : Nat} (h : Quad w a b ow A c oc R b2 ow2 A2 c2 oc2 R2 n m)
    {b' : Nat} {ow' : Option Nat} {A' : ADisk} {c' : Nat} {oc' : Option Nat} {R' : ADisk} (hp : Pair w a' b' ow' A' c' oc' R') (hl : Like A' R') (hm : Lim A' (n + 1)) (hs : Step a a' (both b ow c oc) (both b' ow' c' oc')) : Quad w a' b' ow' A' c' oc' R' b2 ow2 A2 c2 oc2 R2 (n + 1) m := by
  obtain ⟨h2, ho⟩ := h.two.beside hs hp.new h.one.apart h.off
  exact ⟨hp, h2, ho, hl, h.like2, hm, h.lim2⟩
theorem Quad.newer {w a a' : World} {b : Nat} {ow : Option Nat} {A : ADisk} {c : Nat} {oc : Option Nat} {R : ADisk} {b2 : Nat} {ow2 : Option Nat} {A2 : ADisk} {c2 : Nat} {oc2 : Option Nat} {R2 : ADisk} {n m : Nat} (h : Quad w a b ow A c oc R b2 ow2 A2 c2 oc2 R2 n m) (hn : New a a') : Quad w a' b ow A c oc R b2 ow2 A2 c2 oc2 R2 n m :=
  ⟨h.one.newer hn, h.two.newer hn, h.off, h.like1, h.like2, h.lim1, h.lim2⟩
theorem Quad.made (w : World) : Quad w ((((w.alloc (.cells newCells 69)).alloc (.cells Try.zeroCells56 56)).alloc (.cells newCells 69)).alloc (.cells Try.zeroCells56 56)) w.heap.size none newA (w.heap.size + 1) none newA (w.heap.size + 2) none newA (w.heap.size + 3) none newA 0 0 := by
  have p1 := Pair.made w w (New.refl w)
  have hn : New ((w.alloc (.cells newCells 69)).alloc (.cells Try.zeroCells56 56)) ((((w.alloc (.cells newCells 69)).alloc (.cells Try.zeroCells56 56)).alloc (.cells newCells 69)).alloc (.cells Try.zeroCells56 56)) := ((New.refl _).alloc _ _).alloc _ _
  have p2 := Pair.made w ((w.alloc (.cells newCells 69)).alloc (.cells Try.zeroCells56 56)) p1.new
  rw [show ((w.alloc (.cells newCells 69)).alloc (.cells Try.zeroCells56 56)).heap.size = w.heap.size + 2 by rw [World.size_alloc, World.size_alloc]] at p2
  refine ⟨p1.newer hn, p2, fun k h1 h2 => ?_, Like.refl _, Like.refl _, lim_new, lim_new⟩
  rcases h1 with (rfl | h1) | (rfl | h1)
  · rcases h2 with (h2 | h2) | (h2 | h2)
    · omega
    · cases h2
    · omega
    · cases h2
  · cases h1
  · rcases h2 with (h2 | h2) | (h2 | h2)
    · omega
    · cases h2
    · omega
    · cases h2
  · cases h1

set_option maxHeartbeats 8000000 in
set_option maxRecDepth 100000 in
theorem dsame_law (v u : Value) (l l2 : List Deed) (w : World) (h : Deeds w v l) (hN : ∀ a ∈ l, a.n ≤ 2 ^ 63 - 1) (h2 : Deeds w u l2) (hN2 : ∀ a ∈ l2, a.n ≤ 2 ^ 63 - 1) :
    Calls Try.prog 7 #[v, u] w fun e w' => e = .returned (.bool true) ∧ New w w' := by
  have H := hid h
  have H2 := hid h2
  have HNN := hid hN
  have HNN2 := hid hN2
  clear hN hN2
  obtain ⟨gp, gc, rfl, g1, g2, _⟩ := h
  obtain ⟨up, uc, rfl, u1, u2, _⟩ := h2
  unfold maxLen at g2 u2
  cases hf : fewB l with
  | false =>
    go_enter Try.func7, Try.ntmps7
    go_wp2_with fail
    refine (few_any _ l _ H.out).mono ?_
    rintro e w' ⟨rfl, rfl⟩
    rw [hf]
    go_wp2_with fail
    refine (awake_any _).mono ?_
    rintro e w' ⟨rfl, hn⟩
    go_wp2
    go_ret
    exact ⟨rfl, hn⟩
  | true =>
    have hl : l.length ≤ 40 := by simp [fewB] at hf; omega
    cases hf2 : fewB l2 with
    | false =>
      go_enter Try.func7, Try.ntmps7
      go_wp2_with fail
      refine (few_any _ l _ H.out).mono ?_
      rintro e w' ⟨rfl, rfl⟩
      rw [hf]
      go_wp2_with fail
      refine (few_any _ l2 _ H2.out).mono ?_
      rintro e w' ⟨rfl, rfl⟩
      rw [hf2]
      go_wp2_with fail
      refine (awake_any _).mono ?_
      rintro e w' ⟨rfl, hn⟩
      go_wp2
      go_ret
      exact ⟨rfl, hn⟩
    | true =>
      have hl2 : l2.length ≤ 40 := by simp [fewB] at hf2; omega
      by_cases hsum : l.length + l2.length ≤ 40
      case neg =>
        go_enter Try.func7, Try.ntmps7
        go_wp2_with fail
        refine (few_any _ l _ H.out).mono ?_
        rintro e w' ⟨rfl, rfl⟩
        rw [hf]
        go_wp2_with fail
        refine (few_any _ l2 _ H2.out).mono ?_
        rintro e w' ⟨rfl, rfl⟩
        rw [hf2]
        have t1 : decide ((40 : Int) < (l.length : Int) + (l2.length : Int)) = true := by simp; omega
        have HSUM := hid hsum
        clear hsum
        go_wp2_with fail
        refine (awake_any _).mono ?_
        rintro e w' ⟨rfl, hn⟩
        go_wp2
        go_ret
        exact ⟨rfl, hn⟩
      go_enter Try.func7, Try.ntmps7
      go_wp2_with fail
      refine (few_any _ l _ H.out).mono ?_
      rintro e w' ⟨rfl, rfl⟩
      rw [hf]
      go_wp2_with fail
      refine (few_any _ l2 _ H2.out).mono ?_
      rintro e w' ⟨rfl, rfl⟩
      rw [hf2]
      have t1 : decide ((40 : Int) < (l.length : Int) + (l2.length : Int)) = false := by simp; omega
      go_wp2_with fail
      refine (new_any _).mono ?_
      rintro e w1 ⟨rfl, hw1⟩
      go_wp2_with fail
      refine (new_any _).mono ?_
      rintro e w2 ⟨rfl, hw2⟩
      clear t1
      go_wp2_with fail
      subst hw2
      subst hw1
      have S1 := hid (Quad.made w)
      generalize hW : (((w.alloc (Obj.cells newCells 69)).alloc (Obj.cells Try.zeroCells56 56)).alloc (Obj.cells newCells 69)).alloc (Obj.cells Try.zeroCells56 56) = W1 at *
      clear hW
      go_loopw [5, 6, 9, 10] (fun d r _ i wr => ∃ (j b : Nat) (ow : Option Nat) (A : ADisk) (c : Nat) (oc : Option Nat) (R : ADisk), j ≤ l.length ∧ i = .int .i64 j ∧ d = .pointer (some ⟨b, 0, none⟩) ∧ r = .pointer (some ⟨c, 0, none⟩) ∧ Hid (Quad w wr b ow A c oc R (w.heap.size + 2) none newA (w.heap.size + 3) none newA j 0)) (fun _ _ _ i _ => l.length - (intOf i).toNat)
      case atStart => exact ⟨0, _, _, _, _, _, _, Nat.zero_le _, rfl, rfl, rfl, S1⟩
      case round =>
        clear S1
        obtain ⟨j, b, ow, A, c, oc, R, hj, rfl, rfl, rfl, hT⟩ := hrel
        by_cases hlt : j < l.length
        · obtain ⟨b0, o0, rfl, hb, sp, sc, kp, kc, hact⟩ := H.out.at hlt
          obtain ⟨c0, c1, c2', c3, c4, hs, hk, hso, hko, ⟨s1, s2⟩, k1, k2⟩ := hact wr hT.out.one.new
          have hbw : b0 < wr.heap.size := Nat.lt_of_lt_of_le hb hT.out.one.new.size
          have hxn : (l[j]).n ≤ 2 ^ 63 - 1 := HNN.out _ (List.getElem_mem hlt)
          clear hact
          generalize hx : l[j] = x at *
          clear hx
          have HCALL := hid (does_any w wr b c ow oc A R j x sp kp sc kc hT.out.one hT.out.like1 hT.out.lim1 (by omega) hs hk hso hko ⟨s1, s2⟩ ⟨k1, k2⟩ hxn)
          clear hs hk hso hko hxn
          go_wp2_with fail
          refine HCALL.out.mono ?_
          rintro e w2 ⟨b', ow', A', c', oc', R', rfl, P2, L2, M2, S2⟩
          have HQ := hid (hT.out.does P2 L2 M2 S2)
          clear P2 L2 M2 S2 HCALL
          go_wp2
          go_roundw
          case rel => exact ⟨j + 1, b', ow', A', c', oc', R', by omega, by go_num, rfl, rfl, HQ⟩
          case measure => simp [intOf]; omega
        · obtain rfl : j = l.length := by omega
          obtain ⟨wo, rfl⟩ : ∃ wo : World, wo = wr := ⟨_, rfl⟩
          go_wp2
          go_loopw [7, 8, 9, 11] (fun d r _ i wr => ∃ (j b2 : Nat) (ow2 : Option Nat) (A2 : ADisk) (c2 : Nat) (oc2 : Option Nat) (R2 : ADisk), j ≤ l2.length ∧ i = .int .i64 j ∧ d = .pointer (some ⟨b2, 0, none⟩) ∧ r = .pointer (some ⟨c2, 0, none⟩) ∧ Hid (Quad w wr b ow A c oc R b2 ow2 A2 c2 oc2 R2 l.length j)) (fun _ _ _ i _ => l2.length - (intOf i).toNat)
          case atStart => exact ⟨0, _, _, _, _, _, _, Nat.zero_le _, rfl, rfl, rfl, hT⟩
          case round =>
            clear hT
            obtain ⟨j, b2, ow2, A2, c2, oc2, R2, hj, rfl, rfl, rfl, hT⟩ := hrel
            by_cases hlt : j < l2.length
            · obtain ⟨b0, o0, rfl, hb, sp, sc, kp, kc, hact⟩ := H2.out.at hlt
              obtain ⟨c0, c1, c2', c3, c4, hs, hk, hso, hko, ⟨s1, s2⟩, k1, k2⟩ := hact wr hT.out.one.new
              have hbw : b0 < wr.heap.size := Nat.lt_of_lt_of_le hb hT.out.one.new.size
              have hxn : (l2[j]).n ≤ 2 ^ 63 - 1 := HNN2.out _ (List.getElem_mem hlt)
              clear hact
              generalize hx : l2[j] = x at *
              clear hx
              have HCALL := hid (does_any w wr b2 c2 ow2 oc2 A2 R2 j x sp kp sc kc hT.out.two hT.out.like2 hT.out.lim2 (by omega) hs hk hso hko ⟨s1, s2⟩ ⟨k1, k2⟩ hxn)
              clear hs hk hso hko hxn
              go_wp2_with fail
              refine HCALL.out.mono ?_
              rintro e w2 ⟨b', ow', A', c', oc', R', rfl, P2, L2, M2, S2⟩
              have HQ := hid ((hT.out.swap.does P2 L2 M2 S2).swap)
              clear P2 L2 M2 S2 HCALL
              go_wp2
              go_roundw
              case rel => exact ⟨j + 1, b', ow', A', c', oc', R', by omega, by go_num, rfl, rfl, HQ⟩
              case measure => simp [intOf]; omega
            · obtain rfl : j = l2.length := by omega
              have W1 : Hid (A.waits.length ≤ 1000000000 ∧ A2.waits.length ≤ 1000000000 ∧ R.waits.length ≤ 1000000000 ∧ R2.waits.length ≤ 1000000000) := hid (by
                have a := hT.out.lim1.waits
                have b := hT.out.lim2.waits
                have c := (hT.out.like1.lim hT.out.lim1).waits
                have d := (hT.out.like2.lim hT.out.lim2).waits
                exact ⟨by omega, by omega, by omega, by omega⟩)
              go_wp2_with fail
              refine (same_any b b2 ow ow2 A A2 _ hT.out.one.disk hT.out.two.disk W1.out.1 W1.out.2.1).mono ?_
              rintro e w3 ⟨x, rfl, hx, hn3⟩
              have Q3 := hid (hT.out.newer hn3)
              have HX := hid hx
              clear hx hn3 hT
              go_wp2_with fail
              refine (refSame_any c c2 oc oc2 R R2 _ Q3.out.one.ref Q3.out.two.ref W1.out.2.2.1 W1.out.2.2.2).mono ?_
              rintro e w4 ⟨y, rfl, hy, hn4⟩
              have Q4 := hid (Q3.out.newer hn4)
              obtain rfl : y = x := by
                rw [Bool.eq_iff_iff, hy, HX.out]
                exact Q3.out.like1.same Q3.out.like2
              clear hy hn4 Q3
              have e0 : ∀ z : Bool, (z == z) = true := by simp
              go_wp2_with fail
              refine (copy_any b ow A _ Q4.out.one.disk W1.out.1).mono ?_
              rintro e w5 ⟨b5, ow5, rfl, h51, h52, _, _⟩
              have Q5 := hid (Q4.out.newer h52)
              have H51 := hid h51
              clear h51 h52 Q4
              go_wp2_with fail
              refine (same_any b b5 ow ow5 A A _ Q5.out.one.disk H51.out W1.out.1 W1.out.1).mono ?_
              rintro e w6 ⟨z, rfl, hz, hn6⟩
              obtain rfl : z = true := hz.2 (same_refl A)
              have HN6 := hid (Q5.out.one.new.trans hn6)
              clear hz hn6 Q5
              go_wp2_with fail
              refine (awake_any _).mono ?_
              rintro e w7 ⟨rfl, hn7⟩
              go_wp2
              go_ret
              exact ⟨rfl, HN6.out.trans hn7⟩

end Go.Proofs.Ytbclgklpcbajfaa
