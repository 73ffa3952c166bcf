/- DiskArms' walk (printed by arms.py). -/
import Derived.Test.YtbclgklpcbajfaaD25
namespace Go.Proofs.Ytbclgklpcbajfaa
open Go.RowKit
set_option linter.unusedSimpArgs false
set_option linter.unusedVariables false

theorem Armed.later {A : ADisk} {i m d : Nat} (h : Armed A i m d) : Armed A (i + 1) m d := { h with di := by have := h.di; omega, waits := by have := h.waits; omega }

set_option maxHeartbeats 8000000 in
set_option maxRecDepth 100000 in
theorem arms_law (v : Value) (l : List Deed) (n : Int) (w : World) (h : Deeds w v l) (hn0 : 0 ≤ n ∧ n ≤ 255) :
    Calls Try.prog 6 #[v, .int .u8 n] w fun e w' => e = .returned (.bool true) ∧ New w w' := by
  have H := hid h
  obtain ⟨gp, gc, rfl, g1, g2, _⟩ := h
  unfold maxLen at g2
  cases hf : fewB l with
  | false =>
    go_enter Try.func6, Try.ntmps6
    go_wp2_with fail
    refine (few_any _ l _ H.out).mono ?_
    rintro e w' ⟨rfl, rfl⟩
    rw [hf]
    go_wp2_with fail
    refine (awake_any _).mono ?_
    rintro e w' ⟨rfl, hn⟩
    go_wp2
    go_ret
    exact ⟨rfl, hn⟩
  | true =>
    by_cases hl : l.length ≤ 30
    case neg =>
      go_enter Try.func6, Try.ntmps6
      go_wp2_with fail
      refine (few_any _ l _ H.out).mono ?_
      rintro e w' ⟨rfl, rfl⟩
      rw [hf]
      have HL := hid hl
      have t1 : decide ((30 : Int) < (l.length : Int)) = true := by simp; omega
      clear hl
      go_wp2_with fail
      refine (awake_any _).mono ?_
      rintro e w' ⟨rfl, hn⟩
      go_wp2
      go_ret
      exact ⟨rfl, hn⟩
    go_enter Try.func6, Try.ntmps6
    go_wp2_with fail
    refine (few_any _ l _ H.out).mono ?_
    rintro e w' ⟨rfl, rfl⟩
    rw [hf]
    have t1 : decide ((30 : Int) < (l.length : Int)) = false := by simp; omega
    obtain ⟨m, hm, hm0, hm1⟩ : ∃ m : Nat, 1 + n % 20 = (m : Int) ∧ 0 < m ∧ m ≤ 20 := ⟨(1 + n % 20).toNat, by omega, by omega, by omega⟩
    go_wp2_with fail
    refine (new_any _).mono ?_
    rintro e w1 ⟨rfl, hw1⟩
    have M1 := Mine.made w w (New.refl w)
    rw [← hw1] at M1
    have HM1 := hid M1
    clear hw1 M1 t1
    go_wp2_with fail
    refine (arm_any w.heap.size none newA m _ HM1.out.disk (by omega)).mono ?_
    intro e w2 h2
    obtain ⟨rfl, M2⟩ := HM1.out.back h2
    have S2 := hid (And.intro M2 (armed_new m hm0))
    clear h2 M2 HM1
    go_wp2
    go_loopw [7, 8, 9, 10, 11, 12, 13] (fun dn i _ _ _ _ _ wr => ∃ (j d : Nat) (ow : Option Nat) (A : ADisk), j ≤ l.length ∧ i = .int .i64 j ∧ dn = .int .i64 d ∧ Hid (Mine w wr w.heap.size ow A ∧ Armed A j m d)) (fun _ i _ _ _ _ _ _ => l.length - (intOf i).toNat)
    case atStart => exact ⟨0, 0, none, _, Nat.zero_le _, rfl, rfl, S2⟩
    case round =>
      clear S2
      obtain ⟨j, d, ow, A, hj, rfl, rfl, hT⟩ := hrel
      by_cases hlt : j < l.length
      · obtain ⟨b, o, rfl, hb, sp, sc, kp, kc, hact⟩ := H.out.at hlt
        obtain ⟨c0, c1, c2, c3, c4, hs, _, hold, _, ⟨s1, s2⟩, k1, k2⟩ := hact wr hT.out.1.new
        have HOLD := hid hold
        have HS := hid hs
        have hbw : b < wr.heap.size := Nat.lt_of_lt_of_le hb hT.out.1.new.size
        clear hs hold hact
        generalize hx : l[j] = x at *
        clear hx
        have HARM := hid hT.out.2
        have HWB : Hid (A.waits.length ≤ 1000000000) := by have := hT.out.2.waits; exact hid (by omega)
        have hdj := hT.out.2.di
        go_wp2_with fail
        have M := hid (hT.out.1.newer ((New.refl wr).alloc #[.int .i64 x.kind, .int .i64 x.block, .int .i64 x.n, .slice sp x.bytes.size sc, .slice kp x.keep.length kc] 37))
        refine (copy_any w.heap.size ow A _ M.out.disk HWB.out).mono ?_
        intro e w2 h2
        obtain ⟨c, oc, rfl, T2, hn2⟩ := M.out.copied h2
        have ml := hn2.made.1
        have HT2 := hid T2
        have HN2 := hid hn2
        clear h2 T2 hn2 hT M
        go_wp2_with fail
        refine (acts_any w.heap.size ow A _ HT2.out.one.disk).mono ?_
        rintro e w' ⟨rfl, rfl⟩
        rw [HARM.out.acts]
        go_wp2_with fail
        refine (waiting_any w.heap.size ow A _ HT2.out.one.disk).mono ?_
        rintro e w' ⟨rfl, rfl⟩
        by_cases e3 : (IntKind.u64.wrap x.kind).tmod 3 = 2
        · have t3 : ((IntKind.u64.wrap x.kind).tmod 3 == 2) = true := by simp [e3]
          clear e3
          go_wp2_with fail
          refine (flush_any w.heap.size ow A _ HT2.out.one.disk ?_ ?_ ?_).mono ?_
          · have := HARM.out.falls; omega
          · have := HARM.out.acts; have := HARM.out.di; omega
          · exact HWB.out
          intro e w3 h3
          obtain ⟨ow3, rfl, T3, _⟩ := HT2.out.moved h3
          have HT3 := hid T3
          have ho := HARM.out.flush
          clear h3 T3 HT2
          generalize actE A = E1 at *
          generalize flushA A = A1 at *
          cases ho with
          | bad =>
            go_wp2_with fail
            refine (same_any w.heap.size c ow3 oc _ _ _ HT3.out.one.disk HT3.out.two.disk HWB.out HWB.out).mono ?_
            rintro e w7 ⟨x7, rfl, hx7, hn7⟩
            obtain rfl : x7 = true := hx7.2 (same_refl A)
            have HM7 := hid (HT3.out.one.newer hn7)
            clear hx7 hn7
            go_wp2
            go_roundw
            case rel => exact ⟨j + 1, d, ow3, A, by omega, by go_num, rfl, hid ⟨HM7.out, HARM.out.later⟩⟩
            case measure => simp [intOf]; omega
          | fall hfall =>
            have q1 : decide ((d : Int) < (m : Int) - 1) = false := by simp; omega
            have HF := hid hfall
            clear hfall
            go_wp2_with fail
            refine (down_any w.heap.size ow3 _ _ HT3.out.one.disk).mono ?_
            rintro e w4 ⟨rfl, rfl⟩
            go_wp2_with fail
            refine (waiting_any w.heap.size ow3 _ _ HT3.out.one.disk).mono ?_
            rintro e w4 ⟨rfl, rfl⟩
            go_wp2_with fail
            refine (acts_any w.heap.size ow3 _ _ HT3.out.one.disk).mono ?_
            rintro e w4 ⟨rfl, rfl⟩
            have ea : ({ A with armed := 0, down := true, falls := A.falls + 1 } : ADisk).acts = d := HARM.out.acts
            rw [ea]
            go_wp2_with fail
            refine (start_any w.heap.size ow3 _ _ HT3.out.one.disk).mono ?_
            intro e w5 h5
            obtain ⟨rfl, T5, _⟩ := HT3.out.back h5
            have HT5 := hid T5
            clear h5 T5
            go_wp2_with fail
            refine (start_any c oc A _ HT5.out.two.disk).mono ?_
            intro e w6 h6
            obtain ⟨rfl, T6, _⟩ := HT5.out.swap.back h6
            have HT6 := hid T6.swap
            clear h6 T6
            go_wp2_with fail
            refine (same_any w.heap.size c ow3 oc _ _ _ HT6.out.one.disk HT6.out.two.disk HWB.out HWB.out).mono ?_
            rintro e w7 ⟨x7, rfl, hx7, hn7⟩
            obtain rfl : x7 = true := hx7.2 (same_fell A (A.falls + 1) 0)
            have HN7 := hid (HT6.out.one.new.trans hn7)
            clear hx7 hn7
            go_wp2_with fail
            refine (awake_any _).mono ?_
            rintro e w8 ⟨rfl, hn8⟩
            go_wp2
            go_ret
            exact ⟨rfl, HN7.out.trans hn8⟩
          | ok _ hok =>
            have HO := hid hok
            clear hok
            have hd2 := HO.out.lt
            have q1 : decide ((m : Int) ≤ (d : Int) + 1) = false := by simp; omega
            have q2 : decide (m ≤ d + 1) = false := by simp; omega
            clear hd2
            go_wp2_with fail
            refine (down_any w.heap.size ow3 A1 _ HT3.out.one.disk).mono ?_
            rintro e w4 ⟨rfl, rfl⟩
            rw [HO.out.down]
            go_wp2_with fail
            refine (acts_any w.heap.size ow3 A1 _ HT3.out.one.disk).mono ?_
            rintro e w4 ⟨rfl, rfl⟩
            rw [HO.out.acts]
            have q3 : ((d + 1 : Nat) : Int) = (d : Int) + 1 := by omega
            go_wp2
            go_roundw
            case rel => exact ⟨j + 1, d + 1, ow3, A1, by omega, by go_num, by go_num, hid ⟨HT3.out.one, HO.out⟩⟩
            case measure => simp [intOf]; omega
        · have t3 : ((IntKind.u64.wrap x.kind).tmod 3 == 2) = false := by simp [e3]
          clear e3
          go_wp2_with fail
          refine (write_any w.heap.size ow A x.block _ x.bytes _ HT2.out.one.disk (RowAt.new HS.out ((New.refl wr).alloc _ _ |>.trans HN2.out)) (fun h0 k hk => Nat.ne_of_lt (HOLD.out h0 k hk)) ?_ ?_ ?_).mono ?_
          · have := HARM.out.falls; omega
          · have := HARM.out.acts; have := HARM.out.di; omega
          · exact HWB.out
          intro e w3 h3
          obtain ⟨ow3, rfl, T3, _⟩ := HT2.out.moved h3
          have HT3 := hid T3
          have ho := HARM.out.write x.block x.bytes
          clear h3 T3 HT2
          generalize writeE A x.block x.bytes = E1 at *
          generalize writeA A x.block x.bytes = A1 at *
          cases ho with
          | bad =>
            go_wp2_with fail
            refine (same_any w.heap.size c ow3 oc _ _ _ HT3.out.one.disk HT3.out.two.disk HWB.out HWB.out).mono ?_
            rintro e w7 ⟨x7, rfl, hx7, hn7⟩
            obtain rfl : x7 = true := hx7.2 (same_refl A)
            have HM7 := hid (HT3.out.one.newer hn7)
            clear hx7 hn7
            go_wp2
            go_roundw
            case rel => exact ⟨j + 1, d, ow3, A, by omega, by go_num, rfl, hid ⟨HM7.out, HARM.out.later⟩⟩
            case measure => simp [intOf]; omega
          | fall hfall =>
            have q1 : decide ((d : Int) < (m : Int) - 1) = false := by simp; omega
            have HF := hid hfall
            clear hfall
            go_wp2_with fail
            refine (down_any w.heap.size ow3 _ _ HT3.out.one.disk).mono ?_
            rintro e w4 ⟨rfl, rfl⟩
            go_wp2_with fail
            refine (waiting_any w.heap.size ow3 _ _ HT3.out.one.disk).mono ?_
            rintro e w4 ⟨rfl, rfl⟩
            go_wp2_with fail
            refine (acts_any w.heap.size ow3 _ _ HT3.out.one.disk).mono ?_
            rintro e w4 ⟨rfl, rfl⟩
            have ea : ({ A with armed := 0, down := true, falls := A.falls + 1 } : ADisk).acts = d := HARM.out.acts
            rw [ea]
            go_wp2_with fail
            refine (start_any w.heap.size ow3 _ _ HT3.out.one.disk).mono ?_
            intro e w5 h5
            obtain ⟨rfl, T5, _⟩ := HT3.out.back h5
            have HT5 := hid T5
            clear h5 T5
            go_wp2_with fail
            refine (start_any c oc A _ HT5.out.two.disk).mono ?_
            intro e w6 h6
            obtain ⟨rfl, T6, _⟩ := HT5.out.swap.back h6
            have HT6 := hid T6.swap
            clear h6 T6
            go_wp2_with fail
            refine (same_any w.heap.size c ow3 oc _ _ _ HT6.out.one.disk HT6.out.two.disk HWB.out HWB.out).mono ?_
            rintro e w7 ⟨x7, rfl, hx7, hn7⟩
            obtain rfl : x7 = true := hx7.2 (same_fell A (A.falls + 1) 0)
            have HN7 := hid (HT6.out.one.new.trans hn7)
            clear hx7 hn7
            go_wp2_with fail
            refine (awake_any _).mono ?_
            rintro e w8 ⟨rfl, hn8⟩
            go_wp2
            go_ret
            exact ⟨rfl, HN7.out.trans hn8⟩
          | ok _ hok =>
            have HO := hid hok
            clear hok
            have hd2 := HO.out.lt
            have q1 : decide ((m : Int) ≤ (d : Int) + 1) = false := by simp; omega
            have q2 : decide (m ≤ d + 1) = false := by simp; omega
            clear hd2
            go_wp2_with fail
            refine (down_any w.heap.size ow3 A1 _ HT3.out.one.disk).mono ?_
            rintro e w4 ⟨rfl, rfl⟩
            rw [HO.out.down]
            go_wp2_with fail
            refine (acts_any w.heap.size ow3 A1 _ HT3.out.one.disk).mono ?_
            rintro e w4 ⟨rfl, rfl⟩
            rw [HO.out.acts]
            have q3 : ((d + 1 : Nat) : Int) = (d : Int) + 1 := by omega
            go_wp2
            go_roundw
            case rel => exact ⟨j + 1, d + 1, ow3, A1, by omega, by go_num, by go_num, hid ⟨HT3.out.one, HO.out⟩⟩
            case measure => simp [intOf]; omega
      · obtain rfl : j = l.length := by omega
        go_wp2_with fail
        refine (awake_any _).mono ?_
        rintro e w' ⟨rfl, hn⟩
        go_wp2
        go_ret
        exact ⟨rfl, hT.out.1.new.trans hn⟩

end Go.Proofs.Ytbclgklpcbajfaa
