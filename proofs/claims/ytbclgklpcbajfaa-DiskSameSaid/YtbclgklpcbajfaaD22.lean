/- DiskTorn's walk. -/
import Derived.Test.YtbclgklpcbajfaaD21
import Derived.Test.YtbclgklpcbajfaaD12
namespace Go.Proofs.Ytbclgklpcbajfaa
open Go.RowKit
set_option linter.unusedSimpArgs false
set_option linter.unusedVariables false

theorem Bytes.old {w : World} {v : Value} {s : ByteArray} (h : Bytes w v s) : 0 < s.size → ∀ k, v.ownBlock = some k → k < w.heap.size := by
  obtain ⟨p, c, rfl, _, _, h3⟩ := h
  intro h0 k hk
  obtain ⟨b, o, rfl, hb, _⟩ := h3 h0
  simp only [Value.ownBlock, Option.some.injEq] at hk
  subst hk; exact hb
theorem Bools.old {w : World} {v : Value} {l : List Bool} (h : Bools w v l) : 0 < l.length → ∀ k, v.ownBlock = some k → k < w.heap.size := by
  obtain ⟨p, c, rfl, _, _, h3⟩ := h
  intro h0 k hk
  obtain ⟨b, o, rfl, hb, _⟩ := h3 h0
  simp only [Value.ownBlock, Option.some.injEq] at hk
  subst hk; exact hb

theorem Mine.grown {w a a' : World} {b : Nat} {ow : Option Nat} {A : ADisk} (h : Mine w a b ow A) {base : Nat} {e : TypeId} {size : Nat} {v : Value} {n : Nat} {xs : List Value} (hr : a.ownsRow base e size v n xs) (hb : w.heap.size ≤ base) (h1 : e ≠ 69) (h2 : e ≠ 97) (h5 : e ≠ 5) (hg : a.grownBy a' v.ownBlock) : Mine w a' b ow A := by
  have ht : Turn (fun k => v.ownBlock = some k) a a' := (Turn.refl _ a).grown hg (fun k _ h => h)
  have hn := h.disk.own_ne hr h1 h2
  exact ⟨h.disk.turn ht (apart_own hr h5) (fun hk => hn b hk (.inl rfl)) (fun k hk hs => hn k hs (.inr hk)), h.new.turn ht (fun k hk hs => by have := (hr.lt k hs).1; omega), h.bb, h.oo⟩

theorem own_num {w : World} {base g n c : Nat} {ws : List Nat} (h : w.ownsRow base 3 1 (.slice (some ⟨g, 0, none⟩) n c) ws.length (ws.map fun n : Nat => Value.int .i64 (n : Int))) {i : Nat} (hi : i < ws.length) : w.cell? ⟨g, i, none⟩ = some (.int .i64 (ws[i] : Int)) := by
  have := World.ownsRow.cells h (g := g) rfl i (.int .i64 (ws[i] : Int)) (by simp [hi])
  have hadd : (⟨g, 0, none⟩ : Addr).add i = ⟨g, i, none⟩ := by unfold Addr.add; split <;> simp_all
  rw [hadd] at this
  exact this
theorem own_nums {w : World} {base : Nat} {v : Value} {ws : List Nat} (h : w.ownsRow base 3 1 v ws.length (ws.map fun n : Nat => Value.int .i64 (n : Int))) : Nums w v ws := by
  rcases id h.2 with ⟨rfl, h0⟩ | ⟨g, cap, cur, rfl, hg, hh, h1, h2, h3, h4⟩
  · exact ⟨none, 0, by rw [h0], by omega, by decide, fun h => absurd h (by omega)⟩
  · refine ⟨_, cap, rfl, h1, h2, fun h0 => ⟨g, 0, rfl, (Array.getElem?_eq_some_iff.1 hh).1, fun i hi => ?_⟩⟩
    have hi' : i < ws.length := by simpa using hi
    rw [Nat.zero_add, own_num h hi']
    simp [List.getD_eq_getElem?_getD, hi']

/-- What holds at the head of a round of the writes. -/
structure TornAt (w wr : World) (b : Nat) (ow : Option Nat) (A : ADisk) (l : List Deed) (j : Nat) (ws : List Nat) (s : Value) : Prop where
  mine : Mine w wr b ow A
  plain : Torn l j A ws
  row : wr.ownsRow w.heap.size 3 1 s ws.length (ws.map fun n : Nat => Value.int .i64 (n : Int))
theorem own_none (w : World) (base : Nat) : w.ownsRow base 3 1 (.slice none 0 0) ([] : List Nat).length (([] : List Nat).map fun n : Nat => Value.int .i64 (n : Int)) := ⟨rfl, .inl ⟨rfl, rfl⟩⟩

set_option maxHeartbeats 8000000 in
set_option maxRecDepth 100000 in
theorem torn_law (v u : Value) (l : List Deed) (keep : List Bool) (t : Int) (w : World) (h : Deeds w v l) (hu : Bools w u keep) (ht : 0 ≤ t ∧ t ≤ 65535) :
    Calls Try.prog 4 #[v, u, .int .u16 t] w fun e w' => e = .returned (.bool true) ∧ New w w' := by
  have H := hid h
  have U := hid hu
  obtain ⟨gp, gc, rfl, g1, g2, _⟩ := h
  obtain ⟨up, uc, rfl, u1, u2, _⟩ := hu
  unfold maxLen at g2 u2
  cases hf : fewB l with
  | false =>
    go_enter Try.func4, Try.ntmps4
    go_wp2_with fail
    refine (few_any _ l _ H.out).mono ?_
    rintro e w' ⟨rfl, rfl⟩
    rw [hf]
    go_wp2_with fail
    refine (awake_any _).mono ?_
    rintro e w' ⟨rfl, hn⟩
    go_wp2
    go_ret
    exact ⟨rfl, hn⟩
  | true =>
    by_cases hl : l.length ≤ 30
    case neg =>
      go_enter Try.func4, Try.ntmps4
      go_wp2_with fail
      refine (few_any _ l _ H.out).mono ?_
      rintro e w' ⟨rfl, rfl⟩
      rw [hf]
      have HL := hid hl
      have t1 : decide ((30 : Int) < (l.length : Int)) = true := by simp; omega
      clear hl
      go_wp2_with fail
      refine (awake_any _).mono ?_
      rintro e w' ⟨rfl, hn⟩
      go_wp2
      go_ret
      exact ⟨rfl, hn⟩
    by_cases hk : keep.length ≤ 60
    case neg =>
      go_enter Try.func4, Try.ntmps4
      go_wp2_with fail
      refine (few_any _ l _ H.out).mono ?_
      rintro e w' ⟨rfl, rfl⟩
      rw [hf]
      have t1 : decide ((30 : Int) < (l.length : Int)) = false := by simp; omega
      have t2 : decide ((60 : Int) < (keep.length : Int)) = true := by simp; omega
      have HK := hid hk
      have HL := hid hl
      clear hk hl
      go_wp2_with fail
      refine (awake_any _).mono ?_
      rintro e w' ⟨rfl, hn⟩
      go_wp2
      go_ret
      exact ⟨rfl, hn⟩
    go_enter Try.func4, Try.ntmps4
    go_wp2_with fail
    refine (few_any _ l _ H.out).mono ?_
    rintro e w' ⟨rfl, rfl⟩
    rw [hf]
    have t1 : decide ((30 : Int) < (l.length : Int)) = false := by simp; omega
    have t2 : decide ((60 : Int) < (keep.length : Int)) = false := by simp; omega
    go_wp2_with fail
    refine (new_any _).mono ?_
    rintro e w1 ⟨rfl, hw1⟩
    have M1 := Mine.made w w (New.refl w)
    rw [← hw1] at M1
    have S1 := hid (TornAt.mk M1 (torn_new l) (own_none _ _))
    clear hw1 M1 t1 t2
    go_wp2
    go_loopw [8, 9, 10] (fun s i _ wr => ∃ (j : Nat) (ow : Option Nat) (A : ADisk) (ws : List Nat) (p : Option Addr) (c : Nat), j ≤ l.length ∧ i = .int .i64 j ∧ s = .slice p ws.length c ∧ Hid (TornAt w wr w.heap.size ow A l j ws s)) (fun _ i _ _ => l.length - (intOf i).toNat)
    case atStart => exact ⟨0, none, newA, [], none, 0, Nat.zero_le _, rfl, rfl, S1⟩
    case round =>
      clear S1
      obtain ⟨j, ow, A, ws, p, c, hj, rfl, rfl, hT⟩ := hrel
      by_cases hlt : j < l.length
      · obtain ⟨gp', gc', eg, _, _, hc⟩ := H.out
        injection eg with e1 e2 e3
        subst e1 e3
        obtain ⟨b, o, rfl, hb, hc⟩ := hc (by omega)
        have HB := hid (hc j hlt).c3
        obtain ⟨d0, d1, d2, ⟨sv, d3, hs⟩, kv, d4, hkv⟩ := (hc j hlt).new hb hT.out.mine.new
        obtain ⟨sp, sc, rfl, s1, s2, _⟩ := id hs
        obtain ⟨kp, kc, rfl, k1, k2, _⟩ := id hkv
        unfold maxLen at s2 k2
        have hold : 0 < (l[j]).bytes.size → ∀ k, (Value.slice sp (l[j]).bytes.size sc).ownBlock = some k → k < w.heap.size := by
          obtain ⟨u', e', hu'⟩ := HB.out
          rw [← hT.out.mine.new.cell _ _ hb] at e'
          rw [d3] at e'
          injection e' with e'
          subst e'
          exact hu'.old
        have HOLD := hid hold
        have HS := hid hs
        have hbw : b < wr.heap.size := Nat.lt_of_lt_of_le hb hT.out.mine.new.size
        clear hc hs hkv HB hold
        by_cases hw : writeE A (l[j]).block (l[j]).bytes = 0
        · have HW := hid hw
          have HN1 := hid (hT.out.plain.write hlt hw)
          have HN2 := hid (hT.out.plain.flush hlt hw)
          clear hw
          generalize hx : l[j] = x at *
          clear hx
          go_wp2_with fail
          have M := hid (hT.out.mine.newer ((New.refl wr).alloc #[.int .i64 x.kind, .int .i64 x.block, .int .i64 x.n, .slice sp x.bytes.size sc, .slice kp x.keep.length kc] 37))
          have R := hid (own_old hT.out.row ((New.refl wr).alloc #[.int .i64 x.kind, .int .i64 x.block, .int .i64 x.n, .slice sp x.bytes.size sc, .slice kp x.keep.length kc] 37))
          refine (write_any w.heap.size ow A x.block _ x.bytes _ M.out.disk (Bytes.new HS.out ((New.refl wr).alloc _ _)) (fun h0 k hk => Nat.ne_of_lt (HOLD.out h0 k hk)) ?_ ?_ ?_).mono ?_
          · have := hT.out.plain.calm.falls; omega
          · have := hT.out.plain.calm.acts; omega
          · have := hT.out.plain.calm.waits; omega
          intro e w2 h2
          obtain ⟨_, _, _, _, ht⟩ := id h2
          have R2 := hid (own_turn R.out ht (M.out.disk.own_ne R.out (by decide) (by decide)))
          obtain ⟨ow2, rfl, M2⟩ := M.out.moved h2
          have HM2 := hid M2
          rw [HW.out]
          have cl : w2.cell? ⟨wr.heap.size, 0, none⟩ = some (.int .i64 x.kind) := by
            rw [World.cell?_of_block (ht.block wr.heap.size (by simp) (fun hk => by have := hT.out.mine.disk.its_lt hk; omega))]
            exact cell_made wr _ 37 0
          clear h2 ht M R M2
          by_cases e3 : (IntKind.u64.wrap x.kind).tmod 4 = 0
          · have t3 : ((IntKind.u64.wrap x.kind).tmod 4 == 0) = true := by simp [e3]
            clear e3
            go_wp2_with fail
            have hc2 := HN1.out.calm
            refine (flush_any w.heap.size ow2 (writeA A x.block x.bytes) _ HM2.out.disk ?_ ?_ ?_).mono ?_
            · have := hc2.falls; omega
            · have := hc2.acts; omega
            · have := hc2.waits; omega
            rw [hc2.act]
            intro e w3 h3
            obtain ⟨_, _, _, _, ht⟩ := id h3
            have R3 := hid (own_turn R2.out ht (HM2.out.disk.own_ne R2.out (by decide) (by decide)))
            obtain ⟨ow3, rfl, M3⟩ := HM2.out.moved h3
            have HM3 := hid M3
            clear h3 ht M3 hc2 cl t3
            have hlen : ws.length ≤ 100 := by have := hT.out.plain.len; omega
            clear hT
            go_wp2_with (at_builtin; refine app_nums rfl _ _ rfl w.heap.size _ _ _ rfl (own_old R3.out ((New.refl w3).alloc #[.int .i64 j] 3)) ⟨w3.heap.size, 0, none⟩ (j : Int) rfl (cell_made _ _ _ _) (by omega) ?c1 ?_)
            case c1 => exact Nat.le_trans HM3.out.new.size (by simp)
            intro v4 w4 hown hg hblk
            have M4 := hid (Mine.grown (HM3.out.newer ((New.refl w3).alloc #[.int .i64 j] 3)) (own_old R3.out ((New.refl w3).alloc #[.int .i64 j] 3)) (Nat.le_refl _) (by decide) (by decide) (by decide) hg)
            obtain ⟨g4, c4, rfl, _, _⟩ := hown.form (by omega)
            have R4 := hid hown
            clear hg hown hblk
            go_wp2
            go_roundw
            case rel =>
              refine ⟨j + 1, ow3, _, ws ++ [j], _, c4, by omega, by go_num, by simp; rfl, hid ⟨M4.out, HN2.out, ?_⟩⟩
              simpa using R4.out
            case measure => simp [intOf]; omega
          · have t3 : ((IntKind.u64.wrap x.kind).tmod 4 == 0) = false := by simp [e3]
            clear e3
            have hlen : ws.length ≤ 100 := by have := hT.out.plain.len; omega
            clear hT
            go_wp2_with (at_builtin; refine app_nums rfl _ _ rfl w.heap.size _ _ _ rfl (own_old R2.out ((New.refl w2).alloc #[.int .i64 j] 3)) ⟨w2.heap.size, 0, none⟩ (j : Int) rfl (cell_made _ _ _ _) (by omega) ?c1 ?_)
            case c1 => exact Nat.le_trans HM2.out.new.size (by simp)
            intro v4 w4 hown hg hblk
            have M4 := hid (Mine.grown (HM2.out.newer ((New.refl w2).alloc #[.int .i64 j] 3)) (own_old R2.out ((New.refl w2).alloc #[.int .i64 j] 3)) (Nat.le_refl _) (by decide) (by decide) (by decide) hg)
            obtain ⟨g4, c4, rfl, _, _⟩ := hown.form (by omega)
            have R4 := hid hown
            clear hg hown hblk
            go_wp2
            go_roundw
            case rel =>
              refine ⟨j + 1, ow2, _, ws ++ [j], _, c4, by omega, by go_num, by simp; rfl, hid ⟨M4.out, HN1.out, ?_⟩⟩
              simpa using R4.out
            case measure => simp [intOf]; omega
        · have HW := hid hw
          have hw2 : writeE A (l[j]).block (l[j]).bytes = 2 := by
            have := hT.out.plain.calm.wrote (l[j]).block (l[j]).bytes
            split at this
            · exact absurd this hw
            · exact this
          have HW2 := hid hw2
          have HNX := hid (hT.out.plain.skip)
          clear hw hw2
          generalize hx : l[j] = x at *
          clear hx
          go_wp2_with fail
          have M := hid (hT.out.mine.newer ((New.refl wr).alloc #[.int .i64 x.kind, .int .i64 x.block, .int .i64 x.n, .slice sp x.bytes.size sc, .slice kp x.keep.length kc] 37))
          have R := hid (own_old hT.out.row ((New.refl wr).alloc #[.int .i64 x.kind, .int .i64 x.block, .int .i64 x.n, .slice sp x.bytes.size sc, .slice kp x.keep.length kc] 37))
          refine (write_any w.heap.size ow A x.block _ x.bytes _ M.out.disk (Bytes.new HS.out ((New.refl wr).alloc _ _)) (fun h0 k hk => Nat.ne_of_lt (HOLD.out h0 k hk)) ?_ ?_ ?_).mono ?_
          · have := hT.out.plain.calm.falls; omega
          · have := hT.out.plain.calm.acts; omega
          · have := hT.out.plain.calm.waits; omega
          intro e w2 h2
          obtain ⟨_, _, _, _, ht⟩ := id h2
          have R2 := hid (own_turn R.out ht (M.out.disk.own_ne R.out (by decide) (by decide)))
          obtain ⟨ow2, rfl, M2⟩ := M.out.moved h2
          rw [writeE_no hT.out.plain.calm HW.out] at M2
          have HM2 := hid M2
          rw [HW2.out]
          clear h2 ht M R M2 HW HW2
          go_wp2
          go_roundw
          case rel => exact ⟨j + 1, ow2, A, ws, p, c, by omega, by go_num, rfl, hid ⟨HM2.out, HNX.out, R2.out⟩⟩
          case measure => simp [intOf]; omega
      · obtain rfl : j = l.length := by omega
        have hc := hT.out.plain.calm
        have hcw : A.waits.length ≤ 1000 := by have := hc.waits; omega
        have HC := hid hc
        have HP := hid hT.out.plain
        clear hc
        obtain ⟨kn, hkn, hk4⟩ : ∃ kn : Nat, t % 400 = (kn : Int) ∧ kn ≤ 400 := ⟨(t % 400).toNat, by omega, by omega⟩
        go_wp2_with fail
        refine (copy_any w.heap.size ow A _ hT.out.mine.disk (by omega)).mono ?_
        intro e w2 h2
        obtain ⟨c2, oc2, rfl, T2, hn2⟩ := hT.out.mine.copied h2
        have R2 := hid (own_old hT.out.row hn2)
        have HT2 := hid T2
        clear h2 T2 hn2 hT
        go_wp2_with fail
        refine (crash_any c2 oc2 A _ [] 0 _ HT2.out.two.disk HC.out.small (by rw [HC.out.falls]; decide) (by omega) ⟨none, 0, rfl, Nat.le_refl _, by decide, fun h => absurd h (by decide)⟩ (fun h => absurd h (by decide)) (by decide)).mono ?_
        intro e w3 h3
        obtain ⟨oc3, rfl, T3, ht3⟩ := HT2.out.swap.moved h3
        have R3 := hid (own_turn R2.out ht3 (HT2.out.two.disk.own_ne R2.out (by decide) (by decide)))
        have HT3 := hid T3.swap
        clear h3 T3 ht3 R2 HT2
        go_wp2_with fail
        refine (crash_any w.heap.size ow A _ keep kn _ HT3.out.one.disk HC.out.small (by rw [HC.out.falls]; decide) (by omega) (RowAt.new U.out HT3.out.one.new) (fun h k hk => Nat.ne_of_lt (U.out.old h k hk)) (by omega)).mono ?_
        intro e w4 h4
        obtain ⟨ow4, rfl, T4, ht4⟩ := HT3.out.moved h4
        have R4 := hid (own_turn R3.out ht4 (HT3.out.one.disk.own_ne R3.out (by decide) (by decide)))
        have HT4 := hid T4
        clear h4 T4 ht4 R3 HT3
        go_wp2_with fail
        refine (start_any c2 oc3 (crashA A [] 0) _ HT4.out.two.disk).mono ?_
        intro e w5 h5
        obtain ⟨rfl, T5, ht5⟩ := HT4.out.swap.back h5
        have R5 := hid (own_turn R4.out ht5 (HT4.out.two.disk.own_ne R4.out (by decide) (by decide)))
        have HT5 := hid T5.swap
        clear h5 T5 ht5 R4 HT4
        go_wp2_with fail
        refine (start_any w.heap.size ow4 (crashA A keep kn) _ HT5.out.one.disk).mono ?_
        intro e w6 h6
        obtain ⟨rfl, T6, ht6⟩ := HT5.out.back h6
        have R6 := hid (own_turn R5.out ht6 (HT5.out.one.disk.own_ne R5.out (by decide) (by decide)))
        have HT6 : Hid (Two w w6 w.heap.size ow4 (upA A keep kn) c2 oc3 (upA A [] 0)) := hid T6
        clear h6 T6 ht6 R5 HT5
        have hwl : ws.length ≤ 100 := by have := HP.out.len; omega
        go_wp2
        go_loopw [13, 14, 15, 16, 17] (fun i _ _ _ _ wr => ∃ j : Nat, j ≤ ws.length ∧ i = .int .i64 j ∧ New w6 wr) (fun i _ _ _ _ _ => ws.length - (intOf i).toNat)
        case atStart => exact ⟨0, Nat.zero_le _, rfl, New.refl _⟩
        case round =>
          obtain ⟨j, hj, rfl, hnq⟩ := hrel
          by_cases hlt : j < ws.length
          · obtain ⟨g, c', eg, _, hgl⟩ := R6.out.form (by omega)
            injection eg with e1 e2 e3
            subst e1 e3
            have cu := own_num R6.out hlt
            rw [← hnq.cell _ _ hgl] at cu
            obtain ⟨hyl, hym, hys⟩ := HP.out.ins _ (List.getElem_mem hlt)
            have HYM := hid hym
            clear hym hys
            generalize hy : ws[j] = y at *
            clear hy
            obtain ⟨gp', gc', eg, _, _, hcc⟩ := H.out
            injection eg with e1 e2 e3
            subst e1 e3
            obtain ⟨b, o, rfl, hb, hcc⟩ := hcc (by omega)
            have hnw : New w wr := HT6.out.one.new.trans hnq
            obtain ⟨_, d1, _, _, _⟩ := (hcc _ hyl).new hb hnw
            have HD1 := hid d1
            clear hcc
            generalize hm : (l[y]).block = m at *
            clear hm
            have hbw : b < wr.heap.size := Nat.lt_of_lt_of_le hb hnw.size
            have hgw : g < wr.heap.size := Nat.lt_of_lt_of_le hgl hnq.size
            have HNW := hid hnw
            have HNQ := hid hnq
            clear hnw hnq
            go_wp2_with fail
            refine (read_any w.heap.size ow4 (upA A keep kn) m _ (HT6.out.one.disk.new HNQ.out) (upA_small HC.out _ _) (Nat.zero_le _)).mono ?_
            rintro e w7 ⟨v7, rfl, hv7, hn7⟩
            rw [(upA_read HYM.out).1]
            obtain ⟨p7, c7, rfl, _, _, _⟩ := id hv7.1
            have HV7 := hid hv7
            have cu7 := cu
            have d7 := d1
            rw [← hn7.cell _ _ hgw] at cu7
            rw [← hn7.cell _ _ hbw] at d7
            have hb7 : b < w7.heap.size := Nat.lt_of_lt_of_le hbw hn7.size
            have hg7 : g < w7.heap.size := Nat.lt_of_lt_of_le hgw hn7.size
            have HN7 := hid hn7
            clear hv7 cu d1 hn7
            go_wp2_with fail
            refine (read_any c2 oc3 (upA A [] 0) m _ (HT6.out.two.disk.new (HNQ.out.trans HN7.out)) (upA_small HC.out _ _) (Nat.zero_le _)).mono ?_
            rintro e w8 ⟨v8, rfl, hv8, hn8⟩
            rw [(upA_read HYM.out).1]
            obtain ⟨p8, c8, rfl, _, _, _⟩ := id hv8.1
            have HV8 := hid hv8
            rw [← hn8.cell _ _ hg7] at cu7
            rw [← hn8.cell _ _ hb7] at d7
            have hb8 : b < w8.heap.size := Nat.lt_of_lt_of_le hb7 hn8.size
            have hg8 : g < w8.heap.size := Nat.lt_of_lt_of_le hg7 hn8.size
            have HN8 := hid hn8
            clear hv8 hn8
            generalize hS7 : readB (upA A keep kn) m = s7 at *
            generalize hS8 : readB (upA A [] 0) m = s8 at *
            have hps : possB (textsOf l ws m s8) s7 kn = true := by
              rw [← hS7, ← hS8, (upA_read HYM.out).2, (upA_read HYM.out).2, crashTo_none]
              have := HP.out.poss HYM.out (k := kn) (crashTo_may A.waits keep kn A.safe m.toNat)
              simpa using this
            have hsz : ∀ a ∈ textsOf l ws m s8, a.size ≤ 1000 := by
              rw [← hS8, (upA_read HYM.out).2, crashTo_none]
              exact HP.out.sizes HYM.out
            have hposs : ∀ p : After w8, Calls Try.prog 28 #[.slice (some ⟨b, o, none⟩) l.length gc, .slice (some ⟨g, 0, none⟩) ws.length c, .int .i64 m, .string s7, .string s8, .int .i64 kn] p.w fun e w' => e = .returned (.bool true) ∧ New p.w w' := fun p => by
              have hn := ((HNW.out.trans HN7.out).trans HN8.out).trans p.new
              have hq := ((HNQ.out.trans HN7.out).trans HN8.out).trans p.new
              refine (possible_any _ _ l ws m s7 s8 kn p.w (H.out.new hn) (RowAt.new (own_nums R6.out) hq) (fun j hj => (HP.out.ins j hj).1) (by omega) (by omega) hsz).mono ?_
              rintro e w' ⟨rfl, hw⟩
              exact ⟨by rw [hps], hw⟩
            have hU : ∀ p : After w8, p.w.cell? ⟨g, j, none⟩ = some (.int .i64 y) := fun p => by rw [p.new.cell _ _ hg8]; exact cu7
            have hD : ∀ p : After w8, p.w.cell? ⟨b, o + y * 5 + 1, none⟩ = some (.int .i64 m) := fun p => by rw [p.new.cell _ _ hb8]; exact d7
            have k7 : ∀ p : After w8, (Go.convert 22 9 (.slice p7 s7.size c7)).run Try.prog p.w = .ok (.string s7) p.w := fun p => ((HV7.out.new HN8.out).new p.new).1.convert 22 5 9 Try.underlying22 Try.underlying5 Try.underlying9
            have k8 : ∀ p : After w8, (Go.convert 22 9 (.slice p8 s8.size c8)).run Try.prog p.w = .ok (.string s8) p.w := fun p => (HV8.out.new p.new).1.convert 22 5 9 Try.underlying22 Try.underlying5 Try.underlying9
            clear hps hsz hS7 hS8
            go_wp2_with fail
            refine wp_region_new (by kernel_rfl) (by kernel_rfl) ?_
            repeat (go_big_quiet_step (with_reducible refine calls_after (hposs _)))
            refine wpQuiet_nil ?_
            rintro _ ⟨q, rfl⟩
            go_wp2
            go_roundw
            case rel => exact ⟨j + 1, by omega, by go_num, ((HNQ.out.trans HN7.out).trans HN8.out).trans q.new⟩
            case measure => simp [intOf]; omega
          · obtain rfl : j = ws.length := by omega
            go_wp2_with fail
            refine (awake_any _).mono ?_
            rintro e w7 ⟨rfl, hn⟩
            go_wp2
            go_ret
            exact ⟨rfl, (HT6.out.one.new.trans hnq).trans hn⟩

end Go.Proofs.Ytbclgklpcbajfaa
