/- What progenyref03.Valid returns at a mark; and at each record (printed by rvalid6.py). What octet.Number, octet.Small and octet.Text return for what is in range. What the maker of tape.Encode does: number, small, text, for what is in range. -/
import Derived.Test.YtdccbceaajnajaaGreatT9
import Derived.Test.YtdccbceaajnajaaGreatA9
import Derived.Test.YtdccbceaajnajaaGreatProg
import Derived.Lib.AppendStr
namespace Go.Proofs.YtdccbceaajnajaaGreat
open Go.RowKit
set_option linter.unusedSimpArgs false
set_option linter.unusedVariables false

set_option maxHeartbeats 8000000 in
set_option maxRecDepth 100000 in
theorem refValid_6 (r : Rec) (bv av uv : Value) (w : World) (h : RecAt w r bv av uv) (hk : r.kind = 6) :
    Calls Tryz.prog 101 #[.agg (recCells r bv av uv)] w fun e w' => e = .returned (.bool (validB r)) ∧ New w w' := by
  have H := hid h
  obtain ⟨⟨bp, bc, rfl, b1, b2, _⟩, ⟨ap, ac, rfl, a1, a2, _⟩, ⟨up, uc, rfl, l1, l2, l3⟩⟩ := h
  unfold maxLen at a2 b2 l2
  have HV : Hid (validB r = (wi 0 r.unit 1000000 && (np r && nf r && nb r && openB r.units && decide (r.unit = 0) && nt r))) := hid (by simp [validB, hk])
  have HC : recCells r (Value.slice bp r.before.size bc) (Value.slice ap r.after.size ac) (Value.slice up r.units.length uc) = #[.int .i64 6, .int .i64 r.unit, .int .i64 r.page, .int .i64 r.at_, Value.slice bp r.before.size bc, Value.slice ap r.after.size ac, .int .i64 r.back, .int .i64 r.next, .string r.text, Value.slice up r.units.length uc] := by unfold recCells; rw [hk]
  have HN1 : Hid (New w (w.alloc (.cells (recCells r (Value.slice bp r.before.size bc) (Value.slice ap r.after.size ac) (Value.slice up r.units.length uc)) 70))) := hid ((New.refl w).alloc _ 70)
  have H1 : Hid (RecAt (w.alloc (.cells (recCells r (Value.slice bp r.before.size bc) (Value.slice ap r.after.size ac) (Value.slice up r.units.length uc)) 70)) r _ _ _) := hid (H.out.new HN1.out)
  rw [HC] at HN1
  rw [HC]
  have HCC := hid HC
  have G3 := hid l3
  clear HC hk l3
  by_cases e1 : wi 0 r.unit 1000000 = true
  case neg =>
    have e1 : wi 0 r.unit 1000000 = false := by simpa using e1
    go_enter Tryz.func101, Tryz.ntmps101
    go_wp2_with fail
    refine (isNumber_any _ _).mono ?_
    rintro e w' ⟨rfl, rfl⟩
    rw [e1]
    go_wp2
    go_ret
    exact ⟨by rw [HV.out, e1]; rfl, HN1.out⟩
  have E1 := hid e1
  go_enter Tryz.func101, Tryz.ntmps101
  go_wp2_with fail
  refine (isNumber_any _ _).mono ?_
  rintro e w' ⟨rfl, rfl⟩
  rw [e1]
  clear e1
  go_wp2
  go_loopw [3, 4] (fun i _ wr => ∃ k : Nat, k ≤ r.units.length ∧ i = .int .i64 k ∧ New (w.alloc (.cells #[.int .i64 6, .int .i64 r.unit, .int .i64 r.page, .int .i64 r.at_, Value.slice bp r.before.size bc, Value.slice ap r.after.size ac, .int .i64 r.back, .int .i64 r.next, .string r.text, Value.slice up r.units.length uc] 70)) wr ∧ Hid (∀ j, j < k → okAt r.units j = true)) (fun i _ _ => r.units.length - (intOf i).toNat)
  case atStart => exact ⟨0, Nat.zero_le _, rfl, New.refl _, fun j hj => by omega⟩
  case round =>
    obtain ⟨k, hk, rfl, hnew, hall⟩ := hrel
    have ml := hnew.made.1
    have hbx : w.heap.size < wr.heap.size := by have := hnew.size; simp at this; omega
    by_cases hlt : k < r.units.length
    · obtain ⟨b, o, rfl, hb, hc⟩ := G3.out (by omega)
      have hnw : New w wr := HN1.out.trans hnew
      obtain ⟨c0, c1, c2⟩ := opns_at hc k hlt
      rw [← hnw.cell _ _ hb] at c0 c1 c2
      have hb2 : b < wr.heap.size := Nat.lt_of_lt_of_le hb hnw.size
      have HNO : Hid (okAt r.units k = false → validB r = false) := fun h => by rw [HV.out, openB_no hlt h]; simp
      have HGO : Hid (∀ {W}, New (w.alloc (.cells #[.int .i64 6, .int .i64 r.unit, .int .i64 r.page, .int .i64 r.at_, Value.slice bp r.before.size bc, Value.slice ap r.after.size ac, .int .i64 r.back, .int .i64 r.next, .string r.text, Value.slice (some ⟨b, o, none⟩) r.units.length uc] 70)) W → okAt r.units k = true → ∃ k' : Nat, k' ≤ r.units.length ∧ Value.int .i64 ((k : Int) + 1) = .int .i64 k' ∧ New (w.alloc (.cells #[.int .i64 6, .int .i64 r.unit, .int .i64 r.page, .int .i64 r.at_, Value.slice bp r.before.size bc, Value.slice ap r.after.size ac, .int .i64 r.back, .int .i64 r.next, .string r.text, Value.slice (some ⟨b, o, none⟩) r.units.length uc] 70)) W ∧ Hid (∀ j, j < k' → okAt r.units j = true)) := fun hW ho =>
        ⟨k + 1, by omega, by simp, hW, fun j hj => by
          rcases Nat.lt_or_ge j k with h | h
          · exact hall.out j h
          · obtain rfl : j = k := by omega
            exact ho⟩
      clear hall
      cases k with
      | zero =>
        have HOK := hid (okAt_zero hlt)
        simp only [Nat.zero_mul, Nat.add_zero] at c0 c1 c2
        clear hc
        generalize hx : r.units[0] = x at *
        clear hx
        by_cases e1 : wi 0 x.unit 1000000 = true
        case neg =>
          have e1 : wi 0 x.unit 1000000 = false := by simpa using e1
          go_wp2
          go_quiet ((go_at_call 125; exact quiet_left (isNumber_any _ _)))
          go_wp2
          go_ret
          exact ⟨ret_bool (HNO.out (by rw [HOK.out]; simp [okU, e1])).symm, (((HN1.out.trans hnew).alloc _ _)).drewN _⟩
        by_cases e2 : wi 0 x.next 1000000 = true
        case neg =>
          have e2 : wi 0 x.next 1000000 = false := by simpa using e2
          go_wp2
          go_quiet ((go_at_call 125; exact quiet_left (isNumber_any _ _)))
          go_wp2
          go_ret
          exact ⟨ret_bool (HNO.out (by rw [HOK.out]; simp [okU, e2])).symm, (((HN1.out.trans hnew).alloc _ _)).drewN _⟩
        by_cases e3 : x.ready.size ≤ 30
        case neg =>
          have t3 : decide (30 < (x.ready.size : Int)) = true := by simp; omega
          have E3 := hid e3
          clear e3
          go_wp2
          go_quiet ((go_at_call 125; exact quiet_left (isNumber_any _ _)))
          go_wp2
          go_ret
          exact ⟨ret_bool (HNO.out (by rw [HOK.out]; simp [okU, E3.out])).symm, (((HN1.out.trans hnew).alloc _ _)).drewN _⟩
        have t3 : decide (30 < (x.ready.size : Int)) = false := by simp; omega
        have E3 := hid e3
        clear e3
        go_wp2
        go_quiet ((go_at_call 125; exact quiet_left (isNumber_any _ _)))
        go_wp2
        go_roundw
        case rel => exact HGO.out ((hnew.alloc _ _).drewN _) (by rw [HOK.out]; simp [okU, e1, e2, E3.out])
        case measure => simp [intOf]; omega
      | succ j =>
        have HOK := hid (okAt_succ hlt)
        obtain ⟨d0, d1, d2⟩ := opns_at hc j (by omega)
        rw [← hnw.cell _ _ hb] at d0 d1 d2
        generalize hy : r.units[j] = y at *
        clear hy d1 d2
        clear hc
        generalize hx : r.units[j + 1] = x at *
        clear hx
        by_cases e1 : wi 0 x.unit 1000000 = true
        case neg =>
          have e1 : wi 0 x.unit 1000000 = false := by simpa using e1
          go_wp2
          go_quiet ((go_at_call 125; exact quiet_left (isNumber_any _ _)))
          go_wp2
          go_ret
          exact ⟨ret_bool (HNO.out (by rw [HOK.out]; simp [okU, e1])).symm, (((HN1.out.trans hnew).alloc _ _)).drewN _⟩
        by_cases e2 : wi 0 x.next 1000000 = true
        case neg =>
          have e2 : wi 0 x.next 1000000 = false := by simpa using e2
          go_wp2
          go_quiet ((go_at_call 125; exact quiet_left (isNumber_any _ _)))
          go_wp2
          go_ret
          exact ⟨ret_bool (HNO.out (by rw [HOK.out]; simp [okU, e2])).symm, (((HN1.out.trans hnew).alloc _ _)).drewN _⟩
        by_cases e3 : x.ready.size ≤ 30
        case neg =>
          have t3 : decide (30 < (x.ready.size : Int)) = true := by simp; omega
          have E3 := hid e3
          clear e3
          go_wp2
          go_quiet ((go_at_call 125; exact quiet_left (isNumber_any _ _)))
          go_wp2
          go_ret
          exact ⟨ret_bool (HNO.out (by rw [HOK.out]; simp [okU, E3.out])).symm, (((HN1.out.trans hnew).alloc _ _)).drewN _⟩
        have t3 : decide (30 < (x.ready.size : Int)) = false := by simp; omega
        have E3 := hid e3
        clear e3
        by_cases e4 : y.unit < x.unit
        case neg =>
          have E4 := hid e4
          have e4 : x.unit ≤ y.unit := by omega
          go_wp2
          go_quiet ((go_at_call 125; exact quiet_left (isNumber_any _ _)))
          go_wp2
          go_ret
          exact ⟨ret_bool (HNO.out (by rw [HOK.out]; simp [okU, E4.out])).symm, (((HN1.out.trans hnew).alloc _ _)).drewN _⟩
        have E4 := hid e4
        go_wp2
        go_quiet ((go_at_call 125; exact quiet_left (isNumber_any _ _)))
        go_wp2
        go_roundw
        case rel => exact HGO.out ((hnew.alloc _ _).drewN _) (by rw [HOK.out]; simp [okU, e1, e2, E3.out, E4.out])
        case measure => simp [intOf]; omega
    · obtain rfl : k = r.units.length := by omega
      have HE : Hid _ := openB_end hall.out
      clear hall
      by_cases q1 : r.units.length ≤ 8
      case neg =>
        have t1 : decide ((r.units.length : Int) ≤ 8) = false := by simp; omega
        have Q := hid q1
        clear q1
        go_wp2
        go_ret
        exact ⟨by rw [HV.out, HE.out, decide_eq_false Q.out]; simp, HN1.out.trans hnew⟩
      have t1 : decide ((r.units.length : Int) ≤ 8) = true := by simp; omega
      have Q := hid q1
      by_cases q2 : r.unit = 0
      case neg =>
        have t2 : (r.unit == 0) = false := by simp [q2]
        have Q2 := hid q2
        clear q1 q2
        go_wp2
        go_ret
        exact ⟨by rw [HV.out, decide_eq_false Q2.out]; simp, HN1.out.trans hnew⟩
      have t2 : (r.unit == 0) = true := by simp [q2]
      have Q2 := hid q2
      clear q1 q2
      have H2 := H1.out
      rw [HCC.out] at H2
      have H3 := H2.new hnew
      go_wp2_with fail
      try rw [← HCC.out]
      refine (empty_FFFFT r _ _ _ _ H3).mono ?_
      rintro e w' ⟨rfl, hne⟩
      go_wp2
      go_ret
      refine ⟨ret_bool ?_, (HN1.out.trans hnew).trans hne⟩
      rw [HV.out, HE.out, E1.out, decide_eq_true Q.out, decide_eq_true Q2.out]
      simp only [emptyB, np, nf, Bool.false_or, Bool.true_or, Bool.true_and, Bool.and_true]
      generalize decide (r.page = 0) = x1; generalize decide (r.at_ = 0) = x2; generalize decide (r.after.size = 0) = x3; generalize decide (r.before.size = 0) = x4; generalize nb r = x5; generalize nt r = x7
      revert x1 x2 x3 x4 x5 x7
      decide

/-- progenyref03.Valid, for each record. -/
theorem refValid_any (r : Rec) (bv av uv : Value) (w : World) (h : RecAt w r bv av uv) :
    Calls Tryz.prog 101 #[.agg (recCells r bv av uv)] w fun e w' => e = .returned (.bool (validB r)) ∧ New w w' := by
  by_cases h1 : r.kind = 1
  · exact refValid_1 r bv av uv w h h1
  by_cases h2 : r.kind = 2
  · exact refValid_2 r bv av uv w h h2
  by_cases h3 : r.kind = 3
  · exact refValid_3 r bv av uv w h h3
  by_cases h4 : r.kind = 4
  · exact refValid_4 r bv av uv w h h4
  by_cases h5 : r.kind = 5
  · exact refValid_5 r bv av uv w h h5
  by_cases h6 : r.kind = 6
  · exact refValid_6 r bv av uv w h h6
  by_cases h7 : r.kind = 7
  · exact refValid_7 r bv av uv w h h7
  exact refValid_no r bv av uv w h (by simpa using h1) (by simpa using h2) (by simpa using h3) (by simpa using h4) (by simpa using h5) (by simpa using h6) (by simpa using h7)

end Go.Proofs.YtdccbceaajnajaaGreat

namespace Go.Proofs.YtdccbceaajnajaaGreat
open Go.RowKit

/-- The four bytes of a number. -/
def numB (n : Int) : List UInt8 := [UInt8.ofNat (n / 16777216).toNat, UInt8.ofNat (n / 65536).toNat, UInt8.ofNat (n / 256).toNat, UInt8.ofNat n.toNat]
def bytesOf (l : List UInt8) : ByteArray := ⟨l.toArray⟩
theorem bytesOf_size (l : List UInt8) : (bytesOf l).size = l.length := by simp [bytesOf, ByteArray.size]

/-- A slice of bytes and OK come back, in new memory. -/
def BytesBack (s : ByteArray) (w : World) (e : Ending) (w' : World) : Prop := ∃ v, e = .returned (.tuple #[v, .int .i64 0]) ∧ Bytes w' v s ∧ New w w'


theorem Bytes.made (w : World) (s : ByteArray) (n : Nat) (xs : List Value) (hn : s.size = n) (hm : n ≤ maxLen) (hx : byteVals s = xs) : Bytes (w.alloc (.cells xs.toArray 5)) (.slice (some ⟨w.heap.size, 0, none⟩) n n) s := by
  subst hn hx
  exact RowAt.made w _ 5 s.size hm

theorem numB_vals (n : Int) (h0 : 0 ≤ n) (h1 : n ≤ 4294967295) : byteVals (bytesOf (numB n)) = [.int .u8 (n / 16777216), .int .u8 (n / 65536 % 256), .int .u8 (n / 256 % 256), .int .u8 (n % 256)] := by
  simp only [byteVals, bytesOf, numB, List.map_cons, List.map_nil, UInt8.toNat_ofNat']
  congr 1
  · congr 1; omega
  · congr 1
    · congr 1; omega
    · congr 1
      · congr 1; omega
      · congr 1; congr 1; omega
theorem smallB_vals (n : Int) (h0 : 0 ≤ n) (h1 : n ≤ 255) : byteVals (bytesOf [UInt8.ofNat n.toNat]) = [.int .u8 n] := by
  simp only [byteVals, bytesOf, List.map_cons, List.map_nil, UInt8.toNat_ofNat']
  congr 2; omega

set_option maxHeartbeats 400000 in
theorem octNumber_yes (n : Int) (w : World) (h0 : 0 ≤ n) (h1 : n ≤ 4294967295) : Calls Tryz.prog 99 #[.int .i64 n] w (BytesBack (bytesOf (numB n)) w) := by
  have HV : Hid _ := numB_vals n h0 h1
  go_enter Tryz.func99, Tryz.ntmps99
  go_wp2
  go_ret2
  exact ⟨_, rfl, Bytes.made _ _ 4 _ (by simp [bytesOf_size, numB]) (by decide) HV.out, (New.refl _).alloc _ _⟩

set_option maxHeartbeats 400000 in
theorem octSmall_yes (n : Int) (w : World) (h0 : 0 ≤ n) (h1 : n ≤ 255) : Calls Tryz.prog 123 #[.int .i64 n] w (BytesBack (bytesOf [UInt8.ofNat n.toNat]) w) := by
  have HV : Hid _ := smallB_vals n h0 h1
  go_enter Tryz.func123, Tryz.ntmps123
  go_wp2
  go_ret2
  exact ⟨_, rfl, Bytes.made _ _ 1 _ (by simp [bytesOf_size]) (by decide) HV.out, (New.refl _).alloc _ _⟩

theorem info5 : (Tryz.prog.info? 5).map (fun i => (i.zero, i.size, i.bytes)) = some (some (.int .u8 0), 1, 1) := by kernel_rfl

theorem RowAt.owned {w : World} {base : Nat} {e : TypeId} {size : Nat} {v : Value} {n : Nat} {xs : List Value} (h : w.ownsRow base e size v n xs) : RowAt w v n xs := by
  have hl := h.1
  rcases h.2 with ⟨rfl, rfl⟩ | ⟨g, cap, cur, rfl, hb, hg, hnc, hm, hs, ht⟩
  · exact ⟨none, 0, rfl, Nat.le_refl _, by decide, fun h => by omega⟩
  · refine ⟨_, cap, rfl, hnc, hm, fun _ => ⟨g, 0, rfl, (Array.getElem?_eq_some_iff.1 hg).1, fun i hi => ?_⟩⟩
    rw [Nat.zero_add, cell_of_row w g i cur e (0, 0) hg, ← ht]
    rw [← ht] at hi
    simp only [List.getD_eq_getElem?_getD, List.length_take, Array.length_toList] at *
    rw [List.getElem?_take, if_pos (by omega), List.getElem?_eq_getElem (by simp; omega)]
    simp

theorem text_vals (s : ByteArray) : byteVals (bytesOf (UInt8.ofNat s.size :: s.data.toList)) = [.int .u8 ((s.size % 256 : Nat) : Int)] ++ Lib.strCells s := by
  simp only [byteVals, bytesOf, Lib.strCells, List.map_cons, UInt8.toNat_ofNat', List.cons_append, List.nil_append]
theorem own_bytes {w : World} {base : Nat} {v : Value} {n : Nat} {xs : List Value} {s : ByteArray} (h : w.ownsRow base 5 1 v n xs) (hn : s.size = n) (hx : byteVals s = xs) : Bytes w v s := by
  subst hn hx
  exact RowAt.owned h

theorem app_str {ops : Array Oper} {rest : List Oper} {o : Oper} {a : Act} {w : World} {Q : Exit → Act → World → Prop} (hgd : o.guard = none) (sl x : Operand)
    (ho : o.op = .call { callee := .builtin .append, args := #[sl, x], argTypes := #[29, 9] }) (base : Nat)
    (v : Value) (n : Nat) (xs : List Value) (hs : a.eval sl = v) (hown : w.ownsRow base 5 1 v n xs) (s : ByteArray) (hx : a.eval x = .string s)
    (hb : n + s.size ≤ 140737488355328) (hbase : base ≤ w.heap.size)
    (h : ∀ v' w', w'.ownsRow base 5 1 v' (n + s.size) (xs ++ Lib.strCells s) → w.grownBy w' v.ownBlock → wpList Tryz.prog ops Q rest (a.put o.dst v') w') : wpList Tryz.prog ops Q (o :: rest) a w := by
  obtain ⟨i0, hi, hz0, hz1, hz2⟩ := info_parts info5
  exact Lib.wpList_append_own_string w hgd sl x 29 9 ho base 5 i0 Tryz.underlying29 Tryz.underlying9 hi hz0 hz1 hz2 v n xs hs hown s hx (by unfold maxLen; omega) hb hbase fun v' w' h1 h2 _ => h v' w' h1 h2

set_option maxHeartbeats 400000 in
theorem octText_yes (s : ByteArray) (w : World) (h1 : s.size ≤ 255) : Calls Tryz.prog 124 #[.string s] w (BytesBack (bytesOf (UInt8.ofNat s.size :: s.data.toList)) w) := by
  go_enter Tryz.func124, Tryz.ntmps124
  go_wp2_with (at_builtin; refine app_str rfl _ _ rfl w.heap.size _ 1 _ rfl (World.ownsRow_lit w #[.int .u8 s.size] 1 (Nat.le_refl _) (by decide) rfl) s rfl ?c1 ?c2 ?_)
  case c1 => omega
  case c2 => simp
  intro v' w' hown hgr
  go_wp2
  go_ret2
  refine ⟨_, rfl, own_bytes hown (by simp [bytesOf_size]; omega) ?_, ?_⟩
  · rw [text_vals s]
    have : s.size % 256 = s.size := by omega
    rw [this]; rfl
  · exact ((New.refl w).alloc _ _).grown hgr (by simp) (by simp [Value.ownBlock])

end Go.Proofs.YtdccbceaajnajaaGreat

namespace Go.Proofs.YtdccbceaajnajaaGreat
open Go.RowKit

def u8s (s : List UInt8) : List Value := s.map fun x => .int .u8 x.toNat
theorem u8s_append (s t : List UInt8) : u8s (s ++ t) = u8s s ++ u8s t := by simp [u8s]
theorem u8s_bytes (s : List UInt8) : byteVals (bytesOf s) = u8s s := by simp [byteVals, bytesOf, u8s]
theorem u8s_length (s : List UInt8) : (u8s s).length = s.length := by simp [u8s]
theorem u8s_one (s : List UInt8) : ∀ u ∈ u8s s, u.oneCell' = true := by
  intro u hu
  simp only [u8s, List.mem_map] at hu
  obtain ⟨x, _, rfl⟩ := hu
  rfl

/-- The maker at block bm has these bytes. -/
def Maker (w : World) (bm : Nat) (s : List UInt8) : Prop :=
  ∃ v, w.heap[bm]? = some (.cells #[v] 138 (0, 0)) ∧ w.ownsRow (bm + 1) 5 1 v s.length (u8s s)

theorem Maker.below {w w' : World} {bm : Nat} {s : List UInt8} (h : Maker w bm s) (hb : New w w') : Maker w' bm s := by
  obtain ⟨v, h1, h2⟩ := h
  refine ⟨v, by rw [Below.block hb bm (Array.getElem?_eq_some_iff.1 h1).1]; exact h1, h2.1, ?_⟩
  rcases h2.2 with h3 | ⟨g, cap, cur, e, hg, hh, r⟩
  · exact .inl h3
  · exact .inr ⟨g, cap, cur, e, hg, by rw [Below.block hb g (Array.getElem?_eq_some_iff.1 hh).1]; exact hh, r⟩

theorem app_bytes {ops : Array Oper} {rest : List Oper} {o : Oper} {a : Act} {w : World} {Q : Exit → Act → World → Prop} (hgd : o.guard = none) (sl x : Operand)
    (ho : o.op = .call { callee := .builtin .append, args := #[sl, x], argTypes := #[29, 29] }) (base : Nat)
    (v : Value) (n : Nat) (xs : List Value) (hs : a.eval sl = v) (hown : w.ownsRow base 5 1 v n xs) (u : Value) (hx : a.eval x = u) (s : List UInt8) (hu : Bytes w u (bytesOf s)) (hpos : 0 < s.length)
    (hb : n + s.length ≤ 140737488355328) (hbase : base ≤ w.heap.size)
    (h : ∀ v' w', w'.ownsRow base 5 1 v' (n + s.length) (xs ++ u8s s) → w.grownBy w' v.ownBlock → wpList Tryz.prog ops Q rest (a.put o.dst v') w') : wpList Tryz.prog ops Q (o :: rest) a w := by
  obtain ⟨i0, hi, hz0, hz1, hz2⟩ := info_parts info5
  obtain ⟨p, c, rfl, h1, h2, h3⟩ := hu
  rw [u8s_bytes, bytesOf_size, u8s_length] at h3
  rw [bytesOf_size] at hx h1
  obtain ⟨b, off, rfl, hb', hc⟩ := h3 hpos
  exact wpList_append_own w hgd sl x 29 ho base 5 i0 _ 1 1 Tryz.underlying29 hi hz0 hz1 hz2 rfl (by decide) v n xs hs hown ⟨b, off, none⟩ s.length c (u8s s) hx (by rw [u8s_length]; omega)
    (fun j u hj => by
      have hjl : j < s.length := by
        have := (List.getElem?_eq_some_iff.1 hj).1
        rwa [u8s_length] at this
      have e : (⟨b, off, none⟩ : Addr).add j = ⟨b, off + j, none⟩ := by unfold Addr.add; split <;> simp_all
      rw [e, hc j hjl]
      simp [List.getD_eq_getElem?_getD, hj]) (u8s_one s) (by unfold maxLen; omega) (by omega) hbase fun v' w' h1 h2 _ => h v' w' h1 h2

/-- A maker has more bytes; what lay below it lies as it lay. -/
def MakerBack (bm : Nat) (s : List UInt8) (w : World) (e : Ending) (w' : World) : Prop := e = .returned (.tuple #[]) ∧ Maker w' bm s ∧ Below bm w w' ∧ bm < w'.heap.size

theorem maker_store {w w1 w2 : World} {bm : Nat} {v v' : Value} {s t : List UInt8} (hm : w1.heap[bm]? = some (.cells #[v] 138 (0, 0))) (hv : ∀ k, v.ownBlock = some k → bm + 1 ≤ k)
    (hb : Below bm w w1) (hown : w2.ownsRow (bm + 1) 5 1 v' (s.length + t.length) (u8s s ++ u8s t)) (hg : w1.grownBy w2 v.ownBlock) :
    MakerBack bm (s ++ t) w (.returned (.tuple #[])) (w2.setCell ⟨bm, 0, none⟩ v') := by
  have hlt := (Array.getElem?_eq_some_iff.1 hm).1
  have h2 : w2.heap[bm]? = some (.cells #[v] 138 (0, 0)) := by
    rw [hg.block bm hlt (fun e => by have := hv bm e.symm; omega)]; exact hm
  refine ⟨rfl, ⟨v', ?_, ?_⟩, ?_, ?_⟩
  · exact heap_setCell_same w2 bm 0 #[v] 138 v' h2
  · rw [u8s_append, List.length_append]
    exact ownsRow_setCell_below hown (by show bm < bm + 1; omega) v'
  · exact (hb.grown hg (by omega) (fun k hk => by have := hv k hk; omega)).setCell (Nat.le_refl _) _
  · have := hg.size; simp [World.setCell]; omega

theorem maker_cell {w : World} {bm : Nat} {v : Value} (h : w.heap[bm]? = some (.cells #[v] 138 (0, 0))) : w.cell? ⟨bm, 0, none⟩ = some v ∧ w.frozen? ⟨bm, 0, none⟩ = false :=
  ⟨by simp only [World.cell?, h]; rfl, by simp only [World.frozen?, h]; simp⟩

theorem own_slice {w : World} {base : Nat} {e : TypeId} {size : Nat} {v : Value} {n : Nat} {xs : List Value} (h : w.ownsRow base e size v n xs) : ∃ A k c, v = .slice A k c := by
  rcases h.2 with ⟨rfl, _⟩ | ⟨g, cap, cur, rfl, _⟩
  · exact ⟨_, _, _, rfl⟩
  · exact ⟨_, _, _, rfl⟩
theorem own_from {w : World} {base : Nat} {e : TypeId} {size : Nat} {v : Value} {n : Nat} {xs : List Value} (h : w.ownsRow base e size v n xs) : ∀ k, v.ownBlock = some k → base ≤ k := fun k hk => (h.lt k hk).1
theorem maker_later {w1 w2 : World} {bm : Nat} {v : Value} (hm : w1.heap[bm]? = some (.cells #[v] 138 (0, 0))) (hv : ∀ k, v.ownBlock = some k → bm + 1 ≤ k) (hg : w1.grownBy w2 v.ownBlock) :
    w2.cell? ⟨bm, 0, none⟩ = some v ∧ w2.frozen? ⟨bm, 0, none⟩ = false := by
  have hlt := (Array.getElem?_eq_some_iff.1 hm).1
  exact maker_cell (by rw [hg.block bm hlt (fun e => by have := hv bm e.symm; omega)]; exact hm)

set_option maxHeartbeats 800000 in
theorem makerNumber (bm : Nat) (n : Int) (s : List UInt8) (w : World) (h0 : 0 ≤ n) (h1 : n ≤ 4294967295) (hs : s.length ≤ 100000) (hm : Maker w bm s) :
    Calls Tryz.prog 96 #[.pointer (some ⟨bm, 0, none⟩), .int .i64 n] w (MakerBack bm (s ++ numB n) w) := by
  have hb : bm < w.heap.size := by obtain ⟨v, h, _⟩ := hm; exact (Array.getElem?_eq_some_iff.1 h).1
  go_enter Tryz.func96, Tryz.ntmps96
  go_wp2_with fail
  refine (octNumber_yes n _ h0 h1).mono ?_
  rintro e w1 ⟨u, rfl, hu, hn⟩
  obtain ⟨v, m1, m2⟩ := hm.below hn
  obtain ⟨c1, f1⟩ := maker_cell m1
  have hlt := (Array.getElem?_eq_some_iff.1 m1).1
  go_wp2_with (at_builtin; refine app_bytes rfl _ _ rfl (bm + 1) _ _ _ rfl m2 _ rfl (numB n) hu (by simp [numB]) ?c1 ?c2 ?_)
  case c1 => simp [numB]; omega
  case c2 => omega
  intro v' w2 hown hg
  obtain ⟨c3, f3⟩ := maker_later m1 (own_from m2) hg
  obtain ⟨A', k', c', rfl⟩ := own_slice hown
  go_wp2
  go_end0
  exact maker_store m1 (own_from m2) (Below.mono hn (by omega)) hown hg

set_option maxHeartbeats 800000 in
theorem makerSmall (bm : Nat) (n : Int) (s : List UInt8) (w : World) (h0 : 0 ≤ n) (h1 : n ≤ 255) (hs : s.length ≤ 100000) (hm : Maker w bm s) :
    Calls Tryz.prog 97 #[.pointer (some ⟨bm, 0, none⟩), .int .i64 n] w (MakerBack bm (s ++ [UInt8.ofNat n.toNat]) w) := by
  have hb : bm < w.heap.size := by obtain ⟨v, h, _⟩ := hm; exact (Array.getElem?_eq_some_iff.1 h).1
  go_enter Tryz.func97, Tryz.ntmps97
  go_wp2_with fail
  refine (octSmall_yes n _ h0 h1).mono ?_
  rintro e w1 ⟨u, rfl, hu, hn⟩
  obtain ⟨v, m1, m2⟩ := hm.below hn
  obtain ⟨c1, f1⟩ := maker_cell m1
  have hlt := (Array.getElem?_eq_some_iff.1 m1).1
  go_wp2_with (at_builtin; refine app_bytes rfl _ _ rfl (bm + 1) _ _ _ rfl m2 _ rfl ([UInt8.ofNat n.toNat]) hu (by simp) ?c1 ?c2 ?_)
  case c1 => simp; omega
  case c2 => omega
  intro v' w2 hown hg
  obtain ⟨c3, f3⟩ := maker_later m1 (own_from m2) hg
  obtain ⟨A', k', c', rfl⟩ := own_slice hown
  go_wp2
  go_end0
  exact maker_store m1 (own_from m2) (Below.mono hn (by omega)) hown hg

set_option maxHeartbeats 800000 in
theorem makerText (bm : Nat) (t : ByteArray) (s : List UInt8) (w : World) (h1 : t.size ≤ 255) (hs : s.length ≤ 100000) (hm : Maker w bm s) :
    Calls Tryz.prog 98 #[.pointer (some ⟨bm, 0, none⟩), .string t] w (MakerBack bm (s ++ (UInt8.ofNat t.size :: t.data.toList)) w) := by
  have hb : bm < w.heap.size := by obtain ⟨v, h, _⟩ := hm; exact (Array.getElem?_eq_some_iff.1 h).1
  go_enter Tryz.func98, Tryz.ntmps98
  go_wp2_with fail
  refine (octText_yes t _ h1).mono ?_
  rintro e w1 ⟨u, rfl, hu, hn⟩
  obtain ⟨v, m1, m2⟩ := hm.below hn
  obtain ⟨c1, f1⟩ := maker_cell m1
  have hlt := (Array.getElem?_eq_some_iff.1 m1).1
  go_wp2_with (at_builtin; refine app_bytes rfl _ _ rfl (bm + 1) _ _ _ rfl m2 _ rfl ((UInt8.ofNat t.size :: t.data.toList)) hu (by simp) ?c1 ?c2 ?_)
  case c1 => simp; omega
  case c2 => omega
  intro v' w2 hown hg
  obtain ⟨c3, f3⟩ := maker_later m1 (own_from m2) hg
  obtain ⟨A', k', c', rfl⟩ := own_slice hown
  go_wp2
  go_end0
  exact maker_store m1 (own_from m2) (Below.mono hn (by omega)) hown hg

end Go.Proofs.YtdccbceaajnajaaGreat
