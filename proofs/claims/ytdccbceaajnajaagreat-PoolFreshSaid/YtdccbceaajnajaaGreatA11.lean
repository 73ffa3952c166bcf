/- What tape.Encode returns for sound records of each kind but marks. -/
import Derived.Test.YtdccbceaajnajaaGreatA7
import Derived.Test.YtdccbceaajnajaaGreatA10
import Derived.Laws.CopyOwn
namespace Go.Proofs.YtdccbceaajnajaaGreat
open Go.RowKit
set_option linter.unusedSimpArgs false
set_option linter.unusedVariables false

theorem info5s : (Tryz.prog.info? 5).map (·.size) = some 1 := by kernel_rfl
theorem addr_at (b o j : Nat) : (⟨b, o, none⟩ : Addr).add j = ⟨b, o + j, none⟩ := by unfold Addr.add; split <;> simp_all

/-- copy over the head of a row of bytes of the call's own. -/
theorem copy_head {ops : Array Oper} {rest : List Oper} {o : Oper} {a : Act} {w : World} {Q : Exit → Act → World → Prop} (hgd : o.guard = none) (d s : Operand)
    (ho : o.op = .call { callee := .builtin .copy, args := #[d, s], argTypes := #[29, 29] }) (base : Nat)
    (v : Value) (n : Nat) (xs : List Value) (hd : a.eval d = v) (hown : w.ownsRow base 5 1 v n xs) (u : Value) (hs : a.eval s = u) (t : List UInt8) (hu : Bytes w u (bytesOf t)) (hpos : 0 < t.length) (hle : t.length ≤ n)
    (h : ∀ w', w'.ownsRow base 5 1 v n (u8s t ++ xs.drop t.length) → w.grownBy w' v.ownBlock → wpList Tryz.prog ops Q rest (a.put o.dst (goInt t.length)) w') : wpList Tryz.prog ops Q (o :: rest) a w := by
  obtain ⟨p, c, rfl, h1, h2, h3⟩ := hu
  rw [u8s_bytes, bytesOf_size, u8s_length] at h3
  rw [bytesOf_size] at hs h1
  obtain ⟨b, off, rfl, hb', hc⟩ := h3 hpos
  rcases hown.2 with ⟨rfl, rfl⟩ | ⟨g, cap, cur, rfl, hbg, hg, hnc, hcm, hcs, htake⟩
  · omega
  have hl := u8s_length t
  refine wpList_copy_own hgd d s 29 29 ho 5 Tryz.underlying29 info5s g 0 n cap ⟨b, off, none⟩ t.length c hd hs cur 5 hg (u8s t) (by rw [hl]; exact (Nat.min_eq_left hle).symm) (fun j u hj => ?_) (by rw [hl]; omega) (u8s_one t) ?_
  · have hjl : j < t.length := by
      have := (List.getElem?_eq_some_iff.1 hj).1
      rwa [hl] at this
    rw [addr_at, hc j hjl]
    simp [List.getD_eq_getElem?_getD, hj]
  · rw [hl]
    have hx : xs.length = n := by have := hown.1; omega
    refine h _ ⟨by simp [hl, hx]; omega, .inr ⟨g, cap, _, rfl, hbg, setRow_heap w g cur _ 5 _ hg, hnc, hcm, ?_, ?_⟩⟩ ⟨rfl, rfl, rfl, by simp [World.setRow], fun k _ hk => setRow_other w g k _ (fun e => hk (by simp [Value.ownBlock, e]))⟩
    · simp [hl]; omega
    · simp only [Nat.zero_add, List.take_zero, List.nil_append, Nat.mul_one]
      rw [Nat.mul_one] at htake
      rw [← htake, List.drop_take, List.take_append, hl, List.take_of_length_le (by omega)]

theorem own_new {w w' : World} {base : Nat} {e : TypeId} {size : Nat} {v : Value} {n : Nat} {xs : List Value} (h : w.ownsRow base e size v n xs) (hb : New w w') : w'.ownsRow base e size v n xs := by
  refine ⟨h.1, ?_⟩
  rcases h.2 with h3 | ⟨g, cap, cur, e, hg, hh, r⟩
  · exact .inl h3
  · exact .inr ⟨g, cap, cur, e, hg, by rw [Below.block hb g (Array.getElem?_eq_some_iff.1 hh).1]; exact hh, r⟩
theorem Bytes.renew {w w' : World} {v : Value} {s : ByteArray} (h : Bytes w v s) (hb : New w w') : Bytes w' v s := RowAt.new h hb
theorem New.trans_grown {w a b : World} {row : Option Nat} (h : New w a) (hg : a.grownBy b row) (hr : ∀ k, row = some k → w.heap.size ≤ k) : New w b := Below.grown h hg h.size hr
theorem New.below {w a b : World} {B : Nat} (h : New w a) (hb : Below B a b) (hB : w.heap.size ≤ B) : New w b := Below.trans h (hb.mono hB)

def textB (s : ByteArray) : List UInt8 := UInt8.ofNat s.size :: s.data.toList
def smallB (n : Int) : List UInt8 := [UInt8.ofNat n.toNat]
def opnB (u : Opn) : List UInt8 := numB u.unit ++ numB u.next ++ textB u.ready
/-- What stands behind the four parts that all records have. -/
def restB (r : Rec) : List UInt8 :=
  if r.kind = 1 then numB r.page ++ smallB r.at_ ++ textB r.before ++ textB r.after
  else if r.kind = 2 then numB r.page ++ smallB r.at_ ++ textB r.after ++ numB r.back ++ numB r.next
  else if r.kind = 5 ∨ r.kind = 7 then textB r.text
  else if r.kind = 6 then smallB r.units.length ++ r.units.flatMap opnB
  else []
def headB (n : Int) (r : Rec) : List UInt8 := numB n ++ smallB r.kind ++ numB r.unit
/-- The block of a record. -/
def encB (n : Int) (r : Rec) : List UInt8 := numB (4 + (headB n r ++ restB r).length) ++ (headB n r ++ restB r)

theorem Below.cells {B b : Nat} {w w' : World} (h : Below B w w') (hb : b < B) : (∀ o, w'.cell? ⟨b, o, none⟩ = w.cell? ⟨b, o, none⟩) ∧ (∀ o, w'.frozen? ⟨b, o, none⟩ = w.frozen? ⟨b, o, none⟩) :=
  ⟨fun o => h.cell (p := ⟨b, o, none⟩) hb, fun o => h.frozen (p := ⟨b, o, none⟩) hb⟩
theorem maker_new (w : World) : Maker (w.alloc (.cells #[.slice none 0 0] 138)) w.heap.size [] :=
  ⟨_, heap_alloc_new w _, World.ownsRow_nil _ _ _ _⟩

theorem below_at {B b : Nat} {W W' : World} {c : Array Value} (h : Below B W W') (hb : b < B) (hc : ∀ o, W.cell? ⟨b, o, none⟩ = c[o]?) : ∀ o, W'.cell? ⟨b, o, none⟩ = c[o]? :=
  fun o => (h.cell (p := ⟨b, o, none⟩) hb).trans (hc o)
theorem own_len {w : World} {base : Nat} {e : TypeId} {size : Nat} {v : Value} {n : Nat} {xs : List Value} (h : w.ownsRow base e size v n xs) : ∃ A c, v = .slice A n c := by
  rcases h.2 with ⟨rfl, rfl⟩ | ⟨g, cap, cur, rfl, _⟩
  · exact ⟨_, _, rfl⟩
  · exact ⟨_, _, rfl⟩
theorem numB_length (n : Int) : (numB n).length = 4 := rfl
theorem drop_num (n : Int) (l : List UInt8) : (numB n ++ l).drop 4 = l := rfl
/-- The bytes of a block, whose first four were laid last. -/
theorem enc_fin {n : Int} {r : Rec} {S : List UInt8} (hS : S = numB 0 ++ (headB n r ++ restB r)) : byteVals (bytesOf (encB n r)) = u8s (numB (S.length : Int)) ++ (u8s S).drop (numB (S.length : Int)).length ∧ (bytesOf (encB n r)).size = S.length := by
  have h4 : S.length = 4 + (headB n r ++ restB r).length := by rw [hS, List.length_append, numB_length]
  have e : (u8s S).drop (numB (S.length : Int)).length = u8s (headB n r ++ restB r) := by
    rw [numB_length, hS, u8s_append, show u8s (numB 0) = [.int .u8 0, .int .u8 0, .int .u8 0, .int .u8 0] from rfl]
    rfl
  rw [e, u8s_bytes, bytesOf_size, encB, ← u8s_append, h4]
  refine ⟨?_, ?_⟩
  · rw [show ((4 + (headB n r ++ restB r).length : Nat) : Int) = 4 + ((headB n r ++ restB r).length : Int) from by omega]
  · rw [List.length_append, numB_length]

theorem valid_bounds_1 {r : Rec} (hk : r.kind = 1) (hv : validB r = true) : 0 ≤ r.unit ∧ r.unit ≤ 1000000 ∧ 0 ≤ r.page ∧ r.page ≤ 119 ∧ 0 ≤ r.at_ ∧ r.at_ ≤ 127 ∧ r.before.size ≤ 128 ∧ r.after.size ≤ 128 := by
  have hv := hv
  simp only [validB, hk, wi_iff, Bool.and_eq_true, placeB, decide_eq_true_eq, Bool.if_true_right, Bool.if_false_right] at hv
  simp only [wi_iff, Bool.and_eq_true, placeB, np, nf, nb, nu, nt, decide_eq_true_eq, if_true, if_false, reduceIte, Int.reduceEq] at hv
  omega
set_option maxRecDepth 100000 in
set_option maxHeartbeats 8000000 in
theorem enc_1 (n : Int) (r : Rec) (bv av uv : Value) (w : World) (h : RecAt w r bv av uv) (hk : r.kind = 1) (hv : validB r = true) (h1 : 1 ≤ n) (h2 : n ≤ 1000000) :
    Calls Tryz.prog 62 #[.int .i64 n, .agg (recCells r bv av uv)] w (BytesBack (bytesOf (encB n r)) w) := by
  have hr := h
  obtain ⟨⟨bp, bc, rfl, b1, b2, _⟩, ⟨ap, ac, rfl, a1, a2, _⟩, ⟨up, uc, rfl, l1, l2, _⟩⟩ := h
  unfold maxLen at a2 b2 l2
  have HC : recCells r (Value.slice bp r.before.size bc) (Value.slice ap r.after.size ac) (Value.slice up r.units.length uc) = #[.int .i64 1, .int .i64 r.unit, .int .i64 r.page, .int .i64 r.at_, Value.slice bp r.before.size bc, Value.slice ap r.after.size ac, .int .i64 r.back, .int .i64 r.next, .string r.text, Value.slice up r.units.length uc] := by unfold recCells; rw [hk]
  rw [HC]
  have HC := hid HC
  have hV := valid_bounds_1 hk hv
  have HK := hid hk
  clear hk
  go_enter Tryz.func62, Tryz.ntmps62
  go_wp2_with fail
  rw [← HC.out]
  refine (valid_any r _ _ _ _ (hr.new ((New.refl w).alloc _ _))).mono ?_
  rintro e w1 ⟨rfl, n1⟩
  rw [HC.out]
  rw [HC.out] at n1
  go_wp2_with fail
  refine (within_yes _ _ _ _ ⟨h1, h2⟩).mono ?_
  rintro e w' ⟨rfl, rfl⟩
  obtain ⟨q1, q2⟩ := n1.made
  go_wp2_with fail
  refine (forms_1 _).mono ?_
  rintro e w2 ⟨rfl, n2⟩
  clear q1 q2
  have n2' := n1.trans n2
  have hz : w.heap.size < w2.heap.size := by have := n2'.size; simp at this; omega
  obtain ⟨R0, R0'⟩ := n2'.made
  go_wp2_with fail
  have hW : New w ((w2.alloc (.cells #[.bool true, .bool true, .bool false, .bool false, .bool false] 126)).alloc (.cells #[.slice none 0 0] 138)) := ((((New.refl w).alloc _ _).trans n2').alloc _ _).alloc _ _
  clear R0 R0'
  have R0 := (((n2'.alloc _ _).alloc _ _ : New (w.alloc (.cells #[.int .i64 1, .int .i64 r.unit, .int .i64 r.page, .int .i64 r.at_, Value.slice bp r.before.size bc, Value.slice ap r.after.size ac, .int .i64 r.back, .int .i64 r.next, .string r.text, Value.slice up r.units.length uc] 70)) ((w2.alloc (.cells #[.bool true, .bool true, .bool false, .bool false, .bool false] 126)).alloc (.cells #[.slice none 0 0] 138)))).made.1
  have F0 := ((New.refl _).alloc _ _ : New (w2.alloc (.cells #[.bool true, .bool true, .bool false, .bool false, .bool false] 126)) ((w2.alloc (.cells #[.bool true, .bool true, .bool false, .bool false, .bool false] 126)).alloc (.cells #[.slice none 0 0] 138))).made.1
  have m0 := maker_new (w2.alloc (.cells #[.bool true, .bool true, .bool false, .bool false, .bool false] 126))
  rw [World.size_alloc] at m0
  have hB0 := Below.refl (w2.heap.size + 1) ((w2.alloc (.cells #[.bool true, .bool true, .bool false, .bool false, .bool false] 126)).alloc (.cells #[.slice none 0 0] 138))
  refine (makerNumber _ (0) _ _ (by omega) (by omega) (by simp [numB_length] <;> omega) m0).mono ?_
  rintro e v1 ⟨rfl, m1, hb1, hl1⟩
  have hB1 := hB0.trans hb1
  have R1 := below_at hb1 (by omega) R0
  have F1 := below_at hb1 (by omega) F0
  clear R0 F0 m0 hb1 hB0
  go_wp2_with fail
  refine (makerNumber _ n _ _ (by omega) (by omega) (by simp [numB_length] <;> omega) m1).mono ?_
  rintro e v2 ⟨rfl, m2, hb2, hl2⟩
  have hB2 := hB1.trans hb2
  have R2 := below_at hb2 (by omega) R1
  have F2 := below_at hb2 (by omega) F1
  clear R1 F1 m1 hb2 hB1
  go_wp2_with fail
  refine (makerSmall _ (1) _ _ (by omega) (by omega) (by simp [numB_length] <;> omega) m2).mono ?_
  rintro e v3 ⟨rfl, m3, hb3, hl3⟩
  have hB3 := hB2.trans hb3
  have R3 := below_at hb3 (by omega) R2
  have F3 := below_at hb3 (by omega) F2
  clear R2 F2 m2 hb3 hB2
  go_wp2_with fail
  refine (makerNumber _ r.unit _ _ (by omega) (by omega) (by simp [numB_length] <;> omega) m3).mono ?_
  rintro e v4 ⟨rfl, m4, hb4, hl4⟩
  have hB4 := hB3.trans hb4
  have R4 := below_at hb4 (by omega) R3
  have F4 := below_at hb4 (by omega) F3
  clear R3 F3 m3 hb4 hB3
  go_wp2_with fail
  refine (makerNumber _ r.page _ _ (by omega) (by omega) (by simp [numB_length] <;> omega) m4).mono ?_
  rintro e v5 ⟨rfl, m5, hb5, hl5⟩
  have hB5 := hB4.trans hb5
  have R5 := below_at hb5 (by omega) R4
  have F5 := below_at hb5 (by omega) F4
  clear R4 F4 m4 hb5 hB4
  go_wp2_with fail
  refine (makerSmall _ r.at_ _ _ (by omega) (by omega) (by simp [numB_length] <;> omega) m5).mono ?_
  rintro e v6 ⟨rfl, m6, hb6, hl6⟩
  have hB6 := hB5.trans hb6
  have R6 := below_at hb6 (by omega) R5
  have F6 := below_at hb6 (by omega) F5
  clear R5 F5 m5 hb6 hB5
  have kc := (Bytes.renew hr.before (hW.below hB6 (by omega))).convert (P := Tryz.prog) 29 5 9 Tryz.underlying29 Tryz.underlying5 Tryz.underlying9
  go_wp2_with fail
  clear kc
  refine (makerText _ r.before _ _ (by omega) (by simp [numB_length] <;> omega) m6).mono ?_
  rintro e v7 ⟨rfl, m7, hb7, hl7⟩
  have hB7 := hB6.trans hb7
  have R7 := below_at hb7 (by omega) R6
  have F7 := below_at hb7 (by omega) F6
  clear R6 F6 m6 hb7 hB6
  have kc := (Bytes.renew hr.after (hW.below hB7 (by omega))).convert (P := Tryz.prog) 29 5 9 Tryz.underlying29 Tryz.underlying5 Tryz.underlying9
  go_wp2_with fail
  clear kc
  refine (makerText _ r.after _ _ (by omega) (by simp [numB_length] <;> omega) m7).mono ?_
  rintro e v8 ⟨rfl, m8, hb8, hl8⟩
  have hB8 := hB7.trans hb8
  have R8 := below_at hb8 (by omega) R7
  have F8 := below_at hb8 (by omega) F7
  clear R7 F7 m7 hb8 hB7
  obtain ⟨S, hS⟩ : ∃ S, S = ([] ++ numB 0 ++ numB n ++ [UInt8.ofNat ((1 : Int)).toNat] ++ numB r.unit ++ numB r.page ++ [UInt8.ofNat r.at_.toNat] ++ (UInt8.ofNat r.before.size :: r.before.data.toList) ++ (UInt8.ofNat r.after.size :: r.after.data.toList)) := ⟨_, rfl⟩
  rw [← hS] at m8
  have hSl : S.length ≤ 2000 := by rw [hS]; simp [numB_length] <;> omega
  have hS4 : 4 ≤ S.length := by rw [hS]; simp [numB_length] <;> omega
  have HF := hid (enc_fin (n := n) (r := r) (S := S) (by rw [hS]; simp [headB, restB, HK.out, smallB, textB]))
  clear hS
  obtain ⟨v, x1, x2⟩ := m8
  obtain ⟨y1, y2⟩ := maker_cell x1
  obtain ⟨A, c, rfl⟩ := own_len x2
  go_wp2_with fail
  refine (octNumber_yes _ _ (by omega) (by omega)).mono ?_
  rintro e z1 ⟨u, rfl, hu, nz⟩
  clear R8 F8 y1 y2
  have m2 : Maker v8 (w2.heap.size + 1) S := ⟨_, x1, x2⟩
  have x3 : z1.heap[w2.heap.size + 1]? = some (.cells #[.slice A S.length c] 138 (0, 0)) := by rw [Below.block nz _ (by omega)]; exact x1
  have x4 : z1.ownsRow (w2.heap.size + 1 + 1) 5 1 (.slice A S.length c) S.length (u8s S) := own_new x2 nz
  obtain ⟨y1, y2⟩ := maker_cell x3
  have hp : 0 < (numB (S.length : Int)).length := by simp [numB_length]
  have hq : (numB (S.length : Int)).length ≤ S.length := by rw [numB_length]; exact hS4
  have HP := hid hp
  have HQ := hid hq
  clear hp hq
  go_wp2_with (with_reducible refine copy_head rfl (.tmp 121) (.tmp 122) rfl (w2.heap.size + 1 + 1) _ _ _ ?hd x4 _ ?hs _ hu HP.out HQ.out ?_)
  case hd => rfl
  case hs => rfl
  intro z2 hown hg
  obtain ⟨y3, y4⟩ := maker_later x3 (own_from x4) hg
  go_wp2
  go_ret2
  refine ⟨_, rfl, own_bytes hown HF.out.2 HF.out.1, ((hW.below hB8 ?_).trans nz).trans_grown hg ?_⟩
  · omega
  · intro k hk; have := own_from x4 k hk; omega
theorem valid_bounds_2 {r : Rec} (hk : r.kind = 2) (hv : validB r = true) : 0 ≤ r.unit ∧ r.unit ≤ 1000000 ∧ 0 ≤ r.page ∧ r.page ≤ 119 ∧ 0 ≤ r.at_ ∧ r.at_ ≤ 127 ∧ r.after.size ≤ 128 ∧ 0 ≤ r.back ∧ r.back ≤ 1000000 ∧ 0 ≤ r.next ∧ r.next ≤ 1000000 := by
  have hv := hv
  simp only [validB, hk, wi_iff, Bool.and_eq_true, placeB, decide_eq_true_eq, Bool.if_true_right, Bool.if_false_right] at hv
  simp only [wi_iff, Bool.and_eq_true, placeB, np, nf, nb, nu, nt, decide_eq_true_eq, if_true, if_false, reduceIte, Int.reduceEq] at hv
  omega
set_option maxRecDepth 100000 in
set_option maxHeartbeats 8000000 in
theorem enc_2 (n : Int) (r : Rec) (bv av uv : Value) (w : World) (h : RecAt w r bv av uv) (hk : r.kind = 2) (hv : validB r = true) (h1 : 1 ≤ n) (h2 : n ≤ 1000000) :
    Calls Tryz.prog 62 #[.int .i64 n, .agg (recCells r bv av uv)] w (BytesBack (bytesOf (encB n r)) w) := by
  have hr := h
  obtain ⟨⟨bp, bc, rfl, b1, b2, _⟩, ⟨ap, ac, rfl, a1, a2, _⟩, ⟨up, uc, rfl, l1, l2, _⟩⟩ := h
  unfold maxLen at a2 b2 l2
  have HC : recCells r (Value.slice bp r.before.size bc) (Value.slice ap r.after.size ac) (Value.slice up r.units.length uc) = #[.int .i64 2, .int .i64 r.unit, .int .i64 r.page, .int .i64 r.at_, Value.slice bp r.before.size bc, Value.slice ap r.after.size ac, .int .i64 r.back, .int .i64 r.next, .string r.text, Value.slice up r.units.length uc] := by unfold recCells; rw [hk]
  rw [HC]
  have HC := hid HC
  have hV := valid_bounds_2 hk hv
  have HK := hid hk
  clear hk
  go_enter Tryz.func62, Tryz.ntmps62
  go_wp2_with fail
  rw [← HC.out]
  refine (valid_any r _ _ _ _ (hr.new ((New.refl w).alloc _ _))).mono ?_
  rintro e w1 ⟨rfl, n1⟩
  rw [HC.out]
  rw [HC.out] at n1
  go_wp2_with fail
  refine (within_yes _ _ _ _ ⟨h1, h2⟩).mono ?_
  rintro e w' ⟨rfl, rfl⟩
  obtain ⟨q1, q2⟩ := n1.made
  go_wp2_with fail
  refine (forms_2 _).mono ?_
  rintro e w2 ⟨rfl, n2⟩
  clear q1 q2
  have n2' := n1.trans n2
  have hz : w.heap.size < w2.heap.size := by have := n2'.size; simp at this; omega
  obtain ⟨R0, R0'⟩ := n2'.made
  go_wp2_with fail
  have hW : New w ((w2.alloc (.cells #[.bool true, .bool false, .bool true, .bool false, .bool false] 126)).alloc (.cells #[.slice none 0 0] 138)) := ((((New.refl w).alloc _ _).trans n2').alloc _ _).alloc _ _
  clear R0 R0'
  have R0 := (((n2'.alloc _ _).alloc _ _ : New (w.alloc (.cells #[.int .i64 2, .int .i64 r.unit, .int .i64 r.page, .int .i64 r.at_, Value.slice bp r.before.size bc, Value.slice ap r.after.size ac, .int .i64 r.back, .int .i64 r.next, .string r.text, Value.slice up r.units.length uc] 70)) ((w2.alloc (.cells #[.bool true, .bool false, .bool true, .bool false, .bool false] 126)).alloc (.cells #[.slice none 0 0] 138)))).made.1
  have F0 := ((New.refl _).alloc _ _ : New (w2.alloc (.cells #[.bool true, .bool false, .bool true, .bool false, .bool false] 126)) ((w2.alloc (.cells #[.bool true, .bool false, .bool true, .bool false, .bool false] 126)).alloc (.cells #[.slice none 0 0] 138))).made.1
  have m0 := maker_new (w2.alloc (.cells #[.bool true, .bool false, .bool true, .bool false, .bool false] 126))
  rw [World.size_alloc] at m0
  have hB0 := Below.refl (w2.heap.size + 1) ((w2.alloc (.cells #[.bool true, .bool false, .bool true, .bool false, .bool false] 126)).alloc (.cells #[.slice none 0 0] 138))
  refine (makerNumber _ (0) _ _ (by omega) (by omega) (by simp [numB_length] <;> omega) m0).mono ?_
  rintro e v1 ⟨rfl, m1, hb1, hl1⟩
  have hB1 := hB0.trans hb1
  have R1 := below_at hb1 (by omega) R0
  have F1 := below_at hb1 (by omega) F0
  clear R0 F0 m0 hb1 hB0
  go_wp2_with fail
  refine (makerNumber _ n _ _ (by omega) (by omega) (by simp [numB_length] <;> omega) m1).mono ?_
  rintro e v2 ⟨rfl, m2, hb2, hl2⟩
  have hB2 := hB1.trans hb2
  have R2 := below_at hb2 (by omega) R1
  have F2 := below_at hb2 (by omega) F1
  clear R1 F1 m1 hb2 hB1
  go_wp2_with fail
  refine (makerSmall _ (2) _ _ (by omega) (by omega) (by simp [numB_length] <;> omega) m2).mono ?_
  rintro e v3 ⟨rfl, m3, hb3, hl3⟩
  have hB3 := hB2.trans hb3
  have R3 := below_at hb3 (by omega) R2
  have F3 := below_at hb3 (by omega) F2
  clear R2 F2 m2 hb3 hB2
  go_wp2_with fail
  refine (makerNumber _ r.unit _ _ (by omega) (by omega) (by simp [numB_length] <;> omega) m3).mono ?_
  rintro e v4 ⟨rfl, m4, hb4, hl4⟩
  have hB4 := hB3.trans hb4
  have R4 := below_at hb4 (by omega) R3
  have F4 := below_at hb4 (by omega) F3
  clear R3 F3 m3 hb4 hB3
  go_wp2_with fail
  refine (makerNumber _ r.page _ _ (by omega) (by omega) (by simp [numB_length] <;> omega) m4).mono ?_
  rintro e v5 ⟨rfl, m5, hb5, hl5⟩
  have hB5 := hB4.trans hb5
  have R5 := below_at hb5 (by omega) R4
  have F5 := below_at hb5 (by omega) F4
  clear R4 F4 m4 hb5 hB4
  go_wp2_with fail
  refine (makerSmall _ r.at_ _ _ (by omega) (by omega) (by simp [numB_length] <;> omega) m5).mono ?_
  rintro e v6 ⟨rfl, m6, hb6, hl6⟩
  have hB6 := hB5.trans hb6
  have R6 := below_at hb6 (by omega) R5
  have F6 := below_at hb6 (by omega) F5
  clear R5 F5 m5 hb6 hB5
  have kc := (Bytes.renew hr.after (hW.below hB6 (by omega))).convert (P := Tryz.prog) 29 5 9 Tryz.underlying29 Tryz.underlying5 Tryz.underlying9
  go_wp2_with fail
  clear kc
  refine (makerText _ r.after _ _ (by omega) (by simp [numB_length] <;> omega) m6).mono ?_
  rintro e v7 ⟨rfl, m7, hb7, hl7⟩
  have hB7 := hB6.trans hb7
  have R7 := below_at hb7 (by omega) R6
  have F7 := below_at hb7 (by omega) F6
  clear R6 F6 m6 hb7 hB6
  go_wp2_with fail
  refine (makerNumber _ r.back _ _ (by omega) (by omega) (by simp [numB_length] <;> omega) m7).mono ?_
  rintro e v8 ⟨rfl, m8, hb8, hl8⟩
  have hB8 := hB7.trans hb8
  have R8 := below_at hb8 (by omega) R7
  have F8 := below_at hb8 (by omega) F7
  clear R7 F7 m7 hb8 hB7
  go_wp2_with fail
  refine (makerNumber _ r.next _ _ (by omega) (by omega) (by simp [numB_length] <;> omega) m8).mono ?_
  rintro e v9 ⟨rfl, m9, hb9, hl9⟩
  have hB9 := hB8.trans hb9
  have R9 := below_at hb9 (by omega) R8
  have F9 := below_at hb9 (by omega) F8
  clear R8 F8 m8 hb9 hB8
  obtain ⟨S, hS⟩ : ∃ S, S = ([] ++ numB 0 ++ numB n ++ [UInt8.ofNat ((2 : Int)).toNat] ++ numB r.unit ++ numB r.page ++ [UInt8.ofNat r.at_.toNat] ++ (UInt8.ofNat r.after.size :: r.after.data.toList) ++ numB r.back ++ numB r.next) := ⟨_, rfl⟩
  rw [← hS] at m9
  have hSl : S.length ≤ 2000 := by rw [hS]; simp [numB_length] <;> omega
  have hS4 : 4 ≤ S.length := by rw [hS]; simp [numB_length] <;> omega
  have HF := hid (enc_fin (n := n) (r := r) (S := S) (by rw [hS]; simp [headB, restB, HK.out, smallB, textB]))
  clear hS
  obtain ⟨v, x1, x2⟩ := m9
  obtain ⟨y1, y2⟩ := maker_cell x1
  obtain ⟨A, c, rfl⟩ := own_len x2
  go_wp2_with fail
  refine (octNumber_yes _ _ (by omega) (by omega)).mono ?_
  rintro e z1 ⟨u, rfl, hu, nz⟩
  clear R9 F9 y1 y2
  have m2 : Maker v9 (w2.heap.size + 1) S := ⟨_, x1, x2⟩
  have x3 : z1.heap[w2.heap.size + 1]? = some (.cells #[.slice A S.length c] 138 (0, 0)) := by rw [Below.block nz _ (by omega)]; exact x1
  have x4 : z1.ownsRow (w2.heap.size + 1 + 1) 5 1 (.slice A S.length c) S.length (u8s S) := own_new x2 nz
  obtain ⟨y1, y2⟩ := maker_cell x3
  have hp : 0 < (numB (S.length : Int)).length := by simp [numB_length]
  have hq : (numB (S.length : Int)).length ≤ S.length := by rw [numB_length]; exact hS4
  have HP := hid hp
  have HQ := hid hq
  clear hp hq
  go_wp2_with (with_reducible refine copy_head rfl (.tmp 121) (.tmp 122) rfl (w2.heap.size + 1 + 1) _ _ _ ?hd x4 _ ?hs _ hu HP.out HQ.out ?_)
  case hd => rfl
  case hs => rfl
  intro z2 hown hg
  obtain ⟨y3, y4⟩ := maker_later x3 (own_from x4) hg
  go_wp2
  go_ret2
  refine ⟨_, rfl, own_bytes hown HF.out.2 HF.out.1, ((hW.below hB9 ?_).trans nz).trans_grown hg ?_⟩
  · omega
  · intro k hk; have := own_from x4 k hk; omega
theorem valid_bounds_3 {r : Rec} (hk : r.kind = 3) (hv : validB r = true) : 0 ≤ r.unit ∧ r.unit ≤ 1000000 := by
  have hv := hv
  simp only [validB, hk, wi_iff, Bool.and_eq_true, placeB, decide_eq_true_eq, Bool.if_true_right, Bool.if_false_right] at hv
  simp only [wi_iff, Bool.and_eq_true, placeB, np, nf, nb, nu, nt, decide_eq_true_eq, if_true, if_false, reduceIte, Int.reduceEq] at hv
  omega
set_option maxRecDepth 100000 in
set_option maxHeartbeats 8000000 in
theorem enc_3 (n : Int) (r : Rec) (bv av uv : Value) (w : World) (h : RecAt w r bv av uv) (hk : r.kind = 3) (hv : validB r = true) (h1 : 1 ≤ n) (h2 : n ≤ 1000000) :
    Calls Tryz.prog 62 #[.int .i64 n, .agg (recCells r bv av uv)] w (BytesBack (bytesOf (encB n r)) w) := by
  have hr := h
  obtain ⟨⟨bp, bc, rfl, b1, b2, _⟩, ⟨ap, ac, rfl, a1, a2, _⟩, ⟨up, uc, rfl, l1, l2, _⟩⟩ := h
  unfold maxLen at a2 b2 l2
  have HC : recCells r (Value.slice bp r.before.size bc) (Value.slice ap r.after.size ac) (Value.slice up r.units.length uc) = #[.int .i64 3, .int .i64 r.unit, .int .i64 r.page, .int .i64 r.at_, Value.slice bp r.before.size bc, Value.slice ap r.after.size ac, .int .i64 r.back, .int .i64 r.next, .string r.text, Value.slice up r.units.length uc] := by unfold recCells; rw [hk]
  rw [HC]
  have HC := hid HC
  have hV := valid_bounds_3 hk hv
  have HK := hid hk
  clear hk
  go_enter Tryz.func62, Tryz.ntmps62
  go_wp2_with fail
  rw [← HC.out]
  refine (valid_any r _ _ _ _ (hr.new ((New.refl w).alloc _ _))).mono ?_
  rintro e w1 ⟨rfl, n1⟩
  rw [HC.out]
  rw [HC.out] at n1
  go_wp2_with fail
  refine (within_yes _ _ _ _ ⟨h1, h2⟩).mono ?_
  rintro e w' ⟨rfl, rfl⟩
  obtain ⟨q1, q2⟩ := n1.made
  go_wp2_with fail
  refine (forms_3 _).mono ?_
  rintro e w2 ⟨rfl, n2⟩
  clear q1 q2
  have n2' := n1.trans n2
  have hz : w.heap.size < w2.heap.size := by have := n2'.size; simp at this; omega
  obtain ⟨R0, R0'⟩ := n2'.made
  go_wp2_with fail
  have hW : New w ((w2.alloc (.cells #[.bool false, .bool false, .bool false, .bool false, .bool false] 126)).alloc (.cells #[.slice none 0 0] 138)) := ((((New.refl w).alloc _ _).trans n2').alloc _ _).alloc _ _
  clear R0 R0'
  have R0 := (((n2'.alloc _ _).alloc _ _ : New (w.alloc (.cells #[.int .i64 3, .int .i64 r.unit, .int .i64 r.page, .int .i64 r.at_, Value.slice bp r.before.size bc, Value.slice ap r.after.size ac, .int .i64 r.back, .int .i64 r.next, .string r.text, Value.slice up r.units.length uc] 70)) ((w2.alloc (.cells #[.bool false, .bool false, .bool false, .bool false, .bool false] 126)).alloc (.cells #[.slice none 0 0] 138)))).made.1
  have F0 := ((New.refl _).alloc _ _ : New (w2.alloc (.cells #[.bool false, .bool false, .bool false, .bool false, .bool false] 126)) ((w2.alloc (.cells #[.bool false, .bool false, .bool false, .bool false, .bool false] 126)).alloc (.cells #[.slice none 0 0] 138))).made.1
  have m0 := maker_new (w2.alloc (.cells #[.bool false, .bool false, .bool false, .bool false, .bool false] 126))
  rw [World.size_alloc] at m0
  have hB0 := Below.refl (w2.heap.size + 1) ((w2.alloc (.cells #[.bool false, .bool false, .bool false, .bool false, .bool false] 126)).alloc (.cells #[.slice none 0 0] 138))
  refine (makerNumber _ (0) _ _ (by omega) (by omega) (by simp [numB_length] <;> omega) m0).mono ?_
  rintro e v1 ⟨rfl, m1, hb1, hl1⟩
  have hB1 := hB0.trans hb1
  have R1 := below_at hb1 (by omega) R0
  have F1 := below_at hb1 (by omega) F0
  clear R0 F0 m0 hb1 hB0
  go_wp2_with fail
  refine (makerNumber _ n _ _ (by omega) (by omega) (by simp [numB_length] <;> omega) m1).mono ?_
  rintro e v2 ⟨rfl, m2, hb2, hl2⟩
  have hB2 := hB1.trans hb2
  have R2 := below_at hb2 (by omega) R1
  have F2 := below_at hb2 (by omega) F1
  clear R1 F1 m1 hb2 hB1
  go_wp2_with fail
  refine (makerSmall _ (3) _ _ (by omega) (by omega) (by simp [numB_length] <;> omega) m2).mono ?_
  rintro e v3 ⟨rfl, m3, hb3, hl3⟩
  have hB3 := hB2.trans hb3
  have R3 := below_at hb3 (by omega) R2
  have F3 := below_at hb3 (by omega) F2
  clear R2 F2 m2 hb3 hB2
  go_wp2_with fail
  refine (makerNumber _ r.unit _ _ (by omega) (by omega) (by simp [numB_length] <;> omega) m3).mono ?_
  rintro e v4 ⟨rfl, m4, hb4, hl4⟩
  have hB4 := hB3.trans hb4
  have R4 := below_at hb4 (by omega) R3
  have F4 := below_at hb4 (by omega) F3
  clear R3 F3 m3 hb4 hB3
  obtain ⟨S, hS⟩ : ∃ S, S = ([] ++ numB 0 ++ numB n ++ [UInt8.ofNat ((3 : Int)).toNat] ++ numB r.unit) := ⟨_, rfl⟩
  rw [← hS] at m4
  have hSl : S.length ≤ 2000 := by rw [hS]; simp [numB_length] <;> omega
  have hS4 : 4 ≤ S.length := by rw [hS]; simp [numB_length] <;> omega
  have HF := hid (enc_fin (n := n) (r := r) (S := S) (by rw [hS]; simp [headB, restB, HK.out, smallB, textB]))
  clear hS
  obtain ⟨v, x1, x2⟩ := m4
  obtain ⟨y1, y2⟩ := maker_cell x1
  obtain ⟨A, c, rfl⟩ := own_len x2
  go_wp2_with fail
  refine (octNumber_yes _ _ (by omega) (by omega)).mono ?_
  rintro e z1 ⟨u, rfl, hu, nz⟩
  clear R4 F4 y1 y2
  have m2 : Maker v4 (w2.heap.size + 1) S := ⟨_, x1, x2⟩
  have x3 : z1.heap[w2.heap.size + 1]? = some (.cells #[.slice A S.length c] 138 (0, 0)) := by rw [Below.block nz _ (by omega)]; exact x1
  have x4 : z1.ownsRow (w2.heap.size + 1 + 1) 5 1 (.slice A S.length c) S.length (u8s S) := own_new x2 nz
  obtain ⟨y1, y2⟩ := maker_cell x3
  have hp : 0 < (numB (S.length : Int)).length := by simp [numB_length]
  have hq : (numB (S.length : Int)).length ≤ S.length := by rw [numB_length]; exact hS4
  have HP := hid hp
  have HQ := hid hq
  clear hp hq
  go_wp2_with (with_reducible refine copy_head rfl (.tmp 121) (.tmp 122) rfl (w2.heap.size + 1 + 1) _ _ _ ?hd x4 _ ?hs _ hu HP.out HQ.out ?_)
  case hd => rfl
  case hs => rfl
  intro z2 hown hg
  obtain ⟨y3, y4⟩ := maker_later x3 (own_from x4) hg
  go_wp2
  go_ret2
  refine ⟨_, rfl, own_bytes hown HF.out.2 HF.out.1, ((hW.below hB4 ?_).trans nz).trans_grown hg ?_⟩
  · omega
  · intro k hk; have := own_from x4 k hk; omega
theorem valid_bounds_4 {r : Rec} (hk : r.kind = 4) (hv : validB r = true) : 0 ≤ r.unit ∧ r.unit ≤ 1000000 := by
  have hv := hv
  simp only [validB, hk, wi_iff, Bool.and_eq_true, placeB, decide_eq_true_eq, Bool.if_true_right, Bool.if_false_right] at hv
  simp only [wi_iff, Bool.and_eq_true, placeB, np, nf, nb, nu, nt, decide_eq_true_eq, if_true, if_false, reduceIte, Int.reduceEq] at hv
  omega
set_option maxRecDepth 100000 in
set_option maxHeartbeats 8000000 in
theorem enc_4 (n : Int) (r : Rec) (bv av uv : Value) (w : World) (h : RecAt w r bv av uv) (hk : r.kind = 4) (hv : validB r = true) (h1 : 1 ≤ n) (h2 : n ≤ 1000000) :
    Calls Tryz.prog 62 #[.int .i64 n, .agg (recCells r bv av uv)] w (BytesBack (bytesOf (encB n r)) w) := by
  have hr := h
  obtain ⟨⟨bp, bc, rfl, b1, b2, _⟩, ⟨ap, ac, rfl, a1, a2, _⟩, ⟨up, uc, rfl, l1, l2, _⟩⟩ := h
  unfold maxLen at a2 b2 l2
  have HC : recCells r (Value.slice bp r.before.size bc) (Value.slice ap r.after.size ac) (Value.slice up r.units.length uc) = #[.int .i64 4, .int .i64 r.unit, .int .i64 r.page, .int .i64 r.at_, Value.slice bp r.before.size bc, Value.slice ap r.after.size ac, .int .i64 r.back, .int .i64 r.next, .string r.text, Value.slice up r.units.length uc] := by unfold recCells; rw [hk]
  rw [HC]
  have HC := hid HC
  have hV := valid_bounds_4 hk hv
  have HK := hid hk
  clear hk
  go_enter Tryz.func62, Tryz.ntmps62
  go_wp2_with fail
  rw [← HC.out]
  refine (valid_any r _ _ _ _ (hr.new ((New.refl w).alloc _ _))).mono ?_
  rintro e w1 ⟨rfl, n1⟩
  rw [HC.out]
  rw [HC.out] at n1
  go_wp2_with fail
  refine (within_yes _ _ _ _ ⟨h1, h2⟩).mono ?_
  rintro e w' ⟨rfl, rfl⟩
  obtain ⟨q1, q2⟩ := n1.made
  go_wp2_with fail
  refine (forms_4 _).mono ?_
  rintro e w2 ⟨rfl, n2⟩
  clear q1 q2
  have n2' := n1.trans n2
  have hz : w.heap.size < w2.heap.size := by have := n2'.size; simp at this; omega
  obtain ⟨R0, R0'⟩ := n2'.made
  go_wp2_with fail
  have hW : New w ((w2.alloc (.cells #[.bool false, .bool false, .bool false, .bool false, .bool false] 126)).alloc (.cells #[.slice none 0 0] 138)) := ((((New.refl w).alloc _ _).trans n2').alloc _ _).alloc _ _
  clear R0 R0'
  have R0 := (((n2'.alloc _ _).alloc _ _ : New (w.alloc (.cells #[.int .i64 4, .int .i64 r.unit, .int .i64 r.page, .int .i64 r.at_, Value.slice bp r.before.size bc, Value.slice ap r.after.size ac, .int .i64 r.back, .int .i64 r.next, .string r.text, Value.slice up r.units.length uc] 70)) ((w2.alloc (.cells #[.bool false, .bool false, .bool false, .bool false, .bool false] 126)).alloc (.cells #[.slice none 0 0] 138)))).made.1
  have F0 := ((New.refl _).alloc _ _ : New (w2.alloc (.cells #[.bool false, .bool false, .bool false, .bool false, .bool false] 126)) ((w2.alloc (.cells #[.bool false, .bool false, .bool false, .bool false, .bool false] 126)).alloc (.cells #[.slice none 0 0] 138))).made.1
  have m0 := maker_new (w2.alloc (.cells #[.bool false, .bool false, .bool false, .bool false, .bool false] 126))
  rw [World.size_alloc] at m0
  have hB0 := Below.refl (w2.heap.size + 1) ((w2.alloc (.cells #[.bool false, .bool false, .bool false, .bool false, .bool false] 126)).alloc (.cells #[.slice none 0 0] 138))
  refine (makerNumber _ (0) _ _ (by omega) (by omega) (by simp [numB_length] <;> omega) m0).mono ?_
  rintro e v1 ⟨rfl, m1, hb1, hl1⟩
  have hB1 := hB0.trans hb1
  have R1 := below_at hb1 (by omega) R0
  have F1 := below_at hb1 (by omega) F0
  clear R0 F0 m0 hb1 hB0
  go_wp2_with fail
  refine (makerNumber _ n _ _ (by omega) (by omega) (by simp [numB_length] <;> omega) m1).mono ?_
  rintro e v2 ⟨rfl, m2, hb2, hl2⟩
  have hB2 := hB1.trans hb2
  have R2 := below_at hb2 (by omega) R1
  have F2 := below_at hb2 (by omega) F1
  clear R1 F1 m1 hb2 hB1
  go_wp2_with fail
  refine (makerSmall _ (4) _ _ (by omega) (by omega) (by simp [numB_length] <;> omega) m2).mono ?_
  rintro e v3 ⟨rfl, m3, hb3, hl3⟩
  have hB3 := hB2.trans hb3
  have R3 := below_at hb3 (by omega) R2
  have F3 := below_at hb3 (by omega) F2
  clear R2 F2 m2 hb3 hB2
  go_wp2_with fail
  refine (makerNumber _ r.unit _ _ (by omega) (by omega) (by simp [numB_length] <;> omega) m3).mono ?_
  rintro e v4 ⟨rfl, m4, hb4, hl4⟩
  have hB4 := hB3.trans hb4
  have R4 := below_at hb4 (by omega) R3
  have F4 := below_at hb4 (by omega) F3
  clear R3 F3 m3 hb4 hB3
  obtain ⟨S, hS⟩ : ∃ S, S = ([] ++ numB 0 ++ numB n ++ [UInt8.ofNat ((4 : Int)).toNat] ++ numB r.unit) := ⟨_, rfl⟩
  rw [← hS] at m4
  have hSl : S.length ≤ 2000 := by rw [hS]; simp [numB_length] <;> omega
  have hS4 : 4 ≤ S.length := by rw [hS]; simp [numB_length] <;> omega
  have HF := hid (enc_fin (n := n) (r := r) (S := S) (by rw [hS]; simp [headB, restB, HK.out, smallB, textB]))
  clear hS
  obtain ⟨v, x1, x2⟩ := m4
  obtain ⟨y1, y2⟩ := maker_cell x1
  obtain ⟨A, c, rfl⟩ := own_len x2
  go_wp2_with fail
  refine (octNumber_yes _ _ (by omega) (by omega)).mono ?_
  rintro e z1 ⟨u, rfl, hu, nz⟩
  clear R4 F4 y1 y2
  have m2 : Maker v4 (w2.heap.size + 1) S := ⟨_, x1, x2⟩
  have x3 : z1.heap[w2.heap.size + 1]? = some (.cells #[.slice A S.length c] 138 (0, 0)) := by rw [Below.block nz _ (by omega)]; exact x1
  have x4 : z1.ownsRow (w2.heap.size + 1 + 1) 5 1 (.slice A S.length c) S.length (u8s S) := own_new x2 nz
  obtain ⟨y1, y2⟩ := maker_cell x3
  have hp : 0 < (numB (S.length : Int)).length := by simp [numB_length]
  have hq : (numB (S.length : Int)).length ≤ S.length := by rw [numB_length]; exact hS4
  have HP := hid hp
  have HQ := hid hq
  clear hp hq
  go_wp2_with (with_reducible refine copy_head rfl (.tmp 121) (.tmp 122) rfl (w2.heap.size + 1 + 1) _ _ _ ?hd x4 _ ?hs _ hu HP.out HQ.out ?_)
  case hd => rfl
  case hs => rfl
  intro z2 hown hg
  obtain ⟨y3, y4⟩ := maker_later x3 (own_from x4) hg
  go_wp2
  go_ret2
  refine ⟨_, rfl, own_bytes hown HF.out.2 HF.out.1, ((hW.below hB4 ?_).trans nz).trans_grown hg ?_⟩
  · omega
  · intro k hk; have := own_from x4 k hk; omega
theorem valid_bounds_5 {r : Rec} (hk : r.kind = 5) (hv : validB r = true) : 0 ≤ r.unit ∧ r.unit ≤ 1000000 ∧ r.text.size ≤ 200 := by
  have hv := hv
  simp only [validB, hk, wi_iff, Bool.and_eq_true, placeB, decide_eq_true_eq, Bool.if_true_right, Bool.if_false_right] at hv
  simp only [wi_iff, Bool.and_eq_true, placeB, np, nf, nb, nu, nt, decide_eq_true_eq, if_true, if_false, reduceIte, Int.reduceEq] at hv
  omega
set_option maxRecDepth 100000 in
set_option maxHeartbeats 8000000 in
theorem enc_5 (n : Int) (r : Rec) (bv av uv : Value) (w : World) (h : RecAt w r bv av uv) (hk : r.kind = 5) (hv : validB r = true) (h1 : 1 ≤ n) (h2 : n ≤ 1000000) :
    Calls Tryz.prog 62 #[.int .i64 n, .agg (recCells r bv av uv)] w (BytesBack (bytesOf (encB n r)) w) := by
  have hr := h
  obtain ⟨⟨bp, bc, rfl, b1, b2, _⟩, ⟨ap, ac, rfl, a1, a2, _⟩, ⟨up, uc, rfl, l1, l2, _⟩⟩ := h
  unfold maxLen at a2 b2 l2
  have HC : recCells r (Value.slice bp r.before.size bc) (Value.slice ap r.after.size ac) (Value.slice up r.units.length uc) = #[.int .i64 5, .int .i64 r.unit, .int .i64 r.page, .int .i64 r.at_, Value.slice bp r.before.size bc, Value.slice ap r.after.size ac, .int .i64 r.back, .int .i64 r.next, .string r.text, Value.slice up r.units.length uc] := by unfold recCells; rw [hk]
  rw [HC]
  have HC := hid HC
  have hV := valid_bounds_5 hk hv
  have HK := hid hk
  clear hk
  go_enter Tryz.func62, Tryz.ntmps62
  go_wp2_with fail
  rw [← HC.out]
  refine (valid_any r _ _ _ _ (hr.new ((New.refl w).alloc _ _))).mono ?_
  rintro e w1 ⟨rfl, n1⟩
  rw [HC.out]
  rw [HC.out] at n1
  go_wp2_with fail
  refine (within_yes _ _ _ _ ⟨h1, h2⟩).mono ?_
  rintro e w' ⟨rfl, rfl⟩
  obtain ⟨q1, q2⟩ := n1.made
  go_wp2_with fail
  refine (forms_5 _).mono ?_
  rintro e w2 ⟨rfl, n2⟩
  clear q1 q2
  have n2' := n1.trans n2
  have hz : w.heap.size < w2.heap.size := by have := n2'.size; simp at this; omega
  obtain ⟨R0, R0'⟩ := n2'.made
  go_wp2_with fail
  have hW : New w ((w2.alloc (.cells #[.bool false, .bool false, .bool false, .bool true, .bool false] 126)).alloc (.cells #[.slice none 0 0] 138)) := ((((New.refl w).alloc _ _).trans n2').alloc _ _).alloc _ _
  clear R0 R0'
  have R0 := (((n2'.alloc _ _).alloc _ _ : New (w.alloc (.cells #[.int .i64 5, .int .i64 r.unit, .int .i64 r.page, .int .i64 r.at_, Value.slice bp r.before.size bc, Value.slice ap r.after.size ac, .int .i64 r.back, .int .i64 r.next, .string r.text, Value.slice up r.units.length uc] 70)) ((w2.alloc (.cells #[.bool false, .bool false, .bool false, .bool true, .bool false] 126)).alloc (.cells #[.slice none 0 0] 138)))).made.1
  have F0 := ((New.refl _).alloc _ _ : New (w2.alloc (.cells #[.bool false, .bool false, .bool false, .bool true, .bool false] 126)) ((w2.alloc (.cells #[.bool false, .bool false, .bool false, .bool true, .bool false] 126)).alloc (.cells #[.slice none 0 0] 138))).made.1
  have m0 := maker_new (w2.alloc (.cells #[.bool false, .bool false, .bool false, .bool true, .bool false] 126))
  rw [World.size_alloc] at m0
  have hB0 := Below.refl (w2.heap.size + 1) ((w2.alloc (.cells #[.bool false, .bool false, .bool false, .bool true, .bool false] 126)).alloc (.cells #[.slice none 0 0] 138))
  refine (makerNumber _ (0) _ _ (by omega) (by omega) (by simp [numB_length] <;> omega) m0).mono ?_
  rintro e v1 ⟨rfl, m1, hb1, hl1⟩
  have hB1 := hB0.trans hb1
  have R1 := below_at hb1 (by omega) R0
  have F1 := below_at hb1 (by omega) F0
  clear R0 F0 m0 hb1 hB0
  go_wp2_with fail
  refine (makerNumber _ n _ _ (by omega) (by omega) (by simp [numB_length] <;> omega) m1).mono ?_
  rintro e v2 ⟨rfl, m2, hb2, hl2⟩
  have hB2 := hB1.trans hb2
  have R2 := below_at hb2 (by omega) R1
  have F2 := below_at hb2 (by omega) F1
  clear R1 F1 m1 hb2 hB1
  go_wp2_with fail
  refine (makerSmall _ (5) _ _ (by omega) (by omega) (by simp [numB_length] <;> omega) m2).mono ?_
  rintro e v3 ⟨rfl, m3, hb3, hl3⟩
  have hB3 := hB2.trans hb3
  have R3 := below_at hb3 (by omega) R2
  have F3 := below_at hb3 (by omega) F2
  clear R2 F2 m2 hb3 hB2
  go_wp2_with fail
  refine (makerNumber _ r.unit _ _ (by omega) (by omega) (by simp [numB_length] <;> omega) m3).mono ?_
  rintro e v4 ⟨rfl, m4, hb4, hl4⟩
  have hB4 := hB3.trans hb4
  have R4 := below_at hb4 (by omega) R3
  have F4 := below_at hb4 (by omega) F3
  clear R3 F3 m3 hb4 hB3
  go_wp2_with fail
  refine (makerText _ r.text _ _ (by omega) (by simp [numB_length] <;> omega) m4).mono ?_
  rintro e v5 ⟨rfl, m5, hb5, hl5⟩
  have hB5 := hB4.trans hb5
  have R5 := below_at hb5 (by omega) R4
  have F5 := below_at hb5 (by omega) F4
  clear R4 F4 m4 hb5 hB4
  obtain ⟨S, hS⟩ : ∃ S, S = ([] ++ numB 0 ++ numB n ++ [UInt8.ofNat ((5 : Int)).toNat] ++ numB r.unit ++ (UInt8.ofNat r.text.size :: r.text.data.toList)) := ⟨_, rfl⟩
  rw [← hS] at m5
  have hSl : S.length ≤ 2000 := by rw [hS]; simp [numB_length] <;> omega
  have hS4 : 4 ≤ S.length := by rw [hS]; simp [numB_length] <;> omega
  have HF := hid (enc_fin (n := n) (r := r) (S := S) (by rw [hS]; simp [headB, restB, HK.out, smallB, textB]))
  clear hS
  obtain ⟨v, x1, x2⟩ := m5
  obtain ⟨y1, y2⟩ := maker_cell x1
  obtain ⟨A, c, rfl⟩ := own_len x2
  go_wp2_with fail
  refine (octNumber_yes _ _ (by omega) (by omega)).mono ?_
  rintro e z1 ⟨u, rfl, hu, nz⟩
  clear R5 F5 y1 y2
  have m2 : Maker v5 (w2.heap.size + 1) S := ⟨_, x1, x2⟩
  have x3 : z1.heap[w2.heap.size + 1]? = some (.cells #[.slice A S.length c] 138 (0, 0)) := by rw [Below.block nz _ (by omega)]; exact x1
  have x4 : z1.ownsRow (w2.heap.size + 1 + 1) 5 1 (.slice A S.length c) S.length (u8s S) := own_new x2 nz
  obtain ⟨y1, y2⟩ := maker_cell x3
  have hp : 0 < (numB (S.length : Int)).length := by simp [numB_length]
  have hq : (numB (S.length : Int)).length ≤ S.length := by rw [numB_length]; exact hS4
  have HP := hid hp
  have HQ := hid hq
  clear hp hq
  go_wp2_with (with_reducible refine copy_head rfl (.tmp 121) (.tmp 122) rfl (w2.heap.size + 1 + 1) _ _ _ ?hd x4 _ ?hs _ hu HP.out HQ.out ?_)
  case hd => rfl
  case hs => rfl
  intro z2 hown hg
  obtain ⟨y3, y4⟩ := maker_later x3 (own_from x4) hg
  go_wp2
  go_ret2
  refine ⟨_, rfl, own_bytes hown HF.out.2 HF.out.1, ((hW.below hB5 ?_).trans nz).trans_grown hg ?_⟩
  · omega
  · intro k hk; have := own_from x4 k hk; omega
theorem valid_bounds_7 {r : Rec} (hk : r.kind = 7) (hv : validB r = true) : 0 ≤ r.unit ∧ r.unit ≤ 1000000 ∧ r.text.size ≤ 200 := by
  have hv := hv
  simp only [validB, hk, wi_iff, Bool.and_eq_true, placeB, decide_eq_true_eq, Bool.if_true_right, Bool.if_false_right] at hv
  simp only [wi_iff, Bool.and_eq_true, placeB, np, nf, nb, nu, nt, decide_eq_true_eq, if_true, if_false, reduceIte, Int.reduceEq] at hv
  omega
set_option maxRecDepth 100000 in
set_option maxHeartbeats 8000000 in
theorem enc_7 (n : Int) (r : Rec) (bv av uv : Value) (w : World) (h : RecAt w r bv av uv) (hk : r.kind = 7) (hv : validB r = true) (h1 : 1 ≤ n) (h2 : n ≤ 1000000) :
    Calls Tryz.prog 62 #[.int .i64 n, .agg (recCells r bv av uv)] w (BytesBack (bytesOf (encB n r)) w) := by
  have hr := h
  obtain ⟨⟨bp, bc, rfl, b1, b2, _⟩, ⟨ap, ac, rfl, a1, a2, _⟩, ⟨up, uc, rfl, l1, l2, _⟩⟩ := h
  unfold maxLen at a2 b2 l2
  have HC : recCells r (Value.slice bp r.before.size bc) (Value.slice ap r.after.size ac) (Value.slice up r.units.length uc) = #[.int .i64 7, .int .i64 r.unit, .int .i64 r.page, .int .i64 r.at_, Value.slice bp r.before.size bc, Value.slice ap r.after.size ac, .int .i64 r.back, .int .i64 r.next, .string r.text, Value.slice up r.units.length uc] := by unfold recCells; rw [hk]
  rw [HC]
  have HC := hid HC
  have hV := valid_bounds_7 hk hv
  have HK := hid hk
  clear hk
  go_enter Tryz.func62, Tryz.ntmps62
  go_wp2_with fail
  rw [← HC.out]
  refine (valid_any r _ _ _ _ (hr.new ((New.refl w).alloc _ _))).mono ?_
  rintro e w1 ⟨rfl, n1⟩
  rw [HC.out]
  rw [HC.out] at n1
  go_wp2_with fail
  refine (within_yes _ _ _ _ ⟨h1, h2⟩).mono ?_
  rintro e w' ⟨rfl, rfl⟩
  obtain ⟨q1, q2⟩ := n1.made
  go_wp2_with fail
  refine (forms_7 _).mono ?_
  rintro e w2 ⟨rfl, n2⟩
  clear q1 q2
  have n2' := n1.trans n2
  have hz : w.heap.size < w2.heap.size := by have := n2'.size; simp at this; omega
  obtain ⟨R0, R0'⟩ := n2'.made
  go_wp2_with fail
  have hW : New w ((w2.alloc (.cells #[.bool false, .bool false, .bool false, .bool true, .bool false] 126)).alloc (.cells #[.slice none 0 0] 138)) := ((((New.refl w).alloc _ _).trans n2').alloc _ _).alloc _ _
  clear R0 R0'
  have R0 := (((n2'.alloc _ _).alloc _ _ : New (w.alloc (.cells #[.int .i64 7, .int .i64 r.unit, .int .i64 r.page, .int .i64 r.at_, Value.slice bp r.before.size bc, Value.slice ap r.after.size ac, .int .i64 r.back, .int .i64 r.next, .string r.text, Value.slice up r.units.length uc] 70)) ((w2.alloc (.cells #[.bool false, .bool false, .bool false, .bool true, .bool false] 126)).alloc (.cells #[.slice none 0 0] 138)))).made.1
  have F0 := ((New.refl _).alloc _ _ : New (w2.alloc (.cells #[.bool false, .bool false, .bool false, .bool true, .bool false] 126)) ((w2.alloc (.cells #[.bool false, .bool false, .bool false, .bool true, .bool false] 126)).alloc (.cells #[.slice none 0 0] 138))).made.1
  have m0 := maker_new (w2.alloc (.cells #[.bool false, .bool false, .bool false, .bool true, .bool false] 126))
  rw [World.size_alloc] at m0
  have hB0 := Below.refl (w2.heap.size + 1) ((w2.alloc (.cells #[.bool false, .bool false, .bool false, .bool true, .bool false] 126)).alloc (.cells #[.slice none 0 0] 138))
  refine (makerNumber _ (0) _ _ (by omega) (by omega) (by simp [numB_length] <;> omega) m0).mono ?_
  rintro e v1 ⟨rfl, m1, hb1, hl1⟩
  have hB1 := hB0.trans hb1
  have R1 := below_at hb1 (by omega) R0
  have F1 := below_at hb1 (by omega) F0
  clear R0 F0 m0 hb1 hB0
  go_wp2_with fail
  refine (makerNumber _ n _ _ (by omega) (by omega) (by simp [numB_length] <;> omega) m1).mono ?_
  rintro e v2 ⟨rfl, m2, hb2, hl2⟩
  have hB2 := hB1.trans hb2
  have R2 := below_at hb2 (by omega) R1
  have F2 := below_at hb2 (by omega) F1
  clear R1 F1 m1 hb2 hB1
  go_wp2_with fail
  refine (makerSmall _ (7) _ _ (by omega) (by omega) (by simp [numB_length] <;> omega) m2).mono ?_
  rintro e v3 ⟨rfl, m3, hb3, hl3⟩
  have hB3 := hB2.trans hb3
  have R3 := below_at hb3 (by omega) R2
  have F3 := below_at hb3 (by omega) F2
  clear R2 F2 m2 hb3 hB2
  go_wp2_with fail
  refine (makerNumber _ r.unit _ _ (by omega) (by omega) (by simp [numB_length] <;> omega) m3).mono ?_
  rintro e v4 ⟨rfl, m4, hb4, hl4⟩
  have hB4 := hB3.trans hb4
  have R4 := below_at hb4 (by omega) R3
  have F4 := below_at hb4 (by omega) F3
  clear R3 F3 m3 hb4 hB3
  go_wp2_with fail
  refine (makerText _ r.text _ _ (by omega) (by simp [numB_length] <;> omega) m4).mono ?_
  rintro e v5 ⟨rfl, m5, hb5, hl5⟩
  have hB5 := hB4.trans hb5
  have R5 := below_at hb5 (by omega) R4
  have F5 := below_at hb5 (by omega) F4
  clear R4 F4 m4 hb5 hB4
  obtain ⟨S, hS⟩ : ∃ S, S = ([] ++ numB 0 ++ numB n ++ [UInt8.ofNat ((7 : Int)).toNat] ++ numB r.unit ++ (UInt8.ofNat r.text.size :: r.text.data.toList)) := ⟨_, rfl⟩
  rw [← hS] at m5
  have hSl : S.length ≤ 2000 := by rw [hS]; simp [numB_length] <;> omega
  have hS4 : 4 ≤ S.length := by rw [hS]; simp [numB_length] <;> omega
  have HF := hid (enc_fin (n := n) (r := r) (S := S) (by rw [hS]; simp [headB, restB, HK.out, smallB, textB]))
  clear hS
  obtain ⟨v, x1, x2⟩ := m5
  obtain ⟨y1, y2⟩ := maker_cell x1
  obtain ⟨A, c, rfl⟩ := own_len x2
  go_wp2_with fail
  refine (octNumber_yes _ _ (by omega) (by omega)).mono ?_
  rintro e z1 ⟨u, rfl, hu, nz⟩
  clear R5 F5 y1 y2
  have m2 : Maker v5 (w2.heap.size + 1) S := ⟨_, x1, x2⟩
  have x3 : z1.heap[w2.heap.size + 1]? = some (.cells #[.slice A S.length c] 138 (0, 0)) := by rw [Below.block nz _ (by omega)]; exact x1
  have x4 : z1.ownsRow (w2.heap.size + 1 + 1) 5 1 (.slice A S.length c) S.length (u8s S) := own_new x2 nz
  obtain ⟨y1, y2⟩ := maker_cell x3
  have hp : 0 < (numB (S.length : Int)).length := by simp [numB_length]
  have hq : (numB (S.length : Int)).length ≤ S.length := by rw [numB_length]; exact hS4
  have HP := hid hp
  have HQ := hid hq
  clear hp hq
  go_wp2_with (with_reducible refine copy_head rfl (.tmp 121) (.tmp 122) rfl (w2.heap.size + 1 + 1) _ _ _ ?hd x4 _ ?hs _ hu HP.out HQ.out ?_)
  case hd => rfl
  case hs => rfl
  intro z2 hown hg
  obtain ⟨y3, y4⟩ := maker_later x3 (own_from x4) hg
  go_wp2
  go_ret2
  refine ⟨_, rfl, own_bytes hown HF.out.2 HF.out.1, ((hW.below hB5 ?_).trans nz).trans_grown hg ?_⟩
  · omega
  · intro k hk; have := own_from x4 k hk; omega

end Go.Proofs.YtdccbceaajnajaaGreat
