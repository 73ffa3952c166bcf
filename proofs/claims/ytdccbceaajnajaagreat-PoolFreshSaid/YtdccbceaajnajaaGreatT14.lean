/- What progenyref01.Compare returns, for all slices of bytes. What tape.Encode returns at a mark, and at each record (printed by enc6.py). -/
import Derived.Test.YtdccbceaajnajaaGreatProg
import Derived.Test.YtdccbceaajnajaaGreatA9
import Derived.Test.YtdccbceaajnajaaGreatA11
import Derived.Test.YtdccbceaajnajaaGreatT13
namespace Go.Proofs.YtdccbceaajnajaaGreat
open Go.RowKit

/-- Byte by byte. -/
def cmpL : List UInt8 → List UInt8 → Int
  | [], [] => 0
  | [], _ :: _ => -1
  | _ :: _, [] => 1
  | a :: l, b :: m => if a = b then cmpL l m else if a < b then -1 else 1
theorem cmpL_zero : ∀ l m, cmpL l m = 0 ↔ l = m := by
  intro l
  induction l with
  | nil => intro m; cases m <;> simp [cmpL]
  | cons a l ih =>
    intro m
    cases m with
    | nil => simp [cmpL]
    | cons b m =>
      simp only [cmpL, List.cons.injEq]
      by_cases e : a = b
      · rw [if_pos e, ih]; simp [e]
      · rw [if_neg e]; split <;> simp [e]
def cmpS (s t : ByteArray) : Int := cmpL s.data.toList t.data.toList
theorem cmpS_zero (s t : ByteArray) : cmpS s t = 0 ↔ s = t := by
  unfold cmpS
  rw [cmpL_zero]
  exact ⟨fun h => ByteArray.ext (Array.ext' h), fun h => by rw [h]⟩
theorem drop_at {s : ByteArray} {k : Nat} (h : k < s.size) : s.data.toList.drop k = s[k] :: s.data.toList.drop (k + 1) := List.drop_eq_getElem_cons (by simpa using h)
theorem cmp_lt {s t : ByteArray} {k : Nat} (h1 : k < s.size) (h2 : k < t.size) (hall : cmpS s t = cmpL (s.data.toList.drop k) (t.data.toList.drop k)) (h : (s[k]'h1).toNat < (t[k]'h2).toNat) : cmpS s t = -1 := by
  rw [hall, drop_at h1, drop_at h2]
  have hlt : s[k] < t[k] := h
  have hne : s[k] ≠ t[k] := fun e => by rw [e] at hlt; exact absurd hlt (by simp)
  simp only [cmpL]
  rw [if_neg hne, if_pos hlt]
theorem cmp_gt {s t : ByteArray} {k : Nat} (h1 : k < s.size) (h2 : k < t.size) (hall : cmpS s t = cmpL (s.data.toList.drop k) (t.data.toList.drop k)) (hn : (s[k]'h1).toNat ≠ (t[k]'h2).toNat) (h : ¬ (s[k]'h1).toNat < (t[k]'h2).toNat) : cmpS s t = 1 := by
  rw [hall, drop_at h1, drop_at h2]
  have hlt : ¬ s[k] < t[k] := h
  have hne : s[k] ≠ t[k] := fun e => hn (by rw [e])
  simp only [cmpL]
  rw [if_neg hne, if_neg hlt]
theorem cmp_next {s t : ByteArray} {k : Nat} (h1 : k < s.size) (h2 : k < t.size) (hall : cmpS s t = cmpL (s.data.toList.drop k) (t.data.toList.drop k)) (h : (s[k]'h1).toNat = (t[k]'h2).toNat) : cmpS s t = cmpL (s.data.toList.drop (k + 1)) (t.data.toList.drop (k + 1)) := by
  rw [hall, drop_at h1, drop_at h2]
  have he : s[k] = t[k] := UInt8.toNat_inj.1 h
  simp only [cmpL]
  exact if_pos he
theorem cmp_end {s t : ByteArray} {k : Nat} (hk : k ≤ s.size) (hk2 : k ≤ t.size) (h : s.size ≤ k ∨ t.size ≤ k) (hall : cmpS s t = cmpL (s.data.toList.drop k) (t.data.toList.drop k)) :
    cmpS s t = if s.size < t.size then -1 else if t.size < s.size then 1 else 0 := by
  rw [hall]
  have l1 : (s.data.toList.drop k).length = s.size - k := by simp
  have l2 : (t.data.toList.drop k).length = t.size - k := by simp
  generalize s.data.toList.drop k = a at *
  generalize t.data.toList.drop k = b at *
  cases a <;> cases b <;> simp [cmpL] at * <;> (split <;> (try split)) <;> first | rfl | omega

end Go.Proofs.YtdccbceaajnajaaGreat

namespace Go.Proofs.YtdccbceaajnajaaGreat
open Go.RowKit
set_option linter.unusedSimpArgs false
set_option linter.unusedVariables false

theorem valid_bounds_6 {r : Rec} (hk : r.kind = 6) (hv : validB r = true) : 0 ≤ r.unit ∧ r.unit ≤ 1000000 ∧ openB r.units = true := by
  have hu := (valid_kinds hv).2
  refine ⟨hu.1, hu.2, ?_⟩
  have hv := hv
  simp only [validB, hk] at hv
  simp at hv
  simp_all
/-- Blocks that are neither bytes nor makers lie as they lay. -/
def Keep5 (w w' : World) : Prop := ∀ (k : Nat) (c : Array Value) (t : TypeId) (f : Nat × Nat), w.heap[k]? = some (Obj.cells c t f) → t ≠ 5 → t ≠ 138 → w'.heap[k]? = some (Obj.cells c t f)
theorem own_ne5 {w : World} {base : Nat} {v : Value} {n : Nat} {xs : List Value} (h : w.ownsRow base 5 1 v n xs) {k : Nat} {c : Array Value} {t : TypeId} {fr : Nat × Nat} (hk : w.heap[k]? = some (.cells c t fr)) (ht : t ≠ 5) : v.ownBlock ≠ some k := by
  rcases h.2 with ⟨rfl, rfl⟩ | ⟨g, cap, cur, rfl, hg, hh, r⟩
  · simp [Value.ownBlock]
  · intro e
    simp only [Value.ownBlock, Option.some.injEq] at e
    subst e
    rw [hh] at hk
    injection hk with e1
    injection e1 with e2 e3 e4
    exact ht e3.symm
theorem keep_store {w w1 w2 : World} {bm : Nat} {v v' : Value} {n : Nat} {xs : List Value} {cs : Array Value} (hn : New w w1) (hm : w1.heap[bm]? = some (.cells cs 138 (0, 0))) (ho : w1.ownsRow (bm + 1) 5 1 v n xs)
    (hg : w1.grownBy w2 v.ownBlock) : Keep5 w (w2.setCell ⟨bm, 0, none⟩ v') := by
  intro k c t f hk h5 h122
  have hlt := (Array.getElem?_eq_some_iff.1 hk).1
  have h1 : w1.heap[k]? = some (.cells c t f) := by rw [Below.block hn k hlt]; exact hk
  have hlt1 := (Array.getElem?_eq_some_iff.1 h1).1
  have hne : k ≠ bm := by
    rintro rfl
    rw [hm] at h1
    injection h1 with e1
    injection e1 with e2 e3 e4
    exact h122 e3.symm
  have h2 : w2.heap[k]? = some (.cells c t f) := by rw [hg.block k hlt1 (fun e => own_ne5 ho h1 h5 e.symm)]; exact h1
  rw [← h2]
  exact heap_setCell_other w2 ⟨bm, 0, none⟩ k v' hne
def MakerBack2 (bm : Nat) (s : List UInt8) (w : World) (e : Ending) (w' : World) : Prop := MakerBack bm s w e w' ∧ Keep5 w w'
set_option maxHeartbeats 800000 in
theorem makerNumber2 (bm : Nat) (n : Int) (s : List UInt8) (w : World) (h0 : 0 ≤ n) (h1 : n ≤ 4294967295) (hs : s.length ≤ 100000) (hm : Maker w bm s) :
    Calls Tryz.prog 96 #[.pointer (some ⟨bm, 0, none⟩), .int .i64 n] w (MakerBack2 bm (s ++ numB n) w) := by
  have hb : bm < w.heap.size := by obtain ⟨v, h, _⟩ := hm; exact (Array.getElem?_eq_some_iff.1 h).1
  go_enter Tryz.func96, Tryz.ntmps96
  go_wp2_with fail
  refine (octNumber_yes n _ h0 h1).mono ?_
  rintro e w1 ⟨u, rfl, hu, hn⟩
  obtain ⟨v, m1, m2⟩ := hm.below hn
  obtain ⟨c1, f1⟩ := maker_cell m1
  have hlt := (Array.getElem?_eq_some_iff.1 m1).1
  go_wp2_with (at_builtin; refine app_bytes rfl _ _ rfl (bm + 1) _ _ _ rfl m2 _ rfl (numB n) hu (by simp [numB]) ?c1 ?c2 ?_)
  case c1 => simp [numB]; omega
  case c2 => omega
  intro v' w2 hown hg
  obtain ⟨c3, f3⟩ := maker_later m1 (own_from m2) hg
  obtain ⟨A', k', c', rfl⟩ := own_slice hown
  go_wp2
  go_end0
  exact ⟨maker_store m1 (own_from m2) (Below.mono hn (by omega)) hown hg, keep_store hn m1 m2 hg⟩
set_option maxHeartbeats 800000 in
theorem makerText2 (bm : Nat) (t : ByteArray) (s : List UInt8) (w : World) (h1 : t.size ≤ 255) (hs : s.length ≤ 100000) (hm : Maker w bm s) :
    Calls Tryz.prog 98 #[.pointer (some ⟨bm, 0, none⟩), .string t] w (MakerBack2 bm (s ++ (UInt8.ofNat t.size :: t.data.toList)) w) := by
  have hb : bm < w.heap.size := by obtain ⟨v, h, _⟩ := hm; exact (Array.getElem?_eq_some_iff.1 h).1
  go_enter Tryz.func98, Tryz.ntmps98
  go_wp2_with fail
  refine (octText_yes t _ h1).mono ?_
  rintro e w1 ⟨u, rfl, hu, hn⟩
  obtain ⟨v, m1, m2⟩ := hm.below hn
  obtain ⟨c1, f1⟩ := maker_cell m1
  have hlt := (Array.getElem?_eq_some_iff.1 m1).1
  go_wp2_with (at_builtin; refine app_bytes rfl _ _ rfl (bm + 1) _ _ _ rfl m2 _ rfl ((UInt8.ofNat t.size :: t.data.toList)) hu (by simp) ?c1 ?c2 ?_)
  case c1 => simp; omega
  case c2 => omega
  intro v' w2 hown hg
  obtain ⟨c3, f3⟩ := maker_later m1 (own_from m2) hg
  obtain ⟨A', k', c', rfl⟩ := own_slice hown
  go_wp2
  go_end0
  exact ⟨maker_store m1 (own_from m2) (Below.mono hn (by omega)) hown hg, keep_store hn m1 m2 hg⟩
theorem cells_of {w : World} {k : Nat} {c : Array Value} {t : TypeId} {f : Nat × Nat} (h : w.heap[k]? = some (.cells c t f)) : ∀ o, w.cell? ⟨k, o, none⟩ = c[o]? := by
  intro o
  simp only [World.cell?, h]; rfl
theorem opns_length {l : List Opn} (h : ∀ u ∈ l, 0 ≤ u.unit ∧ u.unit ≤ 1000000 ∧ 0 ≤ u.next ∧ u.next ≤ 1000000 ∧ u.ready.size ≤ 30) (k : Nat) : ((l.take k).flatMap opnB).length ≤ 39 * (l.take k).length := by
  have : ∀ m : List Opn, (∀ u ∈ m, u.ready.size ≤ 30) → (m.flatMap opnB).length ≤ 39 * m.length := by
    intro m
    induction m with
    | nil => intro _; simp
    | cons a m ih =>
      intro hm
      have h1 := hm a (by simp)
      have h2 := ih (fun u hu => hm u (by simp [hu]))
      have h3 : (opnB a).length ≤ 39 := by simp [opnB, textB, numB_length, data_length]; omega
      simp only [List.flatMap_cons, List.length_append, List.length_cons]
      omega
  exact this _ (fun u hu => (h u (List.mem_of_mem_take hu)).2.2.2.2)
set_option maxRecDepth 100000 in
set_option maxHeartbeats 8000000 in
theorem enc_6 (n : Int) (r : Rec) (bv av uv : Value) (w : World) (h : RecAt w r bv av uv) (hk : r.kind = 6) (hv : validB r = true) (h1 : 1 ≤ n) (h2 : n ≤ 1000000) :
    Calls Tryz.prog 62 #[.int .i64 n, .agg (recCells r bv av uv)] w (BytesBack (bytesOf (encB n r)) w) := by
  have hr := h
  obtain ⟨⟨bp, bc, rfl, b1, b2, _⟩, ⟨ap, ac, rfl, a1, a2, _⟩, ⟨up, uc, rfl, l1, l2, l3⟩⟩ := h
  unfold maxLen at a2 b2 l2
  have G3 := hid l3
  clear l3
  have HC : recCells r (Value.slice bp r.before.size bc) (Value.slice ap r.after.size ac) (Value.slice up r.units.length uc) = #[.int .i64 6, .int .i64 r.unit, .int .i64 r.page, .int .i64 r.at_, Value.slice bp r.before.size bc, Value.slice ap r.after.size ac, .int .i64 r.back, .int .i64 r.next, .string r.text, Value.slice up r.units.length uc] := by unfold recCells; rw [hk]
  rw [HC]
  have HC := hid HC
  have hV := valid_bounds_6 hk hv
  obtain ⟨hU8, hU⟩ := open_units hV.2.2
  have hV := (⟨hV.1, hV.2.1⟩ : 0 ≤ r.unit ∧ r.unit ≤ 1000000)
  have HU := hid hU
  clear hU
  have HK := hid hk
  clear hk
  go_enter Tryz.func62, Tryz.ntmps62
  go_wp2_with fail
  rw [← HC.out]
  refine (valid_any r _ _ _ _ (hr.new ((New.refl w).alloc _ _))).mono ?_
  rintro e w1 ⟨rfl, n1⟩
  rw [HC.out]
  rw [HC.out] at n1
  go_wp2_with fail
  refine (within_yes _ _ _ _ ⟨h1, h2⟩).mono ?_
  rintro e w' ⟨rfl, rfl⟩
  obtain ⟨q1, q2⟩ := n1.made
  go_wp2_with fail
  refine (forms_6 _).mono ?_
  rintro e w2 ⟨rfl, n2⟩
  clear q1 q2
  have n2' := n1.trans n2
  have hz : w.heap.size < w2.heap.size := by have := n2'.size; simp at this; omega
  obtain ⟨R0, R0'⟩ := n2'.made
  go_wp2_with fail
  have hW : New w ((w2.alloc (.cells #[.bool false, .bool false, .bool false, .bool false, .bool true] 126)).alloc (.cells #[.slice none 0 0] 138)) := ((((New.refl w).alloc _ _).trans n2').alloc _ _).alloc _ _
  clear R0 R0'
  have R0 := (((n2'.alloc _ _).alloc _ _ : New (w.alloc (.cells #[.int .i64 6, .int .i64 r.unit, .int .i64 r.page, .int .i64 r.at_, Value.slice bp r.before.size bc, Value.slice ap r.after.size ac, .int .i64 r.back, .int .i64 r.next, .string r.text, Value.slice up r.units.length uc] 70)) ((w2.alloc (.cells #[.bool false, .bool false, .bool false, .bool false, .bool true] 126)).alloc (.cells #[.slice none 0 0] 138)))).made.1
  have F0 := ((New.refl _).alloc _ _ : New (w2.alloc (.cells #[.bool false, .bool false, .bool false, .bool false, .bool true] 126)) ((w2.alloc (.cells #[.bool false, .bool false, .bool false, .bool false, .bool true] 126)).alloc (.cells #[.slice none 0 0] 138))).made.1
  have m0 := maker_new (w2.alloc (.cells #[.bool false, .bool false, .bool false, .bool false, .bool true] 126))
  rw [World.size_alloc] at m0
  have hB0 := Below.refl (w2.heap.size + 1) ((w2.alloc (.cells #[.bool false, .bool false, .bool false, .bool false, .bool true] 126)).alloc (.cells #[.slice none 0 0] 138))
  refine (makerNumber _ (0) _ _ (by omega) (by omega) (by simp [numB_length] <;> omega) m0).mono ?_
  rintro e v1 ⟨rfl, m1, hb1, hl1⟩
  have hB1 := hB0.trans hb1
  have R1 := below_at hb1 (by omega) R0
  have F1 := below_at hb1 (by omega) F0
  clear R0 F0 m0 hb1 hB0
  go_wp2_with fail
  refine (makerNumber _ n _ _ (by omega) (by omega) (by simp [numB_length] <;> omega) m1).mono ?_
  rintro e v2 ⟨rfl, m2, hb2, hl2⟩
  have hB2 := hB1.trans hb2
  have R2 := below_at hb2 (by omega) R1
  have F2 := below_at hb2 (by omega) F1
  clear R1 F1 m1 hb2 hB1
  go_wp2_with fail
  refine (makerSmall _ (6) _ _ (by omega) (by omega) (by simp [numB_length] <;> omega) m2).mono ?_
  rintro e v3 ⟨rfl, m3, hb3, hl3⟩
  have hB3 := hB2.trans hb3
  have R3 := below_at hb3 (by omega) R2
  have F3 := below_at hb3 (by omega) F2
  clear R2 F2 m2 hb3 hB2
  go_wp2_with fail
  refine (makerNumber _ r.unit _ _ (by omega) (by omega) (by simp [numB_length] <;> omega) m3).mono ?_
  rintro e v4 ⟨rfl, m4, hb4, hl4⟩
  have hB4 := hB3.trans hb4
  have R4 := below_at hb4 (by omega) R3
  have F4 := below_at hb4 (by omega) F3
  clear R3 F3 m3 hb4 hB3
  go_wp2_with fail
  refine (makerSmall _ (r.units.length : Int) _ _ (by omega) (by omega) (by simp [numB_length] <;> omega) m4).mono ?_
  rintro e v5 ⟨rfl, m5, hb5, hl5⟩
  have hB5 := hB4.trans hb5
  have R5 := below_at hb5 (by omega) R4
  have F5 := below_at hb5 (by omega) F4
  clear R4 F4 m4 hb5 hB4
  obtain ⟨S0, hS0⟩ : ∃ S0, S0 = ([] ++ numB 0 ++ numB n ++ [UInt8.ofNat ((6 : Int)).toNat] ++ numB r.unit ++ [UInt8.ofNat (r.units.length : Int).toNat]) := ⟨_, rfl⟩
  rw [← hS0] at m5
  have hS0l : S0.length ≤ 100 := by rw [hS0]; simp [numB_length]
  have HS0 := hid hS0
  clear hS0
  have NW := hid (hW.below hB5 (by omega))
  have M5 := hid m5
  have HB5 := hid hB5
  clear m5 hB5
  have hl5' := hl5
  go_wp2
  clear R5 F5
  go_loopw [10, 92] (fun _ i wr => ∃ k : Nat, k ≤ r.units.length ∧ i = .int .i64 k ∧ Hid (Maker wr (w2.heap.size + 1) (S0 ++ (r.units.take k).flatMap opnB) ∧ Below (w2.heap.size + 1) v5 wr ∧ (w2.heap.size + 1) < wr.heap.size)) (fun _ i _ => r.units.length - (intOf i).toNat)
  case atStart => exact ⟨0, Nat.zero_le _, rfl, by simpa using M5.out, Below.refl _ _, hl5'⟩
  case round =>
    obtain ⟨k, hk, rfl, hyp⟩ := hrel
    by_cases hlt : k < r.units.length
    · obtain ⟨b, o, rfl, hb, hc⟩ := G3.out (by omega)
      obtain ⟨MK, BK, hsz⟩ := hyp.out
      have hnw : New w wr := NW.out.below BK (by omega)
      obtain ⟨c0, c1, c2⟩ := opns_at hc k hlt
      rw [← hnw.cell _ _ hb] at c0 c1 c2
      have hb2 : b < wr.heap.size := Nat.lt_of_lt_of_le hb hnw.size
      have HX := hid (HU.out _ (List.getElem_mem hlt))
      have hSk : (S0 ++ (r.units.take k).flatMap opnB).length ≤ 600 := by
        rw [List.length_append]
        have := opns_length HU.out k
        have h2 : (r.units.take k).length ≤ 8 := by rw [List.length_take]; omega
        omega
      have HE : Hid ((S0 ++ (r.units.take k).flatMap opnB) ++ opnB r.units[k] = S0 ++ (r.units.take (k + 1)).flatMap opnB) := by
        unfold Hid
        rw [List.take_succ_eq_append_getElem hlt, List.flatMap_append]
        simp
      obtain ⟨S1, hS1⟩ : ∃ S1, S1 = S0 ++ (r.units.take k).flatMap opnB := ⟨_, rfl⟩
      rw [← hS1] at MK hSk HE
      clear hS1 hyp hc G3
      generalize hx : r.units[k] = x at *
      clear hx
      have HXX := HX.out
      have MK2 := MK.below ((New.refl wr).alloc #[.int .i64 x.unit, .int .i64 x.next, .string x.ready] 133)
      go_wp2_with fail
      have K0 : (wr.alloc (.cells #[.int .i64 x.unit, .int .i64 x.next, .string x.ready] 133)).heap[wr.heap.size]? = some (.cells #[.int .i64 x.unit, .int .i64 x.next, .string x.ready] 133 (0, 0)) := heap_alloc_new wr _
      have B0 := BK.alloc (Nat.le_of_lt hsz) (.cells #[.int .i64 x.unit, .int .i64 x.next, .string x.ready] 133)
      refine (makerNumber2 _ x.unit _ _ (by omega) (by omega) (by omega) MK2).mono ?_
      rintro e u1 ⟨⟨rfl, m1, hb1, hs1⟩, k1⟩
      have K1 := k1 _ _ _ _ K0 (by decide) (by decide)
      have B1 := B0.trans hb1
      have C1 := cells_of K1
      go_wp2_with fail
      refine (makerNumber2 _ x.next _ _ (by omega) (by omega) (by simp [numB_length] <;> omega) m1).mono ?_
      rintro e u2 ⟨⟨rfl, m2, hb2', hs2⟩, k2⟩
      have K2 := k2 _ _ _ _ K1 (by decide) (by decide)
      have B2 := B1.trans hb2'
      clear C1
      have C2 := cells_of K2
      go_wp2_with fail
      refine (makerText2 _ x.ready _ _ (by omega) (by simp [numB_length] <;> omega) m2).mono ?_
      rintro e u3 ⟨⟨rfl, m3, hb3', hs3⟩, k3⟩
      have B3 := B2.trans hb3'
      clear C2
      have M3 := hid m3
      clear m3
      have EE : S1 ++ numB x.unit ++ numB x.next ++ (UInt8.ofNat x.ready.size :: x.ready.data.toList) = S0 ++ (r.units.take (k + 1)).flatMap opnB := by
        rw [← HE.out]; simp [opnB, textB]
      have M4 : Hid (Maker u3 (w2.heap.size + 1) (S0 ++ (r.units.take (k + 1)).flatMap opnB)) := by rw [← EE]; exact M3
      have B4 := hid B3
      clear B3 B2 B1 B0 m1 m2 MK MK2 K0 K1 K2 k1 k2 k3 EE M3 HE
      go_wp2
      go_roundw
      case rel => exact ⟨k + 1, by omega, by simp, M4.out, B4.out, hs3⟩
      case measure => simp [intOf]; omega
    · obtain rfl : k = r.units.length := by omega
      obtain ⟨MK, BK, hsz⟩ := hyp.out
      have hSk : (S0 ++ (r.units.take r.units.length).flatMap opnB).length ≤ 600 := by
        rw [List.length_append]
        have := opns_length HU.out r.units.length
        have h2 : (r.units.take r.units.length).length ≤ 8 := by rw [List.length_take]; omega
        omega
      rw [List.take_length] at MK hSk
      have HF' : S0 ++ r.units.flatMap opnB = numB 0 ++ (headB n r ++ restB r) := by rw [HS0.out]; simp [headB, restB, HK.out, smallB, textB]
      have hS4 : 4 ≤ (S0 ++ r.units.flatMap opnB).length := by rw [HF']; simp [numB_length]
      have HF := hid (enc_fin (n := n) (r := r) (S := S0 ++ r.units.flatMap opnB) HF')
      clear HF'
      obtain ⟨S, hS⟩ : ∃ S, S = S0 ++ r.units.flatMap opnB := ⟨_, rfl⟩
      rw [← hS] at HF hS4 MK hSk
      clear hS hyp
      have BX := hid BK
      clear BK
      obtain ⟨v, x1, x2⟩ := MK
      obtain ⟨y1, y2⟩ := maker_cell x1
      obtain ⟨A, c, rfl⟩ := own_len x2
      go_wp2_with fail
      refine (octNumber_yes _ _ (by omega) (by omega)).mono ?_
      rintro e z1 ⟨u, rfl, hu, nz⟩
      clear y1 y2
      have x3 : z1.heap[w2.heap.size + 1]? = some (.cells #[.slice A S.length c] 138 (0, 0)) := by rw [Below.block nz _ (by omega)]; exact x1
      have x4 : z1.ownsRow (w2.heap.size + 1 + 1) 5 1 (.slice A S.length c) S.length (u8s S) := own_new x2 nz
      obtain ⟨y1, y2⟩ := maker_cell x3
      have hp : 0 < (numB (S.length : Int)).length := by simp [numB_length]
      have hq : (numB (S.length : Int)).length ≤ S.length := by rw [numB_length]; exact hS4
      have HP := hid hp
      have HQ := hid hq
      clear hp hq
      go_wp2_with (with_reducible refine copy_head rfl (.tmp 121) (.tmp 122) rfl (w2.heap.size + 1 + 1) _ _ _ ?hd x4 _ ?hs _ hu HP.out HQ.out ?_)
      case hd => rfl
      case hs => rfl
      intro z2 hown hg
      obtain ⟨y3, y4⟩ := maker_later x3 (own_from x4) hg
      go_wp2
      go_ret2
      refine ⟨_, rfl, own_bytes hown HF.out.2 HF.out.1, ((NW.out.below BX.out ?_).trans nz).trans_grown hg ?_⟩
      · omega
      · intro k hk; have := own_from x4 k hk; omega

/-- What is returned where no block is made. -/
def NoBlock (w : World) (e : Ending) (w' : World) : Prop := e = .returned (.tuple #[.slice none 0 0, .int .i64 2]) ∧ New w w'
set_option maxHeartbeats 2000000 in
theorem enc_no (n : Int) (r : Rec) (bv av uv : Value) (w : World) (h : RecAt w r bv av uv) (hv : (validB r && wi 1 n 1000000) = false) :
    Calls Tryz.prog 62 #[.int .i64 n, .agg (recCells r bv av uv)] w (NoBlock w) := by
  have hr := h
  by_cases e1 : validB r = true
  · have e2 : wi 1 n 1000000 = false := by rw [e1] at hv; simpa using hv
    go_enter Tryz.func62, Tryz.ntmps62
    go_wp2_with fail
    refine (valid_any r _ _ _ _ (hr.new ((New.refl w).alloc _ _))).mono ?_
    rintro e w1 ⟨rfl, n1⟩
    rw [e1]
    have N1 := ((New.refl w).alloc _ _).trans n1
    go_wp2_with fail
    refine (within_any _ _ _ _).mono ?_
    rintro e w' ⟨rfl, rfl⟩
    rw [e2]
    go_wp2
    go_ret2
    exact ⟨rfl, N1⟩
  · have e1 : validB r = false := by simpa using e1
    go_enter Tryz.func62, Tryz.ntmps62
    go_wp2_with fail
    refine (valid_any r _ _ _ _ (hr.new ((New.refl w).alloc _ _))).mono ?_
    rintro e w1 ⟨rfl, n1⟩
    rw [e1]
    have N1 := ((New.refl w).alloc _ _).trans n1
    go_wp2
    go_ret2
    exact ⟨rfl, N1⟩
theorem encode_any (n : Int) (r : Rec) (bv av uv : Value) (w : World) (h : RecAt w r bv av uv) :
    Calls Tryz.prog 62 #[.int .i64 n, .agg (recCells r bv av uv)] w fun e w' => if validB r && wi 1 n 1000000 then BytesBack (bytesOf (encB n r)) w e w' else NoBlock w e w' := by
  by_cases hv : (validB r && wi 1 n 1000000) = true
  · simp only [hv, if_true]
    rw [Bool.and_eq_true, wi_iff] at hv
    obtain ⟨hv, h1, h2⟩ := hv
    rcases (valid_kinds hv).1 with h' | h' | h' | h' | h' | h' | h'
    · exact enc_1 n r _ _ _ w h h' hv h1 h2
    · exact enc_2 n r _ _ _ w h h' hv h1 h2
    · exact enc_3 n r _ _ _ w h h' hv h1 h2
    · exact enc_4 n r _ _ _ w h h' hv h1 h2
    · exact enc_5 n r _ _ _ w h h' hv h1 h2
    · exact enc_6 n r _ _ _ w h h' hv h1 h2
    · exact enc_7 n r _ _ _ w h h' hv h1 h2
  · have hv : (validB r && wi 1 n 1000000) = false := by simpa using hv
    simp only [hv, if_false, Bool.false_eq_true]
    exact enc_no n r _ _ _ w h hv

end Go.Proofs.YtdccbceaajnajaaGreat
