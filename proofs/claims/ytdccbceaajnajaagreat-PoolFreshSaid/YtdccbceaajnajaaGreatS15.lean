/- tape.Tape.Append on a disk that may be armed. Appending a note on both sides. Appending a note to the specification's pool. -/
import Derived.Test.YtdccbceaajnajaaGreatS12
import Derived.Deep.RegionLaw
import Derived.Deep.RegionWith
namespace Go.Proofs.YtdccbceaajnajaaGreat
open Go.RowKit
set_option linter.unusedSimpArgs false
set_option linter.unusedVariables false


set_option maxRecDepth 100000 in
set_option maxHeartbeats 8000000 in
theorem tappend_up (w0 : World) (b : Nat) (ow : Option Nat) (tb : Nat) (ot : Option Nat) (A : ADisk) (T : ATape) (m : Nat) (r : Rec) (bv av uv : Value) (w : World) (hL : Log w0 w b ow tb ot A T) (hC : Lim A m) (hwr : writeE A (120 + (T.recs.length : Int)) (bytesOf (encB ((T.recs.length : Int) + 1) r)) = 0) (hm : m ≤ 1000000) (hr : ∀ w', Turn (logs b ow tb ot) w w' → RecAt w' r bv av uv) (h0 : appendE T r = 0) (hl : T.recs.length ≤ 3000) :
    Calls Tryz.prog 25 #[.pointer (some ⟨tb, 0, none⟩), .agg (recCells r bv av uv)] w (Appended w0 b ow tb ot A T r w) := by
  have hv : validB r = true := by
    cases hv : validB r with
    | true => rfl
    | false => simp [appendE, hv] at h0
  have hlt : T.recs.length < 3000 := by
    rcases Nat.lt_or_ge T.recs.length 3000 with h | h
    · exact h
    · have : T.recs.length = 3000 := by omega
      simp [appendE, hv, this] at h0
  have HR := hid hr
  have hr0 := hr w (Turn.refl _ w)
  obtain ⟨⟨bp, bc, rfl, -⟩, ⟨ap, ac, rfl, -⟩, ⟨up, uc, rfl, -⟩⟩ := hr0
  obtain ⟨c, hc0⟩ : ∃ c : Array Value, c = #[.int .i64 r.kind, .int .i64 r.unit, .int .i64 r.page, .int .i64 r.at_, .slice bp r.before.size bc, .slice ap r.after.size ac, .int .i64 r.back, .int .i64 r.next, .string r.text, .slice up r.units.length uc] := ⟨_, rfl⟩
  have L1 := hid (hL.newer ((New.refl w).alloc c 70))
  obtain ⟨tp, tc, hc, hf⟩ := tape_cells L1.out.tape
  have X1 : (w.alloc (.cells c 70)).heap[w.heap.size]? = some (.cells c 70 (0, 0)) := heap_alloc_new w _
  have N1 := hid ((New.refl w).alloc c 70)
  rw [hc0] at hc hf
  have HV := hid hv
  have HC0 := hid hc0
  have HLT := hid hlt
  have HC := hid hC
  have HW := hid hwr
  have HX1 := hid X1
  have HLL := hid hL
  have H0 := hid h0
  clear hL h0 hv hc0 hC X1 hr hwr
  go_enter Tryz.func25, Tryz.ntmps25
  go_wp2_with fail
  refine (tnone_no tb b _ (hc 0)).mono ?_
  rintro e w' ⟨rfl, rfl⟩
  go_wp2_with fail
  refine (valid_any r _ _ _ _ (HR.out _ (Turn.of_new ((New.refl w).alloc _ _)))).mono ?_
  rintro e w1 ⟨rfl, n1⟩
  rw [HV.out]
  rw [← HC0.out] at n1
  have L2 := hid (L1.out.newer n1)
  have N2 := hid (N1.out.trans n1)
  clear L1 N1 hc hf
  go_wp2_with fail
  refine (free_any tb ot b T _ L2.out.tape (by have := HLT.out; omega)).mono ?_
  rintro e w2 ⟨rfl, rfl⟩
  have q1 : ((3000 : Int) - (T.recs.length : Int) == 0) = false := by have := HLT.out; simp; omega
  obtain ⟨tp, tc, hc, hf⟩ := tape_cells L2.out.tape
  have X2 : w1.heap[w.heap.size]? = some (.cells c 70 (0, 0)) := by rw [Below.block n1 _ (by simp)]; exact HX1.out
  have ml := cells_of X2
  rw [HC0.out] at ml
  have HX2 := hid X2
  clear HX1 X2 n1
  go_wp2_with fail
  refine (encode_any ((T.recs.length : Int) + 1) r _ _ _ _ (HR.out _ (Turn.of_new N2.out))).mono ?_
  rintro e w2 he
  have ok : (validB r && wi 1 ((T.recs.length : Int) + 1) 1000000) = true := by
    have : wi 1 ((T.recs.length : Int) + 1) 1000000 = true := by rw [wi_iff]; have := HLT.out; omega
    rw [HV.out, this]; rfl
  simp only [ok, if_true] at he
  obtain ⟨v2, rfl, hb2, n2⟩ := he
  obtain ⟨s, hs⟩ : ∃ s, s = bytesOf (encB ((T.recs.length : Int) + 1) r) := ⟨_, rfl⟩
  rw [← hs] at hb2
  have HS : Hid (s.size ≤ 340) := hid (by rw [hs]; exact encB_small HV.out)
  have HSS := hid hs
  clear hs ok ml hc hf
  obtain ⟨p2, c2, rfl, k1, k2, -⟩ := id hb2
  have HB := hid hb2
  have L3 := hid (L2.out.newer n2)
  have N3 := hid (N2.out.trans n2)
  have HN3 := hid N3.out
  have X3 : w2.heap[w.heap.size]? = some (.cells c 70 (0, 0)) := by rw [Below.block n2 _ (Array.getElem?_eq_some_iff.1 HX2.out).1]; exact HX2.out
  have HX3 := hid X3
  clear L2 N2 HX2 X3 n2 hb2
  obtain ⟨tp, tc, hc, hf⟩ := tape_cells L3.out.tape
  go_wp2_with fail
  have e1 : (120 : Int) + ((T.recs.length : Int) + 1) - 1 = 120 + (T.recs.length : Int) := by omega
  try rw [e1]
  refine (write_any b ow A (120 + (T.recs.length : Int)) _ s _ L3.out.disk HB.out (bytes_not_disk L3.out.disk HB.out) (by have := HC.out.falls; omega) (by have := HC.out.acts; omega) (by have := HC.out.waits; omega)).mono ?_
  clear e1
  rintro e w3 hm
  obtain ⟨ow', rfl, hl3, ht3, how⟩ := L3.out.moved hm
  have OW := hid how
  rw [show writeE A (120 + (T.recs.length : Int)) s = 0 by rw [HSS.out]; exact HW.out]
  have T3 := hid ((Turn.of_new (S := its b ow) N3.out).trans ht3)
  have X4 : w3.heap[w.heap.size]? = some (.cells c 70 (0, 0)) := by
    rw [ht3.block _ (Array.getElem?_eq_some_iff.1 HX3.out).1 (its_not L3.out.disk HX3.out (by decide) (by decide))]; exact HX3.out
  have L4 := hid hl3
  have HX4 := hid X4
  clear how hm hl3 ht3 X4 HX3 hc hf L3 N3 HB k1 k2
  obtain ⟨v4, te, tv, xs, tw, tr⟩ := L4.out.tape
  obtain ⟨tp, tc, rfl⟩ := own_len tw
  have hc := cells_of te
  have hf := frozen_of te
  have TE := hid te
  have TO := hid tw
  have TR := hid tr
  have ml := cells_of HX4.out
  rw [HC0.out] at ml
  have hq := own_ne tw te (show (87 : TypeId) ≠ 70 by decide)
  have HQ := hid hq
  have hlt4 : tb < w3.heap.size := (Array.getElem?_eq_some_iff.1 te).1
  have c1' : ∀ w', New w3 w' → w'.cell? ⟨tb, 1, none⟩ = some (.slice tp T.recs.length tc) := fun w' h => by rw [h.cell tb 1 hlt4]; exact hc 1
  have z1' : ∀ w', New w3 w' → w'.frozen? ⟨tb, 1, none⟩ = false := fun w' h => by rw [(bcell h).2 tb 1 hlt4]; exact hf 1
  have SM := hid (small_of_valid HV.out)
  have LE := hid (show T.recs.length ≤ 1000000 by have := HLT.out; omega)
  clear te tw tr hq
  go_upto_region 12 with fail
  go_region_law (first
    | (go_simp; go_at_call 63; refine (copied_any r _ _ _ _ (HR.out _ ((T3.out.mono (fun k _ e => Or.inl e)).drew)) (by have := SM.out; omega) (by have := SM.out; omega) (by have := SM.out; omega)).mono ?_; rintro e w5 ⟨bv5, av5, uv5, rfl, hin, hn5⟩; obtain ⟨⟨⟨p5, k5, rfl, -⟩, -⟩, ⟨⟨p6, k6, rfl, -⟩, -⟩, ⟨⟨p7, k7, rfl, -⟩, -⟩⟩ := id hin; have IN := hid hin; have HN5 := hid hn5; clear hin hn5; have c5 := c1' _ ((New.refl w3).drew.trans HN5.out); have l5 := ((New.refl w3).drew.trans HN5.out).size; have l6 : tb < w5.heap.size := Nat.lt_of_lt_of_le hlt4 l5; have c6 := c1' _ (((New.refl w3).drew.trans HN5.out).alloc #[.int .i64 r.kind, .int .i64 r.unit, .int .i64 r.page, .int .i64 r.at_, .slice p5 r.before.size k5, .slice p6 r.after.size k6, .int .i64 r.back, .int .i64 r.next, .string r.text, .slice p7 r.units.length k7] 70))
    | (refine step_rec rfl _ _ rfl _ _ _ rfl 0 (own_old TO.out (((New.refl w3).drew.trans HN5.out).alloc _ _)) (Nat.zero_le _) w5.heap.size r p5 p6 p7 _ k5 _ k6 _ k7 rfl (cells_of (heap_alloc_new w5 _)) LE.out ?_; intro g8 k8 w8 own8 grow8 blk8; have l8 : tb < (w5.alloc (.cells #[.int .i64 r.kind, .int .i64 r.unit, .int .i64 r.page, .int .i64 r.at_, .slice p5 r.before.size k5, .slice p6 r.after.size k6, .int .i64 r.back, .int .i64 r.next, .string r.text, .slice p7 r.units.length k7] 70)).heap.size := (by simp; omega); have c8 := grow8.cell_far ⟨tb, 1, none⟩ l8 (fun e => HQ.out e.symm); have z8 := grow8.frozen_far ⟨tb, 1, none⟩ l8 (fun e => HQ.out e.symm); rw [c1' _ (((New.refl w3).drew.trans HN5.out).alloc _ _)] at c8; rw [z1' _ (((New.refl w3).drew.trans HN5.out).alloc _ _)] at z8))
  all_goals
    have d8 := grow8.cell_far ⟨tb, 3, none⟩ l8 (fun e => HQ.out e.symm)
    have y8 := grow8.frozen_far ⟨tb, 3, none⟩ l8 (fun e => HQ.out e.symm)
    rw [(((New.refl w3).drew.trans HN5.out).alloc _ _).cell tb 3 hlt4, hc 3] at d8
    rw [(bcell (((New.refl w3).drew.trans HN5.out).alloc _ _)).2 tb 3 hlt4, hf 3] at y8
    have O8 := hid own8
    have G8 := hid grow8
    have B8 := hid blk8
    clear own8 grow8 blk8 hc hf c1' z1' ml
    go_wp2
    go_ret2
    refine append_end L4.out HLL.out T3.out (fun k hk => ?_) ?_ H0.out TE.out tv TO.out TR.out (((New.refl w3).drew.trans HN5.out).alloc _ _) (IN.out.new ((New.refl w5).alloc _ _)) O8.out G8.out B8.out
    · rcases OW.out k hk with h | h
      · exact Or.inl h
      · exact Or.inr (Nat.le_trans HN3.out.size h)
    · simp only [appendA, if_pos H0.out, HSS.out]



set_option maxRecDepth 100000 in
set_option maxHeartbeats 8000000 in
theorem tappend_fell (w0 : World) (b : Nat) (ow : Option Nat) (tb : Nat) (ot : Option Nat) (A : ADisk) (T : ATape) (m : Nat) (r : Rec) (bv av uv : Value) (w : World) (hL : Log w0 w b ow tb ot A T) (hC : Lim A m) (hwr : writeE A (120 + (T.recs.length : Int)) (bytesOf (encB ((T.recs.length : Int) + 1) r)) ≠ 0) (hm : m ≤ 1000000) (hr : ∀ w', Turn (logs b ow tb ot) w w' → RecAt w' r bv av uv) (h0 : appendE T r = 0) (hl : T.recs.length ≤ 3000) :
    Calls Tryz.prog 25 #[.pointer (some ⟨tb, 0, none⟩), .agg (recCells r bv av uv)] w (fun e w' => ∃ ow', e = .returned (.tuple #[.int .i64 0, .int .i64 (writeE A (120 + (T.recs.length : Int)) (bytesOf (encB ((T.recs.length : Int) + 1) r)))]) ∧ Log w0 w' b ow' tb ot (writeA A (120 + (T.recs.length : Int)) (bytesOf (encB ((T.recs.length : Int) + 1) r))) T ∧ Turn (logs b ow tb ot) w w' ∧ (∀ k, ow' = some k → ow = some k ∨ w.heap.size ≤ k)) := by
  have hv : validB r = true := by
    cases hv : validB r with
    | true => rfl
    | false => simp [appendE, hv] at h0
  have hlt : T.recs.length < 3000 := by
    rcases Nat.lt_or_ge T.recs.length 3000 with h | h
    · exact h
    · have : T.recs.length = 3000 := by omega
      simp [appendE, hv, this] at h0
  have HR := hid hr
  have hr0 := hr w (Turn.refl _ w)
  obtain ⟨⟨bp, bc, rfl, -⟩, ⟨ap, ac, rfl, -⟩, ⟨up, uc, rfl, -⟩⟩ := hr0
  obtain ⟨c, hc0⟩ : ∃ c : Array Value, c = #[.int .i64 r.kind, .int .i64 r.unit, .int .i64 r.page, .int .i64 r.at_, .slice bp r.before.size bc, .slice ap r.after.size ac, .int .i64 r.back, .int .i64 r.next, .string r.text, .slice up r.units.length uc] := ⟨_, rfl⟩
  have L1 := hid (hL.newer ((New.refl w).alloc c 70))
  obtain ⟨tp, tc, hc, hf⟩ := tape_cells L1.out.tape
  have X1 : (w.alloc (.cells c 70)).heap[w.heap.size]? = some (.cells c 70 (0, 0)) := heap_alloc_new w _
  have N1 := hid ((New.refl w).alloc c 70)
  rw [hc0] at hc hf
  have HV := hid hv
  have HC0 := hid hc0
  have HLT := hid hlt
  have HC := hid hC
  have HW := hid hwr
  have HX1 := hid X1
  have HLL := hid hL
  have H0 := hid h0
  clear hL h0 hv hc0 hC X1 hr hwr
  go_enter Tryz.func25, Tryz.ntmps25
  go_wp2_with fail
  refine (tnone_no tb b _ (hc 0)).mono ?_
  rintro e w' ⟨rfl, rfl⟩
  go_wp2_with fail
  refine (valid_any r _ _ _ _ (HR.out _ (Turn.of_new ((New.refl w).alloc _ _)))).mono ?_
  rintro e w1 ⟨rfl, n1⟩
  rw [HV.out]
  rw [← HC0.out] at n1
  have L2 := hid (L1.out.newer n1)
  have N2 := hid (N1.out.trans n1)
  clear L1 N1 hc hf
  go_wp2_with fail
  refine (free_any tb ot b T _ L2.out.tape (by have := HLT.out; omega)).mono ?_
  rintro e w2 ⟨rfl, rfl⟩
  have q1 : ((3000 : Int) - (T.recs.length : Int) == 0) = false := by have := HLT.out; simp; omega
  obtain ⟨tp, tc, hc, hf⟩ := tape_cells L2.out.tape
  have X2 : w1.heap[w.heap.size]? = some (.cells c 70 (0, 0)) := by rw [Below.block n1 _ (by simp)]; exact HX1.out
  have ml := cells_of X2
  rw [HC0.out] at ml
  have HX2 := hid X2
  clear HX1 X2 n1
  go_wp2_with fail
  refine (encode_any ((T.recs.length : Int) + 1) r _ _ _ _ (HR.out _ (Turn.of_new N2.out))).mono ?_
  rintro e w2 he
  have ok : (validB r && wi 1 ((T.recs.length : Int) + 1) 1000000) = true := by
    have : wi 1 ((T.recs.length : Int) + 1) 1000000 = true := by rw [wi_iff]; have := HLT.out; omega
    rw [HV.out, this]; rfl
  simp only [ok, if_true] at he
  obtain ⟨v2, rfl, hb2, n2⟩ := he
  obtain ⟨s, hs⟩ : ∃ s, s = bytesOf (encB ((T.recs.length : Int) + 1) r) := ⟨_, rfl⟩
  rw [← hs] at hb2
  have HS : Hid (s.size ≤ 340) := hid (by rw [hs]; exact encB_small HV.out)
  have HSS := hid hs
  clear hs ok ml hc hf
  obtain ⟨p2, c2, rfl, k1, k2, -⟩ := id hb2
  have HB := hid hb2
  have L3 := hid (L2.out.newer n2)
  have N3 := hid (N2.out.trans n2)
  have HN3 := hid N3.out
  have X3 : w2.heap[w.heap.size]? = some (.cells c 70 (0, 0)) := by rw [Below.block n2 _ (Array.getElem?_eq_some_iff.1 HX2.out).1]; exact HX2.out
  have HX3 := hid X3
  clear L2 N2 HX2 X3 n2 hb2
  obtain ⟨tp, tc, hc, hf⟩ := tape_cells L3.out.tape
  go_wp2_with fail
  have e1 : (120 : Int) + ((T.recs.length : Int) + 1) - 1 = 120 + (T.recs.length : Int) := by omega
  try rw [e1]
  refine (write_any b ow A (120 + (T.recs.length : Int)) _ s _ L3.out.disk HB.out (bytes_not_disk L3.out.disk HB.out) (by have := HC.out.falls; omega) (by have := HC.out.acts; omega) (by have := HC.out.waits; omega)).mono ?_
  clear e1
  rintro e w3 hm
  obtain ⟨ow', rfl, hl3, ht3, how⟩ := L3.out.moved hm
  have OW := hid how
  have hw0 : writeE A (120 + (T.recs.length : Int)) s ≠ 0 := by rw [HSS.out]; exact HW.out
  have T3 := hid ((Turn.of_new (S := its b ow) N3.out).trans ht3)
  have HL3 := hid hl3
  have OW2 : Hid (∀ k, ow' = some k → ow = some k ∨ w.heap.size ≤ k) := hid fun k hk => (OW.out k hk).imp id (Nat.le_trans N3.out.size)
  have q5 : (writeE A (120 + (T.recs.length : Int)) s == 0) = false := by simpa using hw0
  have q6 : (writeE A (120 + (T.recs.length : Int)) s != 0) = true := by simpa using hw0
  clear how hm hl3 ht3 hc hf L3 N3 HB k1 k2 hw0
  go_wp2
  go_ret2
  rw [← HSS.out]
  exact ⟨ow', rfl, HL3.out, T3.out.mono fun k _ h => .inl h, OW2.out⟩
end Go.Proofs.YtdccbceaajnajaaGreat

namespace Go.Proofs.YtdccbceaajnajaaGreat
open Go.RowKit
set_option linter.unusedSimpArgs false
set_option linter.unusedVariables false

theorem ref_no_u8 {w : World} {b : Nat} {ow : Option Nat} {A : ADisk} (h : RefAt w b ow A) (i : Nat) (n : Int) : w.cell? ⟨b, i, none⟩ ≠ some (.int .u8 n) := by
  obtain ⟨f, ⟨cs, h1, h2, h3⟩, hd⟩ := h
  intro e
  rw [cells_of h1] at e
  have hlt : i < 3125 := by rw [← h2]; exact (Array.getElem?_eq_some_iff.1 e).1
  have hv : cs[i]? = some (f i) := h3 i hlt
  rw [hv] at e
  injection e with e
  rcases (show i < 3120 ∨ i = 3120 ∨ i = 3121 ∨ i = 3122 ∨ i = 3123 ∨ i = 3124 by omega) with h | rfl | rfl | rfl | rfl | rfl
  · rw [hd.safe i h] at e; cases e
  · rcases hd.own.2 with ⟨h, _⟩ | ⟨_, _, _, h, _⟩ <;> rw [h] at e <;> cases e
  · rw [hd.armed] at e; cases e
  · rw [hd.down] at e; cases e
  · rw [hd.acts] at e; cases e
  · rw [hd.falls] at e; cases e
theorem bytes_not_ref {w : World} {b : Nat} {ow : Option Nat} {A : ADisk} (h : RefAt w b ow A) {v : Value} {s : ByteArray} (hv : Bytes w v s) : 0 < s.size → ∀ k, v.ownBlock = some k → ¬ k = b := by
  intro h0 k hk e
  subst e
  obtain ⟨p, c, rfl, _, _, h3⟩ := hv
  obtain ⟨b', o, rfl, hb, hc⟩ := h3 h0
  simp only [Value.ownBlock, Option.some.injEq] at hk
  subst hk
  have := hc 0 (by rw [byteVals_length]; exact h0)
  rw [byteVals_getD s 0 h0] at this
  exact ref_no_u8 h _ _ this
/-- A note. -/
def noteR (s : ByteArray) : Rec := ⟨7, 0, 0, 0, ByteArray.empty, ByteArray.empty, 0, 0, s, []⟩
def nilV : Value := .slice none 0 0
theorem note_at (w : World) (s : ByteArray) : RecAt w (noteR s) (.slice none 0 0) (.slice none 0 0) (.slice none 0 0) :=
  ⟨(Content.nil w).1, (Content.nil w).1, ⟨none, 0, rfl, Nat.le_refl _, by decide, fun h => absurd h (Nat.lt_irrefl 0)⟩⟩
def appS (T : ATape) (r : Rec) : ByteArray := bytesOf (encB ((T.recs.length : Int) + 1) r)
/-- What appending leaves. -/
def appU (A : ADisk) (T : ATape) (P : APool) (r : Rec) : Used :=
  if validB r then
    (if writeE A (120 + (T.recs.length : Int)) (appS T r) = 0 then ⟨0, writeA A (120 + (T.recs.length : Int)) (appS T r), { T with recs := T.recs ++ [r], late := true }, P⟩
     else ⟨writeE A (120 + (T.recs.length : Int)) (appS T r), writeA A (120 + (T.recs.length : Int)) (appS T r), T, P⟩)
  else ⟨2, A, T, P⟩
def appN (T : ATape) (U : Used) : Int := if U.e = 0 then (T.recs.length : Int) + 1 else 0
theorem appN_zero {T : ATape} {A : ADisk} {T' : ATape} {P : APool} : appN T ⟨0, A, T', P⟩ = (T.recs.length : Int) + 1 := rfl
theorem appN_not {T : ATape} {E : Int} {A : ADisk} {T' : ATape} {P : APool} (h : E ≠ 0) : appN T ⟨E, A, T', P⟩ = 0 := if_neg h
def AppBack (w0 : World) (b : Nat) (ow : Option Nat) (tb : Nat) (ot : Option Nat) (pb : Nat) (os : Option Nat) (T : ATape) (P : APool) (U : Used) (w : World) (e : Ending) (w' : World) : Prop :=
  ∃ ow' ot', e = .returned (.tuple #[.int .i64 (appN T U), .int .i64 U.e]) ∧ Sys w0 w' b ow' tb ot' pb os U.A U.T U.P ∧ Turn (alls b ow tb ot pb os P) w w'
set_option maxRecDepth 10000 in
theorem append_any (w0 : World) (b : Nat) (ow : Option Nat) (tb : Nat) (ot : Option Nat) (pb : Nat) (os : Option Nat) (A : ADisk) (T : ATape) (P : APool) (m : Nat) (s : ByteArray) (w : World) (S : Sys w0 w b ow tb ot pb os A T P) (L : Lim A m) (hm : m ≤ 1000000) (hl : T.recs.length < 3000) :
    Calls Tryz.prog 25 #[.pointer (some ⟨tb, 0, none⟩), .agg (recCells (noteR s) (.slice none 0 0) (.slice none 0 0) (.slice none 0 0))] w (AppBack w0 b ow tb ot pb os T P (appU A T P (noteR s)) w) := by
  cases hv : validB (noteR s) with
  | false =>
    have h0 : appendE T (noteR s) = 2 := by simp [appendE, hv]
    have hu : appU A T P (noteR s) = ⟨2, A, T, P⟩ := by
      unfold appU
      generalize writeE A (120 + (T.recs.length : Int)) (appS T (noteR s)) = z1
      generalize writeA A (120 + (T.recs.length : Int)) (appS T (noteR s)) = z2
      rw [hv]
      rfl
    refine (tappend_bad w0 b ow tb ot A T (noteR s) _ _ _ w S.log (note_at w s) (by rw [h0]; decide) (by omega)).mono ?_
    rintro e w' ⟨ow', ot', he, hL, ht, ho, ho2⟩
    rw [hu]
    have e1 : appendN T (noteR s) = 0 := by unfold appendN; rw [h0]; rfl
    have e2 : appendA A T (noteR s) = A := by unfold appendA; rw [h0]; rfl
    have e3 : appendT T (noteR s) = T := by unfold appendT; rw [h0]; rfl
    rw [e1, h0] at he
    rw [e2, e3] at hL
    exact ⟨ow', ot', he, S.moved hL ht, ht.mono fun _ _ h => .inl h⟩
  | true =>
    have h0 : appendE T (noteR s) = 0 := by
      have : ¬ T.recs.length = 3000 := by omega
      simp [appendE, hv, this]
    by_cases hw : writeE A (120 + (T.recs.length : Int)) (appS T (noteR s)) = 0
    · have hu : appU A T P (noteR s) = ⟨0, writeA A (120 + (T.recs.length : Int)) (appS T (noteR s)), { T with recs := T.recs ++ [noteR s], late := true }, P⟩ := by unfold appU; rw [hv, if_pos rfl, if_pos hw]
      refine (tappend_up w0 b ow tb ot A T m (noteR s) _ _ _ w S.log L hw hm (fun w' _ => note_at w' s) h0 (by omega)).mono ?_
      rintro e w' ⟨ow', ot', he, hL, ht, ho, ho2⟩
      rw [hu]
      have e1 : appendN T (noteR s) = (T.recs.length : Int) + 1 := by unfold appendN; rw [h0]; rfl
      have e2 : appendA A T (noteR s) = writeA A (120 + (T.recs.length : Int)) (appS T (noteR s)) := by unfold appendA appS; rw [if_pos h0]
      have e3 : appendT T (noteR s) = { T with recs := T.recs ++ [noteR s], late := true } := by unfold appendT; rw [h0]; rfl
      rw [e1, h0] at he
      rw [e2, e3] at hL
      have hS := S.moved hL ht
      generalize writeA A (120 + (T.recs.length : Int)) (appS T (noteR s)) = A2 at hS ⊢
      refine ⟨ow', ot', ?_, hS, ht.mono fun _ _ h => .inl h⟩
      rw [appN_zero]
      exact he
    · have hu : appU A T P (noteR s) = ⟨writeE A (120 + (T.recs.length : Int)) (appS T (noteR s)), writeA A (120 + (T.recs.length : Int)) (appS T (noteR s)), T, P⟩ := by unfold appU; rw [hv, if_pos rfl, if_neg hw]
      refine (tappend_fell w0 b ow tb ot A T m (noteR s) _ _ _ w S.log L hw hm (fun w' _ => note_at w' s) h0 (by omega)).mono ?_
      rintro e w' ⟨ow', he, hL, ht, ho⟩
      rw [hu]
      have hS := S.moved hL ht
      have hE : ∀ z, z = writeE A (120 + (T.recs.length : Int)) (bytesOf (encB ((T.recs.length : Int) + 1) (noteR s))) → z ≠ 0 → e = .returned (.tuple #[.int .i64 0, .int .i64 z]) := fun z hz _ => by rw [hz]; exact he
      unfold appS
      unfold appS at hw
      generalize writeA A (120 + (T.recs.length : Int)) (bytesOf (encB ((T.recs.length : Int) + 1) (noteR s))) = A2 at hS ⊢
      generalize writeE A (120 + (T.recs.length : Int)) (bytesOf (encB ((T.recs.length : Int) + 1) (noteR s))) = E2 at hE hw ⊢
      refine ⟨ow', ot, ?_, hS, ht.mono fun _ _ h => .inl h⟩
      rw [appN_not hw]
      exact hE E2 rfl hw
end Go.Proofs.YtdccbceaajnajaaGreat

namespace Go.Proofs.YtdccbceaajnajaaGreat
open Go.RowKit
set_option linter.unusedSimpArgs false
set_option linter.unusedVariables false

set_option maxHeartbeats 1600000 in
set_option maxRecDepth 100000 in
theorem refAppend_any (w0 : World) (b : Nat) (ow : Option Nat) (rp : Nat) (fo : Option Nat) (R : ADisk) (T : ATape) (P : APool) (m : Nat) (s : ByteArray) (w : World) (S : RSys w0 w b ow rp fo R T P) (L : Lim R m) (hm : m ≤ 1000000) (hl : T.recs.length < 3000) :
    Calls Tryz.prog 26 #[.pointer (some ⟨rp, 0, none⟩), .agg (recCells (noteR s) (.slice none 0 0) (.slice none 0 0) (.slice none 0 0))] w (fun e w' => ∃ ow', e = .returned (.tuple #[.int .i64 (appN T (appU R T P (noteR s))), .int .i64 (appU R T P (noteR s)).e]) ∧ RSys w0 w' b ow' rp fo (appU R T P (noteR s)).A (appU R T P (noteR s)).T (appU R T P (noteR s)).P ∧ Turn (refs b ow rp fo) w w') := by
  have HS := hid S
  have HL := hid L
  obtain ⟨c, hc0⟩ : ∃ c : Array Value, c = recCells (noteR s) (.slice none 0 0) (.slice none 0 0) (.slice none 0 0) := ⟨_, rfl⟩
  have na := (New.refl w).alloc c 70
  have ka := heap_alloc_new w (.cells c 70)
  have S1 := hid (S.newer na)
  have NA := hid na
  have KA := hid ka
  have kc := cells_of ka
  obtain ⟨p, pc, hh, -, -⟩ := rsys_full S1.out
  have hc := cells_of hh
  unfold rpCells at hc
  have HC0 := hid hc0
  have lk : w.heap.size < (w.alloc (.cells c 70)).heap.size := (Array.getElem?_eq_some_iff.1 ka).1
  rw [hc0] at hc kc
  clear S L na ka hh
  go_enter Tryz.func26, Tryz.ntmps26
  have q9 : T.recs.length < 3000 := hl
  have hwr : IntKind.i64.wrap ((T.recs.length : Int) + 1) = (T.recs.length : Int) + 1 := by
    unfold IntKind.wrap
    simp [IntKind.bits, IntKind.signed]
    omega
  have hwi : wi 1 ((T.recs.length : Int) + 1) 1000000 = true := by rw [wi_iff]; omega
  have HWI := hid hwi
  clear hwi
  have HCK : Hid (∀ w', New (w.alloc (.cells c 70)) w' → w'.cell? ⟨rp, 0, none⟩ = some (.pointer (some ⟨b, 0, none⟩)) ∧ w'.cell? ⟨rp, 1, none⟩ = some (.int .i64 (T.recs.length : Int))) := hid fun w' hn => by
    rw [HC0.out] at hn
    have lrp : rp < (w.alloc (.cells (recCells (noteR s) (.slice none 0 0) (.slice none 0 0) (.slice none 0 0)) 70)).heap.size := World.block_lt_of_cell? _ _ (hc 0)
    exact ⟨(hn.cell rp 0 lrp).trans (hc 0), (hn.cell rp 1 lrp).trans (hc 1)⟩
  go_wp2_with fail
  cases hv : validB (noteR s) with
  | false =>
    have hu : appU R T P (noteR s) = ⟨2, R, T, P⟩ := by
      unfold appU
      generalize writeE R (120 + (T.recs.length : Int)) (appS T (noteR s)) = z1
      generalize writeA R (120 + (T.recs.length : Int)) (appS T (noteR s)) = z2
      rw [hv]
      rfl
    have HU := hid hu
    have HV := hid hv
    clear hu hv
    go_region_with (go_at_call 64; refine (refEncode_any ((T.recs.length : Int) + 1) (noteR s) _ _ _ _ (note_at _ s)).mono ?_; intro e w2 he; rw [HV.out] at he; obtain ⟨rfl, n2⟩ : e = .returned (.tuple #[.slice none 0 0, .int .i64 2]) ∧ New _ w2 := he)
    all_goals
      have N2 := hid ((by rw [← HC0.out]; exact NA.out.drew : New w (w.alloc (.cells (recCells (noteR s) (.slice none 0 0) (.slice none 0 0) (.slice none 0 0)) 70)).drew).trans n2)
      clear n2
      go_wp2
      go_ret2
      rw [HU.out]
      exact ⟨ow, rfl, HS.out.newer N2.out, Turn.of_new N2.out⟩
  | true =>
    have HV := hid hv
    clear hv
    go_region_with (go_at_call 64; refine (refEncode_any ((T.recs.length : Int) + 1) (noteR s) _ _ _ _ (note_at _ s)).mono ?_; intro e w2 he; rw [HV.out, HWI.out] at he; obtain ⟨v2, he2, hb2, n2⟩ : BytesBack (bytesOf (encB ((T.recs.length : Int) + 1) (noteR s))) _ e w2 := he; subst he2; obtain ⟨p2, c2, rfl, -⟩ := id hb2)
    all_goals
      have N2 := hid ((by rw [← HC0.out]; exact NA.out.drew : New w (w.alloc (.cells (recCells (noteR s) (.slice none 0 0) (.slice none 0 0) (.slice none 0 0)) 70)).drew).trans n2)
      have S2 := hid (HS.out.newer N2.out)
      have B2 := hid hb2
      clear n2 hb2 hc kc
      obtain ⟨p3, c3, hh3, -, -⟩ := rsys_full S2.out
      have hc3 := cells_of hh3
      unfold rpCells at hc3
      have hwr2 : IntKind.i64.wrap (120 + (T.recs.length : Int)) = 120 + (T.recs.length : Int) := by
        unfold IntKind.wrap
        simp [IntKind.bits, IntKind.signed]
        omega
      have ND := hid ((New.refl w2).drew)
      have S2d := hid (S2.out.newer ND.out)
      have B2d := hid (B2.out.renew ND.out)
      clear hh3
      go_wp2_with fail
      go_region_with (go_at_call 65; refine (refWrite_any b ow R (120 + (T.recs.length : Int)) _ (bytesOf (encB ((T.recs.length : Int) + 1) (noteR s))) _ S2d.out.disk B2d.out (bytes_not_ref S2d.out.disk B2d.out) (by have := HL.out.falls; omega) (by have := HL.out.acts; omega) (by have := HL.out.waits; omega)).mono ?_; intro e w3 hmv; obtain ⟨ow3, he3, hS3, ht3, ho3⟩ := S2d.out.moved hmv; subst he3)
      all_goals
        have S3 := hid hS3
        have T3 := hid ((Turn.of_new (S := refs b ow rp fo) (N2.out.trans ND.out)).trans ht3)
        clear hmv hS3 ht3 ho3 hc3
        have HEE : Hid (bytesOf (encB ((T.recs.length : Int) + 1) (noteR s)) = appS T (noteR s)) := hid rfl
        rw [HEE.out] at S3 ⊢
        obtain ⟨p4, c4, hh4, -, -⟩ := rsys_full S3.out
        have hc4 := cells_of hh4
        have hz4 := frozen_of hh4
        unfold rpCells at hc4
        clear hh4
        have HUU : Hid (appU R T P (noteR s) = if writeE R (120 + (T.recs.length : Int)) (appS T (noteR s)) = 0 then ⟨0, writeA R (120 + (T.recs.length : Int)) (appS T (noteR s)), { T with recs := T.recs ++ [noteR s], late := true }, P⟩ else ⟨writeE R (120 + (T.recs.length : Int)) (appS T (noteR s)), writeA R (120 + (T.recs.length : Int)) (appS T (noteR s)), T, P⟩) := hid (by unfold appU; rw [HV.out, if_pos rfl])
        generalize writeA R (120 + (T.recs.length : Int)) (appS T (noteR s)) = R2 at *
        generalize writeE R (120 + (T.recs.length : Int)) (appS T (noteR s)) = E2 at *
        by_cases hE : E2 = 0
        · have HUZ : Hid (appU R T P (noteR s) = ⟨0, R2, { T with recs := T.recs ++ [noteR s], late := true }, P⟩) := hid (by rw [HUU.out, if_pos hE])
          subst hE
          clear HUU
          go_wp2
          go_ret2
          rw [HUZ.out]
          have ht := (turn_set w3 rp 1 (.int .i64 ((T.recs.length : Int) + 1))).trans (turn_set _ rp 4 (.bool true))
          refine ⟨ow3, rfl, S3.out.cells ht (fun v hv => ?_) rfl, T3.out.trans (ht.mono fun k _ h => .inr (.inl h))⟩
          have h1 := heap_setCell_same _ rp 4 _ 67 (.bool true) (heap_setCell_same w3 rp 1 _ 67 (.int .i64 ((T.recs.length : Int) + 1)) hv)
          rw [h1]
          simp [rpCells]
        · have HUZ : Hid (appU R T P (noteR s) = ⟨E2, R2, T, P⟩) := hid (by rw [HUU.out, if_neg hE])
          have q2 : (E2 == 0) = false := by simpa using hE
          have q3 : (E2 != 0) = true := by simpa using hE
          have HE := hid hE
          clear HUU hE
          go_wp2
          go_ret2
          rw [HUZ.out, appN_not HE.out]
          exact ⟨ow3, rfl, S3.out, T3.out⟩
end Go.Proofs.YtdccbceaajnajaaGreat
