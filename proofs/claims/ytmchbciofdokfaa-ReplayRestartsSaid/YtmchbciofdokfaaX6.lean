/- The specification's world: undone returns the record that undoes the last change of a unit. The specification's world: isUndone tells whether an undone record may be next. -/
import Derived.Test.YtmchbciofdokfaaX2
import Derived.Test.YtmchbciofdokfaaW25
import Derived.ArgAppend
import Derived.Deep.CutRange
import Derived.Deep.RegionLaw
import Derived.Deep.RegionHeld3
import Derived.Laws.Rows
namespace Go.Proofs.Ytmchbciofdokfaa
open Go.RowKit
set_option linter.unusedSimpArgs false
set_option linter.unusedVariables false

/-- append([]byte{}, u...): the same bytes, in new memory. -/
theorem run_app_bytes {w : World} {g : Nat} (hg : w.heap[g]? = some (.cells #[] 5 (0, 0))) {u : Value} {s : ByteArray} (hu : Bytes w u s) (hs : s.size ≤ 1000000) (ty : TypeId) :
    ∃ q c w', (Builtin.append_ #[33, 33] ty #[.slice (some ⟨g, 0, none⟩) 0 0, u]).run Try.prog w = .ok (.slice q s.size c) w' ∧ Content w' (.slice q s.size c) s ∧ New w w' := by
  obtain ⟨pu, cu, rfl, u1, u2, u3⟩ := hu
  obtain ⟨i0, hi, hz0, hz1, hz2⟩ := info_parts info5
  rcases Nat.eq_zero_or_pos s.size with hm | hm
  · have he : s = ByteArray.empty := ByteArray.ext (Array.eq_empty_of_size_eq_zero hm)
    rw [hm]
    refine ⟨some ⟨g, 0, none⟩, 0, w, ?_, ?_, New.refl w⟩
    · cases pu with
      | none => simp [Builtin.append_, run_underlying Try.underlying33, sizeOf, typeInfo, zeroValue, hi, hz0, hz1, Builtin.lenOf, Builtin.firstCells, storeCells]
      | some ad =>
        have hl : (loadCells ad 0).run Try.prog w = .ok #[] w := run_loadCells_list (P := Try.prog) w ad [] (by simp)
        simp [Builtin.append_, run_underlying Try.underlying33, sizeOf, typeInfo, zeroValue, hi, hz0, hz1, Builtin.lenOf, Builtin.firstCells, hl, storeCells]
    · rw [he]
      refine own_content (n := 0) (xs := []) (base := 0) ⟨rfl, .inr ⟨g, 0, #[], rfl, Nat.zero_le _, hg, Nat.le_refl _, Nat.zero_le _, rfl, rfl⟩⟩ rfl rfl
  · obtain ⟨ub, uo, rfl, hub, huc⟩ := u3 hm
    have hnews : ∀ j x, (byteVals s)[j]? = some x → w.cell? ((⟨ub, uo, none⟩ : Addr).add j) = some x := fun j x hj => by
      have e : (⟨ub, uo, none⟩ : Addr).add j = ⟨ub, uo + j, none⟩ := by unfold Addr.add; split <;> simp_all
      rw [e, huc j (List.getElem?_eq_some_iff.1 hj).1, List.getD_eq_getElem?_getD, hj]
      rfl
    obtain ⟨v', w', hr, h5, h6⟩ := run_append_arg_grows (P := Try.prog) w 33 ty 5 i0 _ 1 1 Try.underlying33 hi hz0 hz1 hz2 rfl (by decide) ⟨g, 0, none⟩ 0 0 [] rfl (fun j x hj => by simp at hj) ⟨ub, uo, none⟩ s.size cu (byteVals s) (by rw [byteVals_length]; omega) hnews (by omega) (by unfold maxLen; omega) (by omega)
    rw [Nat.zero_add, List.nil_append] at h5
    obtain ⟨q, c, rfl⟩ := own_len h5
    exact ⟨q, c, w', hr, own_content h5 rfl rfl, (New.refl w).grown h6 (Nat.le_refl _) (fun k hk => by cases hk)⟩
/-- The same, as a step of a region that draws. -/
theorem step_app_bytes {ops : Array Oper} {o : Oper} {a : Act} {w : World} {K : Act → World → Prop} {Q : Exit → Act → World → Prop} {E : Prop} (hgd : o.guard = none) (sl x : Operand)
    (ho : o.op = .call { callee := .builtin .append, args := #[sl, x], argTypes := #[33, 33] }) (g : Nat) (u : Value) (s : ByteArray) (hs : a.eval sl = .slice (some ⟨g, 0, none⟩) 0 0) (hx : a.eval x = u)
    (hg : w.heap[g]? = some (.cells #[] 5 (0, 0))) (hu : Bytes w u s) (hb : s.size ≤ 1000000)
    (h : ∀ q c w', Content w' (.slice q s.size c) s → New w w' → K (a.put o.dst (.slice q s.size c)) w') :
    if Region.wanted o (yielded ops a.tmps) = true then Oper.wp Try.prog o a w K Q else E := by
  have hw : Region.wanted o (yielded ops a.tmps) = true := by simp [Region.wanted, hgd]
  rw [if_pos hw]
  obtain ⟨q, c, w', hr, h2, h3⟩ := run_app_bytes hg hu hb o.type
  unfold Oper.wp execOp
  simp only [ho, resolve, invoke, builtin, Sem.run_bind, Sem.run_pure, Result.andThen_ok, List.map_toArray, List.map_cons, List.map_nil, hs, hx, hr]
  exact h q c w' h2 h3

theorem ten_new {w w' : World} (h : New w w') {k : Nat} (hk : w.heap.size ≤ k) (v0 v1 v2 v3 v4 v5 v6 v7 v8 v9 : Value) :
    New w ((((((((((w'.setCell ⟨k, 0, none⟩ v0).setCell ⟨k, 1, none⟩ v1).setCell ⟨k, 2, none⟩ v2).setCell ⟨k, 3, none⟩ v3).setCell ⟨k, 4, none⟩ v4).setCell ⟨k, 5, none⟩ v5).setCell ⟨k, 6, none⟩ v6).setCell ⟨k, 7, none⟩ v7).setCell ⟨k, 8, none⟩ v8).setCell ⟨k, 9, none⟩ v9) := by
  have one : ∀ {a : World} (j : Nat) (v : Value), New w a → New w (a.setCell ⟨k, j, none⟩ v) := fun j v ha => ha.setCell hk v
  exact one _ _ (one _ _ (one _ _ (one _ _ (one _ _ (one _ _ (one _ _ (one _ _ (one _ _ (one _ _ h)))))))))
/-- The record that undoes the last change of a unit. -/
def undoW (W : PW) (n : Int) : Rec := ⟨2, n, (recN W.recs (lastN (W.unit n).left)).page, (recN W.recs (lastN (W.unit n).left)).at_, ByteArray.empty, (recN W.recs (lastN (W.unit n).left)).before, (lastN (W.unit n).left : Int), (lastN (W.unit n).left.dropLast : Int), ByteArray.empty, []⟩
def UndoneIs (W : PW) (n : Int) (w : World) (e : Ending) (w' : World) : Prop :=
  ∃ q c, e = .returned (.agg (recCells (undoW W n) (.slice none 0 0) (.slice q (undoW W n).after.size c) (.slice none 0 0))) ∧ Content w' (.slice q (undoW W n).after.size c) (undoW W n).after ∧ New w w'
set_option maxRecDepth 100000 in
set_option maxHeartbeats 8000000 in
theorem rundone_any (w0 : Base) (wb : Nat) (S : RSh) (W : PW) (n : Int) (b : Nat) (v : Value) (w : World) (h : RefAt w0 w wb S W) (hx : (n, b, v) ∈ S.lu) (hne : (W.unit n).left ≠ []) (hl : ∀ k ∈ (W.unit n).left, 1 ≤ k ∧ k ≤ W.recs.length) (hll : (W.unit n).left.length ≤ 1000) (hrl : W.recs.length ≤ 1000000) (hbs : (recN W.recs (lastN (W.unit n).left)).before.size ≤ 1000000) (hkd : (recN W.recs (lastN (W.unit n).left)).kind = 1) :
    Calls Try.prog 68 #[.pointer (some ⟨wb, 0, none⟩), .pointer (some ⟨b, 0, none⟩)] w (UndoneIs W n w) := by
  have H := hid h
  obtain ⟨hb1, hb2⟩ := h.units.unit _ hx
  obtain ⟨lp, lc, hlv⟩ := own_len hb2
  have HB2 : Hid (RowAt w (.slice lp (W.unit n).left.length lc) (W.unit n).left.length (natVals (W.unit n).left)) := hid (by rw [← hlv]; exact RowAt.owned hb2)
  have uc0 : w.cell? ⟨b, 0, none⟩ = some (.int .i64 n) := cells_of hb1 0
  have uc2 : w.cell? ⟨b, 2, none⟩ = some (.slice lp (W.unit n).left.length lc) := by rw [← hlv]; exact cells_of hb1 2
  have hblt : b < w.heap.size := (Array.getElem?_eq_some_iff.1 hb1).1
  have hwlt := h.lt
  have HU : Hid (undoW W n = undoW W n) := hid rfl
  obtain ⟨U, hU⟩ : ∃ U, W.unit n = U := ⟨_, rfl⟩
  have HUD : Hid (undoW W n = ⟨2, n, (recN W.recs (lastN U.left)).page, (recN W.recs (lastN U.left)).at_, ByteArray.empty, (recN W.recs (lastN U.left)).before, (lastN U.left : Int), (lastN U.left.dropLast : Int), ByteArray.empty, []⟩) := hid (by unfold undoW; rw [hU])
  rw [hU] at hne hl hll HB2 uc2 hbs hkd
  clear HU hU hb1 hb2 hlv
  have hpos := List.length_pos_iff.2 hne
  obtain ⟨hk1, hk2⟩ := hl (lastN U.left) (lastN_mem hne)
  obtain ⟨z, hz⟩ : ∃ z, U.left.length = z := ⟨_, rfl⟩
  obtain ⟨zl, hzl⟩ : ∃ zl, z = zl + 1 := ⟨z - 1, by omega⟩
  obtain ⟨p1, c1, e1, hc1, hc2, hcell⟩ := HB2.out
  injection e1 with e11 _ e13
  subst e11 e13
  obtain ⟨gL, oL, e14, hgL, hcL⟩ := hcell hpos
  subst e14
  have y1 := hcL zl (by unfold natVals; rw [List.length_map, hz]; omega)
  have hcv := natVals_last (l := U.left) (zl := zl) (by rw [hz, hzl])
  rw [hcv] at y1
  have HDL : Hid (∀ yl, zl = yl + 1 → w.cell? ⟨gL, oL + yl, none⟩ = some (.int .i64 (lastN U.left.dropLast : Int))) := hid (fun yl hyl => by
    have h1 := hcL yl (by unfold natVals; rw [List.length_map, hz]; omega)
    have h2 := natVals_last (l := U.left.dropLast) (zl := yl) (by rw [List.length_dropLast, hz, hzl]; omega)
    rw [h1, ← h2]
    unfold natVals
    rw [List.getD_eq_getElem?_getD, List.getD_eq_getElem?_getD, List.getElem?_map, List.getElem?_map, List.getElem?_dropLast, if_pos (by omega)])
  have HD0 : Hid (zl = 0 → lastN U.left.dropLast = 0) := hid (fun h0 => by
    have : U.left.dropLast = [] := List.eq_nil_of_length_eq_zero (by rw [List.length_dropLast, hz, hzl]; omega)
    rw [this]
    rfl)
  obtain ⟨la, hla⟩ : ∃ la, lastN U.left = la := ⟨_, rfl⟩
  obtain ⟨ly, hly⟩ : ∃ ly, lastN U.left.dropLast = ly := ⟨_, rfl⟩
  rw [hla] at y1 hk1 hk2 HUD hbs hkd
  rw [hly] at HDL HD0 HUD
  rw [hz] at uc2 hll hpos
  obtain ⟨i, rfl⟩ : ∃ i, la = i + 1 := ⟨la - 1, by omega⟩
  obtain ⟨g, gc, bv', av', uv', hrv, hra, hrc⟩ := ref_rec_at h hk1 hk2 hkd
  obtain ⟨⟨bp', bc', rfl, hq1, hq2, hq3⟩, ⟨ap', ac', rfl, _, _, -⟩, ⟨up', uc', rfl, -, -, -⟩⟩ := id hra
  rw [Nat.add_sub_cancel] at hrc
  obtain ⟨r0, r1, r2, r3, r4, r5, r6, r7, r8, r9⟩ := rec_ten hrc
  have w0c : w.cell? ⟨wb, 0, none⟩ = some (.slice (some ⟨g, 0, none⟩) W.recs.length gc) := by rw [← hrv]; exact h.cell0
  have HRA := hid hra
  have hgR := World.block_lt_of_cell? w _ r0
  have hi1 : i < W.recs.length := by omega
  have hzw : IntKind.i64.wrap ((z : Int) - 1) = (zl : Int) := by rw [hzl, Int.natCast_succ, Int.add_sub_cancel]; exact IntWalk.i64_in _ (by omega)
  have hzi : zl < z := by omega
  have hiw : IntKind.i64.wrap (((i + 1 : Nat) : Int) - 1) = (i : Int) := by rw [Int.natCast_succ, Int.add_sub_cancel]; exact IntWalk.i64_in _ (by omega)
  rw [show (((i + 1 : Nat) : Int)) = (i : Int) + 1 from rfl] at y1 hiw
  have HZ := hid hz
  have HZL := hid hzl
  have HBS := hid hbs
  clear h hx hrc hrv hra hcell hcL hcv hz hzl hl hne hla hly hq3 hbs hkd
  generalize recN W.recs (i + 1) = c at *
  go_enter Try.func68, Try.ntmps68
  go_wp2_with fail
  go_region
  have s1 : (w.alloc (.cells #[.int .i64 0, .int .i64 0, .int .i64 0, .int .i64 0, .slice none 0 0, .slice none 0 0, .int .i64 0, .int .i64 0, .string ⟨#[]⟩, .slice none 0 0] 36)).heap.size = w.heap.size + 1 := by simp
  have N1 : Hid (New w ((w.alloc (.cells #[.int .i64 0, .int .i64 0, .int .i64 0, .int .i64 0, .slice none 0 0, .slice none 0 0, .int .i64 0, .int .i64 0, .string ⟨#[]⟩, .slice none 0 0] 36)).alloc (.cells (recCells c (.slice bp' c.before.size bc') (.slice ap' c.after.size ac') (.slice up' c.units.length uc')) 36)).drew) := hid (((New.refl w).alloc _ _).alloc _ _).drew
  have B0 := alloc_block w (.cells #[.int .i64 0, .int .i64 0, .int .i64 0, .int .i64 0, .slice none 0 0, .slice none 0 0, .int .i64 0, .int .i64 0, .string ⟨#[]⟩, .slice none 0 0] 36)
  have B1 := alloc_block (w.alloc (.cells #[.int .i64 0, .int .i64 0, .int .i64 0, .int .i64 0, .slice none 0 0, .slice none 0 0, .int .i64 0, .int .i64 0, .string ⟨#[]⟩, .slice none 0 0] 36)) (.cells (recCells c (.slice bp' c.before.size bc') (.slice ap' c.after.size ac') (.slice up' c.units.length uc')) 36)
  rw [s1] at B1
  have B1' : Hid (((w.alloc (.cells #[.int .i64 0, .int .i64 0, .int .i64 0, .int .i64 0, .slice none 0 0, .slice none 0 0, .int .i64 0, .int .i64 0, .string ⟨#[]⟩, .slice none 0 0] 36)).alloc (.cells (recCells c (.slice bp' c.before.size bc') (.slice ap' c.after.size ac') (.slice up' c.units.length uc')) 36)).drew.heap[w.heap.size + 1]? = some (.cells (recCells c (.slice bp' c.before.size bc') (.slice ap' c.after.size ac') (.slice up' c.units.length uc')) 36 (0, 0))) := hid B1
  have B0' : Hid (((w.alloc (.cells #[.int .i64 0, .int .i64 0, .int .i64 0, .int .i64 0, .slice none 0 0, .slice none 0 0, .int .i64 0, .int .i64 0, .string ⟨#[]⟩, .slice none 0 0] 36)).alloc (.cells (recCells c (.slice bp' c.before.size bc') (.slice ap' c.after.size ac') (.slice up' c.units.length uc')) 36)).drew.heap[w.heap.size]? = some (.cells #[.int .i64 0, .int .i64 0, .int .i64 0, .int .i64 0, .slice none 0 0, .slice none 0 0, .int .i64 0, .int .i64 0, .string ⟨#[]⟩, .slice none 0 0] 36 (0, 0))) := hid ((Below.block (((New.refl (w.alloc (.cells #[.int .i64 0, .int .i64 0, .int .i64 0, .int .i64 0, .slice none 0 0, .slice none 0 0, .int .i64 0, .int .i64 0, .string ⟨#[]⟩, .slice none 0 0] 36)))).alloc _ _) w.heap.size (by rw [s1]; omega)).trans B0)
  have v0 := ((bcell N1.out).1 b 0 hblt).trans uc0
  have v2 := ((bcell N1.out).1 b 2 hblt).trans uc2
  have v3 := ((bcell N1.out).1 gL (oL + zl) hgL).trans y1
  have HDL2 : Hid (∀ yl, zl = yl + 1 → ((w.alloc (.cells #[.int .i64 0, .int .i64 0, .int .i64 0, .int .i64 0, .slice none 0 0, .slice none 0 0, .int .i64 0, .int .i64 0, .string ⟨#[]⟩, .slice none 0 0] 36)).alloc (.cells (recCells c (.slice bp' c.before.size bc') (.slice ap' c.after.size ac') (.slice up' c.units.length uc')) 36)).drew.cell? ⟨gL, oL + yl, none⟩ = some (.int .i64 (ly : Int))) := hid (fun yl hyl => ((bcell N1.out).1 gL (oL + yl) hgL).trans (HDL.out yl hyl))
  have hblt1 := Nat.lt_of_lt_of_le hblt N1.out.size
  have hgL1 := Nat.lt_of_lt_of_le hgL N1.out.size
  have HRA1 := hid (HRA.out.new (H.out.new.trans N1.out))
  have HWS : Hid (w.heap.size ≤ w.heap.size) := hid (Nat.le_refl _)
  clear s1 B0 B1 uc0 uc2 y1 w0c r0 r1 r2 r3 r4 r5 r6 r7 r8 r9 hblt hgL hgR hwlt HRA HDL hiw hi1
  generalize hw1 : ((w.alloc (.cells #[.int .i64 0, .int .i64 0, .int .i64 0, .int .i64 0, .slice none 0 0, .slice none 0 0, .int .i64 0, .int .i64 0, .string ⟨#[]⟩, .slice none 0 0] 36)).alloc (.cells (recCells c (.slice bp' c.before.size bc') (.slice ap' c.after.size ac') (.slice up' c.units.length uc')) 36)).drew = w1 at *
  clear hw1
  obtain ⟨rq, hrq⟩ : ∃ rq, w.heap.size = rq := ⟨_, rfl⟩
  rw [hrq] at B0' B1' ⊢
  obtain ⟨m0, m1, m2, m3, m4, m5, m6, m7, m8, m9⟩ := rec_box B1'.out
  have hqlt := (Array.getElem?_eq_some_iff.1 B1'.out).1
  have hrlt := (Array.getElem?_eq_some_iff.1 B0'.out).1
  have HQ0 : Hid (w.heap.size ≤ rq) := hid (Nat.le_of_eq hrq)
  have NB : Hid (New w1 (w1.alloc (.cells #[] 5)).drew) := hid ((New.refl w1).alloc _ _).drew
  clear hrq
  have NA : Hid (New w1 (w1.alloc (.cells #[] 5)).drew) := hid ((New.refl w1).alloc _ _).drew
  have NB2 : Hid (New w1 ((w1.alloc (.cells #[.int .i64 0, .int .i64 0, .int .i64 0, .int .i64 0, .slice none 0 0, .slice none 0 0, .int .i64 0, .int .i64 0, .string ⟨#[]⟩, .slice none 0 0] 36)).alloc (.cells #[] 5)).drew) := hid (((New.refl w1).alloc _ _).alloc _ _).drew
  have NC2 : Hid (New w1 ((w1.alloc (.cells #[] 5)).alloc (.cells #[.int .i64 0, .int .i64 0, .int .i64 0, .int .i64 0, .slice none 0 0, .slice none 0 0, .int .i64 0, .int .i64 0, .string ⟨#[]⟩, .slice none 0 0] 36)).drew) := hid (((New.refl w1).alloc _ _).alloc _ _).drew
  have GA : Hid ((w1.alloc (.cells #[] 5)).drew.heap[w1.heap.size]? = some (.cells #[] 5 (0, 0))) := hid (alloc_block w1 _)
  have GB : Hid (((w1.alloc (.cells #[.int .i64 0, .int .i64 0, .int .i64 0, .int .i64 0, .slice none 0 0, .slice none 0 0, .int .i64 0, .int .i64 0, .string ⟨#[]⟩, .slice none 0 0] 36)).alloc (.cells #[] 5)).drew.heap[w1.heap.size + 1]? = some (.cells #[] 5 (0, 0))) := hid (by
    have h := alloc_block (w1.alloc (.cells #[.int .i64 0, .int .i64 0, .int .i64 0, .int .i64 0, .slice none 0 0, .slice none 0 0, .int .i64 0, .int .i64 0, .string ⟨#[]⟩, .slice none 0 0] 36)) (.cells #[] 5)
    rw [show (w1.alloc (.cells #[.int .i64 0, .int .i64 0, .int .i64 0, .int .i64 0, .slice none 0 0, .slice none 0 0, .int .i64 0, .int .i64 0, .string ⟨#[]⟩, .slice none 0 0] 36)).heap.size = w1.heap.size + 1 by simp] at h
    exact h)
  have GB0 : Hid (((w1.alloc (.cells #[.int .i64 0, .int .i64 0, .int .i64 0, .int .i64 0, .slice none 0 0, .slice none 0 0, .int .i64 0, .int .i64 0, .string ⟨#[]⟩, .slice none 0 0] 36)).alloc (.cells #[] 5)).drew.heap[w1.heap.size]? = some (.cells #[.int .i64 0, .int .i64 0, .int .i64 0, .int .i64 0, .slice none 0 0, .slice none 0 0, .int .i64 0, .int .i64 0, .string ⟨#[]⟩, .slice none 0 0] 36 (0, 0))) := hid ((Below.block ((New.refl (w1.alloc (.cells #[.int .i64 0, .int .i64 0, .int .i64 0, .int .i64 0, .slice none 0 0, .slice none 0 0, .int .i64 0, .int .i64 0, .string ⟨#[]⟩, .slice none 0 0] 36))).alloc _ _) w1.heap.size (by simp)).trans (alloc_block w1 (.cells #[.int .i64 0, .int .i64 0, .int .i64 0, .int .i64 0, .slice none 0 0, .slice none 0 0, .int .i64 0, .int .i64 0, .string ⟨#[]⟩, .slice none 0 0] 36)))
  have GC : Hid (((w1.alloc (.cells #[] 5)).alloc (.cells #[.int .i64 0, .int .i64 0, .int .i64 0, .int .i64 0, .slice none 0 0, .slice none 0 0, .int .i64 0, .int .i64 0, .string ⟨#[]⟩, .slice none 0 0] 36)).drew.heap[w1.heap.size]? = some (.cells #[] 5 (0, 0))) := hid ((Below.block ((New.refl (w1.alloc (.cells #[] 5))).alloc _ _) w1.heap.size (by simp)).trans (alloc_block w1 (.cells #[] 5)))
  have GC0 : Hid (((w1.alloc (.cells #[] 5)).alloc (.cells #[.int .i64 0, .int .i64 0, .int .i64 0, .int .i64 0, .slice none 0 0, .slice none 0 0, .int .i64 0, .int .i64 0, .string ⟨#[]⟩, .slice none 0 0] 36)).drew.heap[w1.heap.size + 1]? = some (.cells #[.int .i64 0, .int .i64 0, .int .i64 0, .int .i64 0, .slice none 0 0, .slice none 0 0, .int .i64 0, .int .i64 0, .string ⟨#[]⟩, .slice none 0 0] 36 (0, 0))) := hid (by
    have h := alloc_block (w1.alloc (.cells #[] 5)) (.cells #[.int .i64 0, .int .i64 0, .int .i64 0, .int .i64 0, .slice none 0 0, .slice none 0 0, .int .i64 0, .int .i64 0, .string ⟨#[]⟩, .slice none 0 0] 36)
    rw [show (w1.alloc (.cells #[] 5)).heap.size = w1.heap.size + 1 by simp] at h
    exact h)
  clear NB
  go_upto_region 3 with (fail)
  go_cut [7] from 28 to 48 (fun s7 wx => ∃ rb q10 c10, s7 = .pointer (some ⟨rb, 0, none⟩) ∧ Hid (wx.heap[rb]? = some (.cells (recCells ⟨2, n, c.page, c.at_, ByteArray.empty, c.before, (i : Int) + 1, 0, ⟨#[]⟩, []⟩ (.slice none 0 0) (.slice q10 c.before.size c10) (.slice none 0 0)) 36 (0, 0))) ∧ Hid (Content wx (.slice q10 c.before.size c10) c.before) ∧ Hid (New w1 wx) ∧ Hid (w1.heap.size ≤ rb))
  case first =>
    have nb0 : b ≠ w1.heap.size := by omega
    have nb1 : b ≠ w1.heap.size + 1 := by omega
    have ng0 : gL ≠ w1.heap.size := by omega
    have ng1 : gL ≠ w1.heap.size + 1 := by omega
    have nq0 : rq + 1 ≠ w1.heap.size := by omega
    have nq1 : rq ≠ w1.heap.size := by omega
    have nq2 : rq + 1 ≠ w1.heap.size + 1 := by omega
    have ND : Hid (New w1 w1.drew) := hid (New.refl w1).drew
    have NZ : Hid (New w1 (w1.alloc (.cells #[.int .i64 0, .int .i64 0, .int .i64 0, .int .i64 0, .slice none 0 0, .slice none 0 0, .int .i64 0, .int .i64 0, .string ⟨#[]⟩, .slice none 0 0] 36)).drew) := hid ((New.refl w1).alloc _ _).drew
    have SHL : Hid (∀ w' : World, New w1 w' → w'.cell? ⟨b, 0, none⟩ = some (.int .i64 n) ∧ w'.cell? ⟨b, 2, none⟩ = some (.slice (some ⟨gL, oL, none⟩) z lc) ∧ w'.cell? ⟨gL, oL + zl, none⟩ = some (.int .i64 ((i : Int) + 1)) ∧ w'.cell? ⟨rq + 1, 2, none⟩ = some (.int .i64 c.page) ∧ w'.cell? ⟨rq + 1, 3, none⟩ = some (.int .i64 c.at_) ∧ w'.cell? ⟨rq + 1, 4, none⟩ = some (.slice bp' c.before.size bc')) := hid (fun w' hn => ⟨((bcell hn).1 b 0 hblt1).trans v0, ((bcell hn).1 b 2 hblt1).trans v2, ((bcell hn).1 gL (oL + zl) hgL1).trans v3, ((bcell hn).1 (rq + 1) 2 hqlt).trans m2, ((bcell hn).1 (rq + 1) 3 hqlt).trans m3, ((bcell hn).1 (rq + 1) 4 hqlt).trans m4⟩)
    go_region_held3 (fun w' : World => w'.cell? ⟨b, 0, none⟩ = some (.int .i64 n) ∧ w'.cell? ⟨b, 2, none⟩ = some (.slice (some ⟨gL, oL, none⟩) z lc) ∧ w'.cell? ⟨gL, oL + zl, none⟩ = some (.int .i64 ((i : Int) + 1)) ∧ w'.cell? ⟨rq + 1, 2, none⟩ = some (.int .i64 c.page) ∧ w'.cell? ⟨rq + 1, 3, none⟩ = some (.int .i64 c.at_) ∧ w'.cell? ⟨rq + 1, 4, none⟩ = some (.slice bp' c.before.size bc')) (first | with_reducible exact SHL.out _ ND.out | with_reducible exact SHL.out _ NA.out | with_reducible exact SHL.out _ NZ.out | with_reducible exact SHL.out _ NB2.out | with_reducible exact SHL.out _ NC2.out | with_reducible exact SHL.out _ HN10.out | with_reducible exact SHL.out _ (HN10.out.alloc _ _) | with_reducible exact SHL.out _ (ten_new HN10.out (Nat.le_refl _) _ _ _ _ _ _ _ _ _ _) | with_reducible exact SHL.out _ (ten_new HN10.out (Nat.le_succ _) _ _ _ _ _ _ _ _ _ _) | go_keep)
    (first
      | (refine step_app_bytes rfl _ _ rfl w1.heap.size _ c.before rfl rfl GA.out (HRA1.out.before.new NA.out) HBS.out ?_; intro q10 c10 w10 hc10 hn10; have HC10 := hid hc10; have HN10 : Hid (New w1 w10) := hid (NA.out.trans hn10); clear hc10 hn10)
      | (refine step_app_bytes rfl _ _ rfl (w1.heap.size + 1) _ c.before rfl rfl GB.out (HRA1.out.before.new NB2.out) HBS.out ?_; intro q10 c10 w10 hc10 hn10; have HC10 := hid hc10; have HN10 : Hid (New w1 w10) := hid (NB2.out.trans hn10); have HM10 := hid ((Below.block hn10 w1.heap.size (Array.getElem?_eq_some_iff.1 GB0.out).1).trans GB0.out); have hm1 := cells_of HM10.out; have hm2 := frozen_of HM10.out; clear hc10 hn10)
      | (refine step_app_bytes rfl _ _ rfl w1.heap.size _ c.before rfl rfl GC.out (HRA1.out.before.new NC2.out) HBS.out ?_; intro q10 c10 w10 hc10 hn10; have HC10 := hid hc10; have HN10 : Hid (New w1 w10) := hid (NC2.out.trans hn10); have HM10 := hid ((Below.block hn10 (w1.heap.size + 1) (Array.getElem?_eq_some_iff.1 GC0.out).1).trans GC0.out); have hm1 := cells_of HM10.out; have hm2 := frozen_of HM10.out; clear hc10 hn10))
    · go_wp2_with fail
      go_meet
      case rel => exact ⟨w10.heap.size, q10, c10, rfl, hid (alloc_block w10 _), hid (HC10.out.new ((New.refl w10).alloc _ _)), hid (HN10.out.alloc _ _), hid HN10.out.size⟩
    · go_wp2_with fail
      go_meet
      case rel =>
        obtain ⟨hten, tten⟩ := ten_sets HM10.out rfl (.int .i64 2) (.int .i64 n) (.int .i64 c.page) (.int .i64 c.at_) (.slice none 0 0) (.slice q10 c.before.size c10) (.int .i64 ((i : Int) + 1)) (.int .i64 0) (.string ⟨#[]⟩) (.slice none 0 0)
        exact ⟨w1.heap.size + 1, q10, c10, rfl, hid hten, hid (HC10.out.turn tten (fun j c fr hj e => by
          rw [hj] at e
          exact absurd (kind_cells e HM10.out).2 (by decide))), hid (ten_new HN10.out (Nat.le_succ _) _ _ _ _ _ _ _ _ _ _), hid (Nat.le_succ _)⟩
    · go_wp2_with fail
      go_meet
      case rel =>
        obtain ⟨hten, tten⟩ := ten_sets HM10.out rfl (.int .i64 2) (.int .i64 n) (.int .i64 c.page) (.int .i64 c.at_) (.slice none 0 0) (.slice q10 c.before.size c10) (.int .i64 ((i : Int) + 1)) (.int .i64 0) (.string ⟨#[]⟩) (.slice none 0 0)
        exact ⟨w1.heap.size, q10, c10, rfl, hid hten, hid (HC10.out.turn tten (fun j c fr hj e => by
          rw [hj] at e
          exact absurd (kind_cells e HM10.out).2 (by decide))), hid (ten_new HN10.out (Nat.le_refl _) _ _ _ _ _ _ _ _ _ _), hid (Nat.le_refl _)⟩
  case rest =>
    obtain ⟨rb, q10, c10, rfl, HRB, HC10, HN10, HRB0⟩ := hcut
    have x2 := ((bcell HN10.out).1 b 2 hblt1).trans v2
    have HDL3 : Hid (∀ yl, zl = yl + 1 → wc.cell? ⟨gL, oL + yl, none⟩ = some (.int .i64 (ly : Int))) := hid (fun yl hyl => ((bcell HN10.out).1 gL (oL + yl) hgL1).trans (HDL2.out yl hyl))
    have B3 := hid ((Below.block HN10.out rq hrlt).trans B0'.out)
    have hrb7 : wc.cell? ⟨rb, 7, none⟩ = some (.int .i64 0) := cells_of HRB.out 7
    have hrbf : wc.frozen? ⟨rb, 7, none⟩ = false := frozen_of HRB.out 7
    have hrbl := (Array.getElem?_eq_some_iff.1 HRB.out).1
    have hbl2 := Nat.lt_of_lt_of_le hblt1 HN10.out.size
    have HRQ : Hid (rq ≠ rb) := hid (by have := HRB0.out; omega)
    clear v0 v2 v3 m0 m1 m2 m3 m4 m5 m6 m7 m8 m9 NA NB2 NC2 GA GB GB0 GC GC0
    go_upto_if 50 with (fail)
    go_cut [] from 28 to 60 (fun wx => Hid (wx.heap[rb]? = some (.cells (recCells ⟨2, n, c.page, c.at_, ByteArray.empty, c.before, (i : Int) + 1, (ly : Int), ⟨#[]⟩, []⟩ (.slice none 0 0) (.slice q10 c.before.size c10) (.slice none 0 0)) 36 (0, 0))) ∧ Hid (Content wx (.slice q10 c.before.size c10) c.before) ∧ Hid (New w1 wx))
    case first =>
      rcases Nat.eq_zero_or_pos zl with h0 | h0
      · have e0 := HD0.out h0
        subst e0
        have hz1 : z = 1 := by have := HZL.out; omega
        subst hz1
        clear h0 hzw hzi
        go_wp2
        go_meet
        case rel => exact ⟨HRB, HC10, HN10⟩
      · obtain ⟨yl, hyl⟩ : ∃ yl, zl = yl + 1 := ⟨zl - 1, by omega⟩
        have y2 := HDL3.out yl hyl
        have tz : decide (1 < z) = true := by have := HZL.out; simp; omega
        have hyz : yl < z := by have := HZL.out; omega
        have hzw2 : IntKind.i64.wrap ((z : Int) - 2) = (yl : Int) := by rw [HZL.out, hyl, Int.natCast_succ, Int.natCast_succ, show (yl : Int) + 1 + 1 - 2 = (yl : Int) by omega]; exact IntWalk.i64_in _ (by have := HZL.out; omega)
        have t5 : Turn (· = rb) wc (wc.setCell ⟨rb, 7, none⟩ (.int .i64 (ly : Int))) := turn_cell wc rb 7 _
        have b5 : (wc.setCell ⟨rb, 7, none⟩ (.int .i64 (ly : Int))).heap[rb]? = some (.cells (recCells ⟨2, n, c.page, c.at_, ByteArray.empty, c.before, (i : Int) + 1, (ly : Int), ⟨#[]⟩, []⟩ (.slice none 0 0) (.slice q10 c.before.size c10) (.slice none 0 0)) 36 (0, 0)) := by
          have e1 := heap_setCell_same wc rb 7 _ 36 (.int .i64 (ly : Int)) HRB.out
          rw [e1]
          rfl
        have B5 := hid b5
        have K5 := hid (HC10.out.turn t5 (fun j c fr hj e => by
          rw [hj] at e
          exact absurd (kind_cells e HRB.out).2 (by decide)))
        have N5 := hid (New.turn HN10.out t5 (fun k hk e => by have := HRB0.out; omega))
        clear t5 b5
        go_wp2
        go_meet
        case rel => exact ⟨B5, K5, N5⟩
    case rest =>
      obtain ⟨HRB2, HC2, HN2⟩ := hcut
      obtain ⟨y0, y1, y2, y3, y4, y5, y6, y7, y8, y9⟩ := rec_box HRB2.out
      have B4 := hid ((Below.block HN2.out rq hrlt).trans B0'.out)
      have hzc := cells_of B4.out
      have hzf := frozen_of B4.out
      have hrql := (Array.getElem?_eq_some_iff.1 B4.out).1
      have hrl2 := (Array.getElem?_eq_some_iff.1 HRB2.out).1
      obtain ⟨hten, tten⟩ := ten_sets B4.out rfl (.int .i64 2) (.int .i64 n) (.int .i64 c.page) (.int .i64 c.at_) (.slice none 0 0) (.slice q10 c.before.size c10) (.int .i64 ((i : Int) + 1)) (.int .i64 (ly : Int)) (.string ⟨#[]⟩) (.slice none 0 0)
      have HTEN := hid hten
      have HTT := hid tten
      have hrne := HRQ.out
      clear hten tten x2 hrb7 hrbf hrbl hbl2 HDL3
      go_wp2
      refine bodyPost_ret (results_cell_row rfl _ _ rq 36 _ (0, 0) _ rfl HTEN.out Try.underlying36 rfl (by kernel_rfl)) rfl ?_
      refine ⟨q10, c10, ?_, ?_, ?_⟩
      · rw [HUD.out]; rfl
      · rw [HUD.out]
        exact HC2.out.turn HTT.out (fun j c fr hj e => by
          rw [hj] at e
          exact absurd (kind_cells e B4.out).2 (by decide))
      · exact ten_new (N1.out.trans HN2.out) HQ0.out _ _ _ _ _ _ _ _ _ _
end Go.Proofs.Ytmchbciofdokfaa

namespace Go.Proofs.Ytmchbciofdokfaa
open Go.RowKit
set_option linter.unusedSimpArgs false
set_option linter.unusedVariables false

def IsUndoneIs (W : PW) (r : Rec) (w : World) (e : Ending) (w' : World) : Prop := ∃ B : Bool, e = .returned (.bool B) ∧ (B = true ↔ Undoes W r) ∧ New w w'
theorem isUndone_nil (p : Value) (W : PW) (r : Rec) (bv av uv : Value) (w : World) (hr : RecAt w r bv av uv) (hl : (W.unit r.unit).left = []) :
    Calls Try.prog 93 #[p, .pointer none, .agg (recCells r bv av uv)] w (IsUndoneIs W r w) := by
  obtain ⟨⟨bp, bc, rfl, -, -, -⟩, ⟨ap, ac, rfl, -, -, -⟩, ⟨up, uc, rfl, -, -, -⟩⟩ := hr
  have HL := hid hl
  clear hl
  go_enter Try.func93, Try.ntmps93
  go_wp2
  go_ret
  exact ⟨false, rfl, ⟨fun h => (by cases h), fun h => absurd HL.out h.1⟩, (New.refl w).alloc _ _⟩
set_option maxRecDepth 100000 in
set_option maxHeartbeats 8000000 in
theorem isUndone_any (w0 : Base) (wb : Nat) (S : RSh) (W : PW) (r : Rec) (bv av uv : Value) (b : Nat) (v : Value) (w : World) (h : RefAt w0 w wb S W) (hx : (r.unit, b, v) ∈ S.lu) (hr : RecAt w0 r bv av uv) (hs : Sane W)
    (hbs : ∀ k ∈ (W.unit r.unit).left, (recN W.recs k).kind = 1 ∧ (recN W.recs k).before.size ≤ 1000) :
    Calls Try.prog 93 #[.pointer (some ⟨wb, 0, none⟩), .pointer (some ⟨b, 0, none⟩), .agg (recCells r bv av uv)] w (IsUndoneIs W r w) := by
  obtain ⟨⟨bp, bc, rfl, b7, b8, b9⟩, ⟨ap, ac, rfl, a7, a8, a9⟩, ⟨up, uc, rfl, u7, u8, u9⟩⟩ := id hr
  have na : New w (w.alloc (.cells (recCells r (.slice bp r.before.size bc) (.slice ap r.after.size ac) (.slice up r.units.length uc)) 36)) := (New.refl w).alloc _ _
  have HQ := hid (alloc_block w (.cells (recCells r (.slice bp r.before.size bc) (.slice ap r.after.size ac) (.slice up r.units.length uc)) 36))
  have H1 := hid (h.newer na)
  have HR := hid hr
  have HX := hid hx
  have HS := hid hs
  obtain ⟨hb1, hb2⟩ := H1.out.units.unit _ hx
  obtain ⟨lp, lc, hlv⟩ := own_len hb2
  have uc2 : (w.alloc (.cells (recCells r (.slice bp r.before.size bc) (.slice ap r.after.size ac) (.slice up r.units.length uc)) 36)).cell? ⟨b, 2, none⟩ = some (.slice lp (W.unit r.unit).left.length lc) := by rw [← hlv]; exact cells_of hb1 2
  have HNA := hid na
  have HBS := hid hbs
  have HW0 := hid h.new
  by_cases hl : (W.unit r.unit).left = []
  · have HL := hid hl
    rw [hl] at uc2
    clear h hr hs hx hbs na hb1 hb2 hlv b9 a9 u9 hl
    go_enter Try.func93, Try.ntmps93
    go_wp2
    go_ret
    exact ⟨false, rfl, ⟨fun h => (by cases h), fun h => absurd HL.out h.1⟩, HNA.out⟩
  have HL := hid hl
  have hpos := List.length_pos_iff.2 hl
  have hz0 : (((W.unit r.unit).left.length : Int) == 0) = false := beq_eq_false_iff_ne.2 (by omega)
  have hll := hs.lefts r.unit
  have HUI : Hid (Undoes W r ↔ (undoW W r.unit).back = r.back ∧ (undoW W r.unit).page = r.page ∧ (undoW W r.unit).at_ = r.at_ ∧ (undoW W r.unit).after = r.after ∧ r.next = (undoW W r.unit).next) := hid ⟨fun h => h.2, fun h => ⟨hl, h⟩⟩
  clear h hr hs hx hbs na hb1 hb2 hlv b9 a9 u9 hl
  go_enter Try.func93, Try.ntmps93
  go_wp2_with fail
  refine (rundone_any w0 wb S W r.unit b v _ H1.out HX.out HL.out (fun k hk => ⟨(HS.out.left _ k hk).1, (HS.out.left _ k hk).2.1⟩) (HS.out.lefts _) (Nat.le_trans HS.out.len (by decide)) (Nat.le_trans (HBS.out _ (lastN_mem HL.out)).2 (by decide)) (HBS.out _ (lastN_mem HL.out)).1).mono ?_
  rintro e w10 ⟨q, c, rfl, hc, hn⟩
  have HC := hid hc
  have N10 := hid (HNA.out.trans hn)
  have Q10 := hid ((Below.block hn w.heap.size (Array.getElem?_eq_some_iff.1 HQ.out).1).trans HQ.out)
  clear hc hn uc2 hz0 hpos hll
  generalize undoW W r.unit = U at *
  obtain ⟨⟨p1, c1, e1, f7, f8, -⟩, -⟩ := id HC.out
  injection e1 with e11 _ e13
  subst e11 e13
  have NX : Hid (New w (w10.alloc (.cells (recCells U (.slice none 0 0) (.slice q U.after.size c) (.slice none 0 0)) 36))) := hid (N10.out.alloc _ _)
  have B1 := hid (alloc_block w10 (.cells (recCells U (.slice none 0 0) (.slice q U.after.size c) (.slice none 0 0)) 36))
  have Q1 : Hid ((w10.alloc (.cells (recCells U (.slice none 0 0) (.slice q U.after.size c) (.slice none 0 0)) 36)).heap[w.heap.size]? = _) := hid ((Below.block ((New.refl w10).alloc _ _) w.heap.size (Array.getElem?_eq_some_iff.1 Q10.out).1).trans Q10.out)
  have BA : Hid (Bytes (w10.alloc (.cells (recCells U (.slice none 0 0) (.slice q U.after.size c) (.slice none 0 0)) 36)) (.slice q U.after.size c) U.after) := hid (HC.out.1.new ((New.refl w10).alloc _ _))
  have BR := hid (HR.out.after.new (HW0.out.trans NX.out))
  have mq2 : w10.cell? ⟨w.heap.size, 2, none⟩ = some (.int .i64 r.page) := cells_of Q10.out 2
  have mq3 : w10.cell? ⟨w.heap.size, 3, none⟩ = some (.int .i64 r.at_) := cells_of Q10.out 3
  have mq5 : w10.cell? ⟨w.heap.size, 5, none⟩ = some (.slice ap r.after.size ac) := cells_of Q10.out 5
  have mq6 : w10.cell? ⟨w.heap.size, 6, none⟩ = some (.int .i64 r.back) := cells_of Q10.out 6
  have mq7 : w10.cell? ⟨w.heap.size, 7, none⟩ = some (.int .i64 r.next) := cells_of Q10.out 7
  have hqlt := (Array.getElem?_eq_some_iff.1 Q10.out).1
  have hcv1 := Bytes.convert BR.out 33 5 9 Try.underlying33 Try.underlying5 Try.underlying9
  have hcv2 := Bytes.convert BA.out 33 5 9 Try.underlying33 Try.underlying5 Try.underlying9
  by_cases h1 : r.page = U.page
  case neg =>
    have HN := hid h1
    have t1 : (r.page == U.page) = false := beq_eq_false_iff_ne.2 h1
    clear h1
    go_wp2
    go_ret
    exact ⟨false, rfl, ⟨fun h => (by cases h), fun h => absurd ((HUI.out.1 h).2.1.symm) HN.out⟩, NX.out⟩
  have H1p := hid h1
  have t1 : (r.page == U.page) = true := beq_iff_eq.2 h1
  clear h1
  by_cases h2 : r.at_ = U.at_
  case neg =>
    have HN := hid h2
    have t2 : (r.at_ == U.at_) = false := beq_eq_false_iff_ne.2 h2
    clear h2
    go_wp2
    go_ret
    exact ⟨false, rfl, ⟨fun h => (by cases h), fun h => absurd ((HUI.out.1 h).2.2.1.symm) HN.out⟩, NX.out⟩
  have H2p := hid h2
  have t2 : (r.at_ == U.at_) = true := beq_iff_eq.2 h2
  clear h2
  by_cases h3 : r.after.toList = U.after.toList
  case neg =>
    have HN := hid h3
    go_wp2
    go_ret
    exact ⟨false, rfl, ⟨fun h => (by cases h), fun h => absurd (by rw [(HUI.out.1 h).2.2.2.1]) HN.out⟩, NX.out⟩
  have H3 := hid h3
  by_cases h4 : r.back = U.back
  case neg =>
    have HN := hid h4
    have t4 : (r.back == U.back) = false := beq_eq_false_iff_ne.2 h4
    clear h4
    go_wp2
    go_ret
    exact ⟨false, rfl, ⟨fun h => (by cases h), fun h => absurd ((HUI.out.1 h).1.symm) HN.out⟩, NX.out⟩
  have H4 := hid h4
  have t4 : (r.back == U.back) = true := beq_iff_eq.2 h4
  clear h4
  by_cases h5 : r.next = U.next
  case neg =>
    have HN := hid h5
    have t5 : (r.next == U.next) = false := beq_eq_false_iff_ne.2 h5
    clear h5
    go_wp2
    go_ret
    exact ⟨false, rfl, ⟨fun h => (by cases h), fun h => absurd ((HUI.out.1 h).2.2.2.2) HN.out⟩, NX.out⟩
  have H5 := hid h5
  have t5 : (r.next == U.next) = true := beq_iff_eq.2 h5
  clear h5
  go_wp2
  go_ret
  exact ⟨true, rfl, ⟨fun _ => HUI.out.2 ⟨H4.out.symm, H1p.out.symm, H2p.out.symm, (str_eq H3.out).symm, H5.out⟩, fun _ => rfl⟩, NX.out⟩
end Go.Proofs.Ytmchbciofdokfaa
