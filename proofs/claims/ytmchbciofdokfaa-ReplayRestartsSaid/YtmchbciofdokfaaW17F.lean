/- add: an undone record. -/
import Derived.Test.YtmchbciofdokfaaW17L
import Derived.Test.YtmchbciofdokfaaA13
import Derived.BigRegion
namespace Go.Proofs.Ytmchbciofdokfaa
open Go.RowKit
open Go.ChangeMaps (setBlock)
set_option linter.unusedSimpArgs false
set_option linter.unusedVariables false

set_option maxRecDepth 100000 in
set_option maxHeartbeats 8000000 in
theorem add_undoneF (w0 : World) (wb : Nat) (S : WSh) (W : PW) (r : Rec) (bv av uv : Value) (w : World) (h : WorldAt w0 w wb S W) (hr : RecAt w0 r bv av uv) (hs : Sane W) (hv : validB r = true) (hk : r.kind = 2) (hun : r.unit ≠ 0) (hB : ((W.unit r.unit).st == 1) = false) :
    Calls Try.prog 62 #[.pointer (some ⟨wb, 0, none⟩), .agg (recCells r bv av uv)] w (AddIs w0 wb S W r) := by
  have hpl := valid_place hv (by rw [lays, hk]; rfl)
  have HPL := hid hpl
  have HK := hid hk
  have HOK := hid (ok_undone (W := W) hv hk hun)
  clear hk hpl
  obtain ⟨hu0, hu1⟩ := valid_unit hv
  have tu0 : (r.unit == 0) = false := by simpa using hun
  have tu1 : decide (0 < r.unit) = true := by simp; omega
  have hrl := hs.len
  obtain ⟨⟨bp, bc, rfl, b7, b8, b9⟩, ⟨ap, ac, rfl, a7, a8, a9⟩, ⟨up, uc, rfl, u7, u8, u9⟩⟩ := id hr
  have HR := hid hr
  have HV := hid hv
  have HS := hid hs
  have na : New w (w.alloc (.cells (recCells r (.slice bp r.before.size bc) (.slice ap r.after.size ac) (.slice up r.units.length uc)) 36)) := Below.alloc (New.refl w) (Nat.le_refl _) _
  have HQ := hid (alloc_block w (.cells (recCells r (.slice bp r.before.size bc) (.slice ap r.after.size ac) (.slice up r.units.length uc)) 36))
  have H1 := hid (h.newer na)
  have HNW := hid h.new
  have HRL := hid hs.len
  have HUN := hid hun
  clear h b9 a9 u9 hr hv hs hun na
  go_enter Try.func62, Try.ntmps62
  go_wp2_with fail
  refine (valid_any r _ _ _ _ (HR.out.new H1.out.new)).mono ?_
  rintro e w2 ⟨rfl, n2⟩
  rw [HV.out]
  generalize hw1 : w.alloc (.cells (recCells r (.slice bp r.before.size bc) (.slice ap r.after.size ac) (.slice up r.units.length uc)) 36) = w1 at *
  generalize hq0 : w.heap.size = q at *
  clear hw1 hq0
  have H2 := hid (H1.out.newer n2)
  have Q2 := hid ((Below.block n2 q (Array.getElem?_eq_some_iff.1 HQ.out).1).trans HQ.out)
  clear n2 HQ H1
  obtain ⟨mq0, mq1, mq2, mq3, mq4, mq5, mq6, mq7, mq8, mq9⟩ := rec_box Q2.out
  obtain ⟨pr, cr, hrv, -⟩ := H2.out.rows
  obtain ⟨c0, c1, c2, c3, c4⟩ := H2.out.cells
  rw [hrv] at c0
  have HRV := hid hrv
  have hqlt := (Array.getElem?_eq_some_iff.1 Q2.out).1
  have hblt := (Array.getElem?_eq_some_iff.1 H2.out.base).1
  have N3 := hid (Below.alloc (New.refl w2) (Nat.le_refl _) (.cells #[.int .i64 0, .slice none 0 0, .string ⟨#[]⟩, .bool false] 66))
  clear hrv
  have hk' := HK.out
  go_wp2_with fail
  refine (unit_any w0 wb S W r.unit _ (H2.out.newer N3.out)).mono ?_
  rintro e w4 ⟨b, v, lu, rfl, h4, hx, t4, hl1, hl2⟩
  have H4 := hid h4
  have HX := hid hx
  have HL1 := hid hl1
  have HL2 := hid hl2
  have Q4 := hid (block_turn ((Below.block N3.out q hqlt).trans Q2.out) t4 (fun e => imap_not (H2.out.newer N3.out).units.map _ _ _ (e ▸ ((Below.block N3.out q hqlt).trans Q2.out))))
  clear mq0 mq1 mq2 mq3 mq4 mq5 mq6 mq7 mq8 mq9 c0 c1 c2 c3 c4 t4 h4 hx hl1 hl2 hqlt hblt N3 H2 Q2
  obtain ⟨mq0, mq1, mq2, mq3, mq4, mq5, mq6, mq7, mq8, mq9⟩ := rec_box Q4.out
  obtain ⟨hb1, hb2⟩ := H4.out.units.unit _ HX.out
  obtain ⟨lp, lc, hlv⟩ := own_len hb2
  have uc0 : w4.cell? ⟨b, 0, none⟩ = some (.int .i64 (W.unit r.unit).st) := cells_of hb1 0
  have uc1 : w4.cell? ⟨b, 1, none⟩ = some (.slice lp (W.unit r.unit).left.length lc) := by rw [← hlv]; exact cells_of hb1 1
  have uc2 : w4.cell? ⟨b, 2, none⟩ = some (.string (W.unit r.unit).text) := cells_of hb1 2
  have uc3 : w4.cell? ⟨b, 3, none⟩ = some (.bool (W.unit r.unit).seen) := cells_of hb1 3
  have uf : ∀ o, w4.frozen? ⟨b, o, none⟩ = false := frozen_of hb1
  have HB1 := hid hb1
  have HB2 := hid hb2
  have HLV := hid hlv
  clear hb1 hb2 hlv
  obtain ⟨hs0, hs1⟩ := HS.out.st r.unit
  have hll := HS.out.lefts r.unit
  generalize hU : W.unit r.unit = U at *
  have HU := hid hU
  clear hU
  have hqb : q ≠ b := fun e => absurd (kind_cells (e ▸ Q4.out) HB1.out).2 (by decide)
  have hbq : b ≠ q := fun e => hqb e.symm
  have hwbb : wb ≠ b := fun e => absurd (kind_cells (e ▸ H4.out.base) HB1.out).2 (by decide)
  have hbwb : b ≠ wb := fun e => hwbb e.symm
  have hqwb : q ≠ wb := fun e => absurd (kind_cells (e ▸ Q4.out) H4.out.base).2 (by decide)
  have hwbq : wb ≠ q := fun e => hqwb e.symm
  by_cases hst : U.st ≤ 1
  case neg =>
    have t1 : decide (2 ≤ U.st) = true := by simp; omega
    have HNO : Hid (¬ Ok W r) := hid (fun ho => hst (by have := ho.runs; rwa [HU.out] at this))
    clear hst
    go_wp2
    go_ret
    exact .inl ⟨HNO.out, rfl, H4.out.new⟩
  have t1 : decide (2 ≤ U.st) = false := by simp; omega
  have HST := hid hst
  clear hst
  have HUN : Hid (Undoes W r ↔ U.left ≠ [] ∧ (lastN U.left : Int) = r.back ∧ (recN W.recs (lastN U.left)).page = r.page ∧ (recN W.recs (lastN U.left)).at_ = r.at_ ∧ (recN W.recs (lastN U.left)).before = r.after ∧ r.next = (lastN U.left.dropLast : Int)) := hid (by unfold Undoes; rw [HU.out])
  have HSL : Hid (∀ k ∈ U.left, 1 ≤ k ∧ k ≤ W.recs.length ∧ placeB (recN W.recs k) = true) := hid (by rw [← HU.out]; exact HS.out.left _)
  have HLL := hid hll
  generalize hz : U.left.length = z at *
  have HZ := hid hz
  have HB2z : Hid (w4.ownsRow 0 3 1 v z (natVals U.left)) := hid HB2.out
  all_goals
    by_cases hz0 : z = 0
    · have HNO : Hid (¬ Ok W r) := hid (fun ho => (HUN.out.1 (HOK.out.1 ho).2).1 (List.eq_nil_of_length_eq_zero (by rw [HZ.out]; exact hz0)))
      subst hz0
      clear hz
      go_wp2_with fail
      go_quiet (fail)
      go_wp2
      go_ret
      exact .inl ⟨HNO.out, rfl, H4.out.new.drewN _⟩
    obtain ⟨zl, hzl⟩ : ∃ zl, z = zl + 1 := ⟨z - 1, by omega⟩
    obtain ⟨g, lcc, e0, yl, hpop, hcap, hmx⟩ := left_last HB2z.out HZ.out hzl
    have e1 := HLV.out
    rw [e0] at e1
    injection e1 with e11 e12 e13
    subst e11 e13
    clear e12
    have HPOP := hid hpop
    have hzl2 : zl < z := by omega
    have hgt : decide (0 < z) = true := by simp; omega
    have hze : ((z : Int) == 0) = false := by simp; omega
    have hzw : IntKind.i64.wrap ((z : Int) - 1) = (zl : Int) := by rw [hzl, Int.natCast_succ, Int.add_sub_cancel]; exact IntWalk.i64_in _ (by omega)
    unfold maxLen at hmx
    have HV0 := hid e0
    have HZL := hid hzl
    have HK1 : Hid (1 ≤ lastN U.left ∧ lastN U.left ≤ W.recs.length ∧ placeB (recN W.recs (lastN U.left)) = true) := hid (HSL.out _ (by
      unfold lastN
      have hne : U.left ≠ [] := fun e => by rw [e] at hz; simp at hz; omega
      rw [List.getLast?_eq_some_getLast hne]
      exact List.getLast_mem hne))
    generalize hla : lastN U.left = la at *
    have HLA := hid hla
    clear hpop e0 hzl hz hla hz0
    by_cases hbk : (la : Int) = r.back
    case neg =>
      have tb : ((la : Int) != r.back) = true := by simpa using hbk
      have HNO : Hid (¬ Ok W r) := hid (fun ho => hbk (HUN.out.1 (HOK.out.1 ho).2).2.1)
      clear hbk
      go_wp2_with fail
      go_quiet (fail)
      go_wp2
      go_ret
      exact .inl ⟨HNO.out, rfl, H4.out.new.drewN _⟩
    have HBK := hid hbk
    have mq6b : w4.cell? ⟨q, 6, none⟩ = some (.int .i64 (la : Int)) := by rw [HBK.out]; exact mq6
    clear hbk mq6
    go_wp2_with fail
    go_quiet (fail)
    have ND := hid ((New.refl w4).drewN nq)
    have H5 := hid (H4.out.newer ND.out)
    have Q5 := hid ((Below.block ND.out q (Array.getElem?_eq_some_iff.1 Q4.out).1).trans Q4.out)
    have X5 := hid ((Below.block ND.out b (Array.getElem?_eq_some_iff.1 HB1.out).1).trans HB1.out)
    have P5 := hid (own_old HPOP.out ND.out)
    clear mq0 mq1 mq2 mq3 mq4 mq5 mq7 mq8 mq9 mq6b uc0 uc1 uc2 uc3 uf yl hk' hze hgt hzw
    generalize (w4.drewN nq) = w5 at *
    obtain ⟨gr, gc, bv', av', uv', hrv2, hra, hrc⟩ := rec_at H5.out HK1.out.1 HK1.out.2.1
    obtain ⟨⟨bp', bc', rfl, d7, d8, d9⟩, ⟨ap', ac', rfl, f7, f8, f9⟩, ⟨up', uc', rfl, g7, g8, g9⟩⟩ := id hra
    have HRA := hid hra
    obtain ⟨i, hi⟩ : ∃ i, la = i + 1 := ⟨la - 1, by have := HK1.out.1; omega⟩
    rw [show la - 1 = i by omega] at hrc
    have HCB : Hid (w5.heap[q]? = some (.cells (recCells r (.slice bp r.before.size bc) (.slice ap r.after.size ac) (.slice up r.units.length uc)) 36 (0, 0))) := Q5
    obtain ⟨y20, y21, y22, y23, y24, y25, y26, y27, y28, y29⟩ := rec_ten hrc
    have c50 : w5.cell? ⟨wb, 0, none⟩ = some (.slice (some ⟨gr, 0, none⟩) W.recs.length gc) := by rw [← hrv2]; exact H5.out.cells.1
    have mq6 : w5.cell? ⟨q, 6, none⟩ = some (.int .i64 (la : Int)) := by rw [HBK.out]; exact cells_of Q5.out 6
    have hlw : IntKind.i64.wrap ((la : Int) - 1) = (i : Int) := by rw [hi, Int.natCast_succ, Int.add_sub_cancel]; exact IntWalk.i64_in _ (by have := HK1.out.2.1; omega)
    have hil : i < W.recs.length := by have := HK1.out.2.1; omega
    have HI := hid hi
    have hqlt := (Array.getElem?_eq_some_iff.1 Q5.out).1
    have hgr : gr < w5.heap.size := World.block_lt_of_cell? w5 _ y20
    have hwbl := (Array.getElem?_eq_some_iff.1 H5.out.base).1
    clear hi hrc hrv2 hra d9 f9 g9
    go_wp2_with fail
    go_region
    have N6 := hid (Below.alloc (New.refl w5) (Nat.le_refl _) (.cells (recCells (recN W.recs la) (.slice bp' (recN W.recs la).before.size bc') (.slice ap' (recN W.recs la).after.size ac') (.slice up' (recN W.recs la).units.length uc')) 36)).drew
    have C6 : Hid ((w5.alloc (.cells (recCells (recN W.recs la) (.slice bp' (recN W.recs la).before.size bc') (.slice ap' (recN W.recs la).after.size ac') (.slice up' (recN W.recs la).units.length uc')) 36)).drew.heap[w5.heap.size]? = some (.cells (recCells (recN W.recs la) (.slice bp' (recN W.recs la).before.size bc') (.slice ap' (recN W.recs la).after.size ac') (.slice up' (recN W.recs la).units.length uc')) 36 (0, 0))) := hid (alloc_block w5 _)
    have H6 := hid (H5.out.newer N6.out)
    have Q6 := hid ((Below.block N6.out q (Array.getElem?_eq_some_iff.1 Q5.out).1).trans Q5.out)
    have X6 := hid ((Below.block N6.out b (Array.getElem?_eq_some_iff.1 X5.out).1).trans X5.out)
    have P6 := hid (own_old P5.out N6.out)
    have HQC : Hid (q ≠ w5.heap.size) := hid (by have := (Array.getElem?_eq_some_iff.1 Q5.out).1; omega)
    have HBC : Hid (b ≠ w5.heap.size) := hid (by have : b < w5.heap.size := (Array.getElem?_eq_some_iff.1 X5.out).1; omega)
    clear N6 y20 y21 y22 y23 y24 y25 y26 y27 y28 y29 c50 mq6 hlw hil hqlt hgr hwbl HCB Q5 X5 P5
    generalize (w5.alloc (.cells (recCells (recN W.recs la) (.slice bp' (recN W.recs la).before.size bc') (.slice ap' (recN W.recs la).after.size ac') (.slice up' (recN W.recs la).units.length uc')) 36)).drew = w6 at *
    generalize w5.heap.size = cq at *
    have uc1 : w6.cell? ⟨b, 1, none⟩ = some (.slice (some ⟨g, 0, none⟩) z lcc) := by rw [← HV0.out]; exact cells_of X6.out 1
    have uf1 : w6.frozen? ⟨b, 1, none⟩ = false := frozen_of X6.out 1
    have hblt : b < w6.heap.size := (Array.getElem?_eq_some_iff.1 X6.out).1
    have hzw : IntKind.i64.wrap ((z : Int) - 1) = (zl : Int) := by rw [HZL.out, Int.natCast_succ, Int.add_sub_cancel]; exact IntWalk.i64_in _ (by have := HZL.out; omega)
    have hzc : (zl : Int) ≤ (lcc : Int) := by omega
    have hz0 : (0 : Int) ≤ (zl : Int) := by omega
    go_wp2_with fail
    go_region
    have t7 : Turn (· = b) w6 (w6.setCell ⟨b, 1, none⟩ (.slice (some ⟨g, 0, none⟩) zl lcc)).drew := (turn_cell w6 b 1 _).drew
    have b7 : (w6.setCell ⟨b, 1, none⟩ (.slice (some ⟨g, 0, none⟩) zl lcc)).drew.heap[b]? = some (.cells (unitCells ⟨U.st, U.left.dropLast, U.text, U.seen⟩ (.slice (some ⟨g, 0, none⟩) zl lcc)) 66 (0, 0)) := by
      have e1 := heap_setCell_same w6 b 1 _ 66 (.slice (some ⟨g, 0, none⟩) zl lcc) X6.out
      show (w6.setCell ⟨b, 1, none⟩ (.slice (some ⟨g, 0, none⟩) zl lcc)).heap[b]? = _
      rw [e1]
      rfl
    have HDL : Hid (U.left.dropLast.length = zl) := hid (by rw [List.length_dropLast, HZ.out, HZL.out]; rfl)
    have HGB : Hid (g ≠ b) := hid (fun e => by
      obtain ⟨c, hc, _⟩ := own_cells P6.out (k := g) rfl
      exact absurd (kind_cells (e ▸ hc) X6.out).2 (by decide))
    have P7 := hid (own_turn P6.out t7 (fun k hk e => by
      simp [Value.ownBlock] at hk
      exact HGB.out (hk.trans e)))
    have H7 := hid (H6.out.setUnit HX.out (u' := ⟨U.st, U.left.dropLast, U.text, U.seen⟩) (v' := .slice (some ⟨g, 0, none⟩) zl lcc) t7 (fun k hk => .inl hk) b7 (by show World.ownsRow _ 0 3 1 _ U.left.dropLast.length (natVals U.left.dropLast); rw [HDL.out]; exact P7.out) (fun k hk => .inl (by rw [HV0.out]; exact hk)))
    have Q7 := hid (block_turn Q6.out t7 (fun e => hqb e))
    have C7 := hid (block_turn C6.out t7 (fun e => HBC.out e.symm))
    have X7 := hid b7
    have HX7 : Hid ((r.unit, b, Value.slice (some ⟨g, 0, none⟩) zl lcc) ∈ setU lu r.unit b (.slice (some ⟨g, 0, none⟩) zl lcc)) := hid (setU_in HX.out)
    have HNE : Hid (U.left ≠ []) := hid (fun e => by have := HZ.out; rw [e] at this; simp at this; omega)
    clear t7 b7 uc1 uf1 hblt hzw hzc hz0 Q6 X6 C6 P6 H6
    generalize (w6.setCell ⟨b, 1, none⟩ (.slice (some ⟨g, 0, none⟩) zl lcc)).drew = w7 at *
    have uc1 : w7.cell? ⟨b, 1, none⟩ = some (.slice (some ⟨g, 0, none⟩) zl lcc) := cells_of X7.out 1
    have hblt : b < w7.heap.size := (Array.getElem?_eq_some_iff.1 X7.out).1
    have hzc : (zl : Int) ≤ (lcc : Int) := by omega
    have hz0 : (0 : Int) ≤ (zl : Int) := by omega
    by_cases hzp : zl = 0
    · have HLY : Hid ((lastN U.left.dropLast : Int) = 0) := hid (by rw [List.eq_nil_of_length_eq_zero (HDL.out.trans hzp)]; rfl)
      have hzp0 : decide (0 < zl) = false := by simp; omega
      clear hzp
      have ND8 := hid (New.refl w7)
      have H8 := hid (H7.out.newer ND8.out)
      have Q8 := hid ((Below.block ND8.out q (Array.getElem?_eq_some_iff.1 Q7.out).1).trans Q7.out)
      have C8 := hid ((Below.block ND8.out cq (Array.getElem?_eq_some_iff.1 C7.out).1).trans C7.out)
      obtain ⟨mq0, mq1, mq2, mq3, mq4, mq5, mq6, mq7, mq8, mq9⟩ := rec_box Q8.out
      obtain ⟨nq0, nq1, nq2, nq3, nq4, nq5, nq6, nq7, nq8, nq9⟩ := rec_box C8.out
      have hk' := HK.out
      by_cases hA : (recN W.recs la).page = r.page
      case neg =>
        have HNO : Hid (¬ Ok W r) := hid (fun ho => hA (HUN.out.1 (HOK.out.1 ho).2).2.2.1)
        have tA : ((recN W.recs la).page != r.page) = true := by simpa using hA
        clear hA
        go_wp2
        go_ret
        exact .inl ⟨HNO.out, rfl, H8.out.new⟩
      have tA : ((recN W.recs la).page != r.page) = false := by simpa using hA
      have HA := hid hA
      clear hA
      by_cases hB : (recN W.recs la).at_ = r.at_
      case neg =>
        have HNO : Hid (¬ Ok W r) := hid (fun ho => hB (HUN.out.1 (HOK.out.1 ho).2).2.2.2.1)
        have tB : ((recN W.recs la).at_ != r.at_) = true := by simpa using hB
        clear hB
        go_wp2
        go_ret
        exact .inl ⟨HNO.out, rfl, H8.out.new⟩
      have tB : ((recN W.recs la).at_ != r.at_) = false := by simpa using hB
      have HB := hid hB
      clear hB
      go_wp2_with fail
      refine (bytesEqual_any _ _ (recN W.recs la).before r.after _ (HRA.out.before.new H8.out.new) (HR.out.after.new H8.out.new)).mono ?_
      rintro e w8b ⟨rfl, rfl⟩
      obtain ⟨D, hD⟩ : ∃ D, decide ((recN W.recs la).before = r.after) = D := ⟨_, rfl⟩
      have HD := hid hD
      rw [hD]
      clear hD
      cases D
      case false =>
        have HNO : Hid (¬ Ok W r) := hid (fun ho => of_decide_eq_false HD.out (HUN.out.1 (HOK.out.1 ho).2).2.2.2.2.1)
        go_wp2
        go_ret
        exact .inl ⟨HNO.out, rfl, H8.out.new⟩
      by_cases hN : r.next = 0
      case neg =>
        have HNO : Hid (¬ Ok W r) := hid (fun ho => hN (by have := (HUN.out.1 (HOK.out.1 ho).2).2.2.2.2.2; rw [this]; exact HLY.out))
        have tN : (r.next != 0) = true := by simpa using hN
        clear hN
        go_wp2
        go_ret
        exact .inl ⟨HNO.out, rfl, H8.out.new⟩
      have tN : (r.next != 0) = false := by simpa using hN
      have HOK2 : Hid (Ok W r) := hid (HOK.out.2 ⟨HST.out, HUN.out.2 ⟨HNE.out, HBK.out, HA.out, HB.out, of_decide_eq_true HD.out, hN.trans HLY.out.symm⟩⟩)
      clear hN
      go_wp2_with fail
      with_reducible refine (lay_of 2 w0 wb _ _ r _ _ _ _ HK.out H8.out HR.out HPL.out HS.out.size HRL.out).mono ?_
      rintro e w9 ⟨lp9, ls9, rfl, h9, k9⟩
      have H9 := hid h9
      have Q9 := hid (k9 q _ Q8.out)
      clear h9 k9 mq0 mq1 mq2 mq3 mq4 mq5 mq6 mq7 mq8 mq9 hk' nq0 nq1 nq2 nq3 nq4 nq5 nq6 nq7 nq8 nq9 tA tB tN
      have hb91 : w9.heap[b]? = some (.cells (unitCells ⟨U.st, U.left.dropLast, U.text, U.seen⟩ (.slice (some ⟨g, 0, none⟩) zl lcc)) 66 (0, 0)) := by
        have h := (H9.out.units.unit _ HX7.out).1
        simpa only [laidW, if_true] using h
      have hb92 : w9.ownsRow 0 3 1 (.slice (some ⟨g, 0, none⟩) zl lcc) U.left.dropLast.length (natVals U.left.dropLast) := by
        have h := (H9.out.units.unit _ HX7.out).2
        simpa only [laidW, if_true] using h
      have HB91 := hid hb91
      have HB92 := hid hb92
      have uc3 : w9.cell? ⟨b, 3, none⟩ = some (.bool U.seen) := cells_of hb91 3
      have uf : w9.frozen? ⟨b, 3, none⟩ = false := frozen_of hb91 3
      have hxlt : b < w9.heap.size := (Array.getElem?_eq_some_iff.1 hb91).1
      obtain ⟨mq0, mq1, mq2, mq3, mq4, mq5, mq6, mq7, mq8, mq9⟩ := rec_box Q9.out
      have hk' := HK.out
      clear hb91 hb92
      go_wp2_with fail
      all_goals
        have t5 : Turn (· = b) w9 (w9.setCell ⟨b, 3, none⟩ (.bool true)) := turn_cell w9 b 3 _
        have b6 : (w9.setCell ⟨b, 3, none⟩ (.bool true)).heap[b]? = some (.cells (unitCells ⟨U.st, U.left.dropLast, U.text, true⟩ (.slice (some ⟨g, 0, none⟩) zl lcc)) 66 (0, 0)) := by
          have e1 := heap_setCell_same w9 b 3 _ 66 (.bool true) HB91.out
          rw [e1]
          rfl
        have H6 := hid (H9.out.setUnit HX7.out t5 (fun k hk => .inl hk) b6 (own_turn (HB92.out) t5 (fun k hk e => by obtain ⟨c, hc, _⟩ := own_cells HB92.out hk; exact absurd (kind_cells hc (e ▸ HB91.out)).2 (by decide))) (fun k hk => .inl hk))
        have Q6 := hid (block_turn Q9.out t5 (fun e => hqb e))
        clear hk' t5 b6 uc3 uf mq0 mq1 mq2 mq3 mq4 mq5 mq6 mq7 mq8 mq9 hxlt
        generalize (w9.setCell ⟨b, 3, none⟩ (.bool true)) = w6 at *
        obtain ⟨xs, hro, hrc⟩ := H6.out.recs
        have HRC := hid hrc
        have HRO : Hid (w6.ownsRow 0 36 10 (.slice pr W.recs.length cr) W.recs.length xs) := hid (by rw [← HRV.out]; exact hro)
        have NX := hid (Below.alloc (New.refl w6) (Nat.le_refl _) (.cells (recCells r (.slice bp r.before.size bc) (.slice ap r.after.size ac) (.slice up r.units.length uc)) 36)).drew
        have HBX : Hid (((w6.alloc (.cells (recCells r (.slice bp r.before.size bc) (.slice ap r.after.size ac) (.slice up r.units.length uc)) 36)).drew).heap[w6.heap.size]? = some (.cells (recCells r (.slice bp r.before.size bc) (.slice ap r.after.size ac) (.slice up r.units.length uc)) 36 (0, 0))) := hid (alloc_block w6 _)
        have hwlt := (Array.getElem?_eq_some_iff.1 H6.out.base).1
        have HWF := hid (frozen_of H6.out.base)
        have c0 : w6.cell? ⟨wb, 0, none⟩ = some (.slice pr W.recs.length cr) := by rw [← HRV.out]; exact H6.out.cells.1
        have z0 : w6.frozen? ⟨wb, 0, none⟩ = false := HWF.out 0
        have HOW : Hid ((Value.slice pr W.recs.length cr).ownBlock ≠ some wb) := hid (fun e => by
          obtain ⟨c, hc, _⟩ := own_cells HRO.out e
          exact absurd (kind_cells hc H6.out.base).2 (by decide))
        obtain ⟨mq0, mq1, mq2, mq3, mq4, mq5, mq6, mq7, mq8, mq9⟩ := rec_box Q6.out
        have HC0 := hid c0
        have HZ0 := hid z0
        have HWLT := hid hwlt
        have HRL2 : Hid (W.recs.length ≤ 1000000) := hid (by omega)
        have E8 : Hid (((w6.alloc (.cells (recCells r (.slice bp r.before.size bc) (.slice ap r.after.size ac) (.slice up r.units.length uc)) 36)).drew).cell? ⟨wb, 0, none⟩ = some (.slice pr W.recs.length cr)) := hid (((bcell NX.out).1 wb 0 hwlt).trans c0)
        have F8 : Hid (((w6.alloc (.cells (recCells r (.slice bp r.before.size bc) (.slice ap r.after.size ac) (.slice up r.units.length uc)) 36)).drew).frozen? ⟨wb, 0, none⟩ = false) := hid (((bcell NX.out).2 wb 0 hwlt).trans z0)
        have L8 : Hid (wb < ((w6.alloc (.cells (recCells r (.slice bp r.before.size bc) (.slice ap r.after.size ac) (.slice up r.units.length uc)) 36)).drew).heap.size) := hid (Nat.lt_of_lt_of_le hwlt NX.out.size)
        clear hro hrc
        go_region_law (first
          | (refine step_rec rfl _ _ rfl (.slice pr W.recs.length cr) W.recs.length xs rfl 0 (own_old HRO.out NX.out) (Nat.zero_le _) w6.heap.size r bp ap up _ bc _ ac _ uc rfl (cells_of HBX.out) HRL2.out ?_; intro g8 k8 w8 own8 grow8 blk8; have c8 := (grow8.cell_far ⟨wb, 0, none⟩ L8.out (fun e => HOW.out e.symm)).trans E8.out; have z8 := (grow8.frozen_far ⟨wb, 0, none⟩ L8.out (fun e => HOW.out e.symm)).trans F8.out))
        all_goals
          have HE := hid (H6.out.recsEnd HRV.out HR.out HRC.out NX.out own8 grow8 blk8)
          clear own8 grow8 blk8
          go_wp2
          go_ret
          exact add_end HOK2.out rfl HE.out (next_undone HK.out HU.out) (unit_in2 HL1.out HL2.out)
    · obtain ⟨yl, hyl⟩ : ∃ yl, zl = yl + 1 := ⟨zl - 1, by omega⟩
      obtain ⟨g2, lc2, e0, yy, -, -, -⟩ := left_last P7.out HDL.out hyl
      injection e0 with e01 e02 e03
      injection e01 with e01
      injection e01 with e01 e04 e05
      subst e01 e03
      obtain ⟨ly, hly⟩ : ∃ ly, lastN U.left.dropLast = ly := ⟨_, rfl⟩
      rw [hly] at yy
      have HLY : Hid ((lastN U.left.dropLast : Int) = (ly : Int)) := hid (by rw [hly])
      clear hly e02 e04 e05
      have hzp0 : decide (0 < zl) = true := by simp; omega
      have hyl2 : yl < zl := by omega
      have hyw : IntKind.i64.wrap ((zl : Int) - 1) = (yl : Int) := by rw [hyl, Int.natCast_succ, Int.add_sub_cancel]; exact IntWalk.i64_in _ (by omega)
      have HYL := hid hyl
      clear hyl
      go_wp2_with fail
      go_quiet (fail)
      clear yy hyw hyl2
      have ND8 := hid ((New.refl w7).drewN nq)
      have H8 := hid (H7.out.newer ND8.out)
      have Q8 := hid ((Below.block ND8.out q (Array.getElem?_eq_some_iff.1 Q7.out).1).trans Q7.out)
      have C8 := hid ((Below.block ND8.out cq (Array.getElem?_eq_some_iff.1 C7.out).1).trans C7.out)
      generalize (w7.drewN nq) = w8 at *
      clear uc1 hzc hz0 hblt hzp0
      obtain ⟨mq0, mq1, mq2, mq3, mq4, mq5, mq6, mq7, mq8, mq9⟩ := rec_box Q8.out
      obtain ⟨nq0, nq1, nq2, nq3, nq4, nq5, nq6, nq7, nq8, nq9⟩ := rec_box C8.out
      have hk' := HK.out
      by_cases hA : (recN W.recs la).page = r.page
      case neg =>
        have HNO : Hid (¬ Ok W r) := hid (fun ho => hA (HUN.out.1 (HOK.out.1 ho).2).2.2.1)
        have tA : ((recN W.recs la).page != r.page) = true := by simpa using hA
        clear hA
        go_wp2
        go_ret
        exact .inl ⟨HNO.out, rfl, H8.out.new⟩
      have tA : ((recN W.recs la).page != r.page) = false := by simpa using hA
      have HA := hid hA
      clear hA
      by_cases hB : (recN W.recs la).at_ = r.at_
      case neg =>
        have HNO : Hid (¬ Ok W r) := hid (fun ho => hB (HUN.out.1 (HOK.out.1 ho).2).2.2.2.1)
        have tB : ((recN W.recs la).at_ != r.at_) = true := by simpa using hB
        clear hB
        go_wp2
        go_ret
        exact .inl ⟨HNO.out, rfl, H8.out.new⟩
      have tB : ((recN W.recs la).at_ != r.at_) = false := by simpa using hB
      have HB := hid hB
      clear hB
      go_wp2_with fail
      refine (bytesEqual_any _ _ (recN W.recs la).before r.after _ (HRA.out.before.new H8.out.new) (HR.out.after.new H8.out.new)).mono ?_
      rintro e w8b ⟨rfl, rfl⟩
      obtain ⟨D, hD⟩ : ∃ D, decide ((recN W.recs la).before = r.after) = D := ⟨_, rfl⟩
      have HD := hid hD
      rw [hD]
      clear hD
      cases D
      case false =>
        have HNO : Hid (¬ Ok W r) := hid (fun ho => of_decide_eq_false HD.out (HUN.out.1 (HOK.out.1 ho).2).2.2.2.2.1)
        go_wp2
        go_ret
        exact .inl ⟨HNO.out, rfl, H8.out.new⟩
      by_cases hN : r.next = (ly : Int)
      case neg =>
        have HNO : Hid (¬ Ok W r) := hid (fun ho => hN (by have := (HUN.out.1 (HOK.out.1 ho).2).2.2.2.2.2; rw [this]; exact HLY.out))
        have tN : (r.next != (ly : Int)) = true := by simpa using hN
        clear hN
        go_wp2
        go_ret
        exact .inl ⟨HNO.out, rfl, H8.out.new⟩
      have tN : (r.next != (ly : Int)) = false := by simpa using hN
      have HOK2 : Hid (Ok W r) := hid (HOK.out.2 ⟨HST.out, HUN.out.2 ⟨HNE.out, HBK.out, HA.out, HB.out, of_decide_eq_true HD.out, hN.trans HLY.out.symm⟩⟩)
      clear hN
      go_wp2_with fail
      with_reducible refine (lay_of 2 w0 wb _ _ r _ _ _ _ HK.out H8.out HR.out HPL.out HS.out.size HRL.out).mono ?_
      rintro e w9 ⟨lp9, ls9, rfl, h9, k9⟩
      have H9 := hid h9
      have Q9 := hid (k9 q _ Q8.out)
      clear h9 k9 mq0 mq1 mq2 mq3 mq4 mq5 mq6 mq7 mq8 mq9 hk' nq0 nq1 nq2 nq3 nq4 nq5 nq6 nq7 nq8 nq9 tA tB tN
      have hb91 : w9.heap[b]? = some (.cells (unitCells ⟨U.st, U.left.dropLast, U.text, U.seen⟩ (.slice (some ⟨g, 0, none⟩) zl lcc)) 66 (0, 0)) := by
        have h := (H9.out.units.unit _ HX7.out).1
        simpa only [laidW, if_true] using h
      have hb92 : w9.ownsRow 0 3 1 (.slice (some ⟨g, 0, none⟩) zl lcc) U.left.dropLast.length (natVals U.left.dropLast) := by
        have h := (H9.out.units.unit _ HX7.out).2
        simpa only [laidW, if_true] using h
      have HB91 := hid hb91
      have HB92 := hid hb92
      have uc3 : w9.cell? ⟨b, 3, none⟩ = some (.bool U.seen) := cells_of hb91 3
      have uf : w9.frozen? ⟨b, 3, none⟩ = false := frozen_of hb91 3
      have hxlt : b < w9.heap.size := (Array.getElem?_eq_some_iff.1 hb91).1
      obtain ⟨mq0, mq1, mq2, mq3, mq4, mq5, mq6, mq7, mq8, mq9⟩ := rec_box Q9.out
      have hk' := HK.out
      clear hb91 hb92
      go_wp2_with fail
      all_goals
        have t5 : Turn (· = b) w9 (w9.setCell ⟨b, 3, none⟩ (.bool true)) := turn_cell w9 b 3 _
        have b6 : (w9.setCell ⟨b, 3, none⟩ (.bool true)).heap[b]? = some (.cells (unitCells ⟨U.st, U.left.dropLast, U.text, true⟩ (.slice (some ⟨g, 0, none⟩) zl lcc)) 66 (0, 0)) := by
          have e1 := heap_setCell_same w9 b 3 _ 66 (.bool true) HB91.out
          rw [e1]
          rfl
        have H6 := hid (H9.out.setUnit HX7.out t5 (fun k hk => .inl hk) b6 (own_turn (HB92.out) t5 (fun k hk e => by obtain ⟨c, hc, _⟩ := own_cells HB92.out hk; exact absurd (kind_cells hc (e ▸ HB91.out)).2 (by decide))) (fun k hk => .inl hk))
        have Q6 := hid (block_turn Q9.out t5 (fun e => hqb e))
        clear hk' t5 b6 uc3 uf mq0 mq1 mq2 mq3 mq4 mq5 mq6 mq7 mq8 mq9 hxlt
        generalize (w9.setCell ⟨b, 3, none⟩ (.bool true)) = w6 at *
        obtain ⟨xs, hro, hrc⟩ := H6.out.recs
        have HRC := hid hrc
        have HRO : Hid (w6.ownsRow 0 36 10 (.slice pr W.recs.length cr) W.recs.length xs) := hid (by rw [← HRV.out]; exact hro)
        have NX := hid (Below.alloc (New.refl w6) (Nat.le_refl _) (.cells (recCells r (.slice bp r.before.size bc) (.slice ap r.after.size ac) (.slice up r.units.length uc)) 36)).drew
        have HBX : Hid (((w6.alloc (.cells (recCells r (.slice bp r.before.size bc) (.slice ap r.after.size ac) (.slice up r.units.length uc)) 36)).drew).heap[w6.heap.size]? = some (.cells (recCells r (.slice bp r.before.size bc) (.slice ap r.after.size ac) (.slice up r.units.length uc)) 36 (0, 0))) := hid (alloc_block w6 _)
        have hwlt := (Array.getElem?_eq_some_iff.1 H6.out.base).1
        have HWF := hid (frozen_of H6.out.base)
        have c0 : w6.cell? ⟨wb, 0, none⟩ = some (.slice pr W.recs.length cr) := by rw [← HRV.out]; exact H6.out.cells.1
        have z0 : w6.frozen? ⟨wb, 0, none⟩ = false := HWF.out 0
        have HOW : Hid ((Value.slice pr W.recs.length cr).ownBlock ≠ some wb) := hid (fun e => by
          obtain ⟨c, hc, _⟩ := own_cells HRO.out e
          exact absurd (kind_cells hc H6.out.base).2 (by decide))
        obtain ⟨mq0, mq1, mq2, mq3, mq4, mq5, mq6, mq7, mq8, mq9⟩ := rec_box Q6.out
        have HC0 := hid c0
        have HZ0 := hid z0
        have HWLT := hid hwlt
        have HRL2 : Hid (W.recs.length ≤ 1000000) := hid (by omega)
        have E8 : Hid (((w6.alloc (.cells (recCells r (.slice bp r.before.size bc) (.slice ap r.after.size ac) (.slice up r.units.length uc)) 36)).drew).cell? ⟨wb, 0, none⟩ = some (.slice pr W.recs.length cr)) := hid (((bcell NX.out).1 wb 0 hwlt).trans c0)
        have F8 : Hid (((w6.alloc (.cells (recCells r (.slice bp r.before.size bc) (.slice ap r.after.size ac) (.slice up r.units.length uc)) 36)).drew).frozen? ⟨wb, 0, none⟩ = false) := hid (((bcell NX.out).2 wb 0 hwlt).trans z0)
        have L8 : Hid (wb < ((w6.alloc (.cells (recCells r (.slice bp r.before.size bc) (.slice ap r.after.size ac) (.slice up r.units.length uc)) 36)).drew).heap.size) := hid (Nat.lt_of_lt_of_le hwlt NX.out.size)
        clear hro hrc
        go_region_law (first
          | (refine step_rec rfl _ _ rfl (.slice pr W.recs.length cr) W.recs.length xs rfl 0 (own_old HRO.out NX.out) (Nat.zero_le _) w6.heap.size r bp ap up _ bc _ ac _ uc rfl (cells_of HBX.out) HRL2.out ?_; intro g8 k8 w8 own8 grow8 blk8; have c8 := (grow8.cell_far ⟨wb, 0, none⟩ L8.out (fun e => HOW.out e.symm)).trans E8.out; have z8 := (grow8.frozen_far ⟨wb, 0, none⟩ L8.out (fun e => HOW.out e.symm)).trans F8.out))
        all_goals
          have HE := hid (H6.out.recsEnd HRV.out HR.out HRC.out NX.out own8 grow8 blk8)
          clear own8 grow8 blk8
          go_wp2
          go_ret
          exact add_end HOK2.out rfl HE.out (next_undone HK.out HU.out) (unit_in2 HL1.out HL2.out)
end Go.Proofs.Ytmchbciofdokfaa
