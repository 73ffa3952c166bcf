/- add: a record that makes a unit ready. -/
import Derived.Test.YtmchbciofdokfaaW10
namespace Go.Proofs.Ytmchbciofdokfaa
open Go.RowKit
open Go.ChangeMaps (setBlock)
set_option linter.unusedSimpArgs false
set_option linter.unusedVariables false

theorem ok_ready {W : PW} {r : Rec} (hv : validB r = true) (hk : r.kind = 5) (hu : r.unit ≠ 0) : Ok W r ↔ (W.unit r.unit).st ≤ 1 ∧ (W.unit r.unit).st ≠ 1 :=
  ⟨fun h => ⟨h.runs, fun e => (h.ready e).2 hk⟩, fun h => ⟨hv, fun e => absurd e hu, h.1, fun e => absurd e h.2, fun e => by omega, fun e => by omega, fun e => by omega, fun e => by omega⟩⟩
theorem touch_ready {W : PW} {r : Rec} {U : AU} (hk : r.kind = 5) (hU : W.unit r.unit = U) : (fun n => if n = r.unit then touch (W.unit n) r (W.recs.length + 1) else W.unit n) = fun n => if n = r.unit then ⟨1, U.left, r.text, true⟩ else W.unit n := by
  funext n
  by_cases h : n = r.unit
  · rw [if_pos h, if_pos h, h, hU]
    simp [touch, hk]
  · rw [if_neg h, if_neg h]
set_option maxRecDepth 100000 in
set_option maxHeartbeats 8000000 in
theorem add_ready (w0 : World) (wb : Nat) (S : WSh) (W : PW) (r : Rec) (bv av uv : Value) (w : World) (h : WorldAt w0 w wb S W) (hr : RecAt w0 r bv av uv) (hs : Sane W) (hv : validB r = true) (hk : r.kind = 5) (hun : r.unit ≠ 0) :
    Calls Try.prog 62 #[.pointer (some ⟨wb, 0, none⟩), .agg (recCells r bv av uv)] w (AddIs w0 wb S W r) := by
  have HK := hid hk
  have HOK := hid (ok_ready (W := W) hv hk hun)
  clear hk
  obtain ⟨hu0, hu1⟩ := valid_unit hv
  have tu0 : (r.unit == 0) = false := by simpa using hun
  have tu1 : decide (0 < r.unit) = true := by simp; omega
  have hrl := hs.len
  obtain ⟨⟨bp, bc, rfl, b7, b8, b9⟩, ⟨ap, ac, rfl, a7, a8, a9⟩, ⟨up, uc, rfl, u7, u8, u9⟩⟩ := id hr
  have HR := hid hr
  have HV := hid hv
  have HS := hid hs
  have na : New w (w.alloc (.cells (recCells r (.slice bp r.before.size bc) (.slice ap r.after.size ac) (.slice up r.units.length uc)) 36)) := Below.alloc (New.refl w) (Nat.le_refl _) _
  have HQ := hid (alloc_block w (.cells (recCells r (.slice bp r.before.size bc) (.slice ap r.after.size ac) (.slice up r.units.length uc)) 36))
  have H1 := hid (h.newer na)
  have HNW := hid h.new
  have HRL := hid hs.len
  have HUN := hid hun
  clear h b9 a9 u9 hr hv hs hun na
  go_enter Try.func62, Try.ntmps62
  go_wp2_with fail
  refine (valid_any r _ _ _ _ (HR.out.new H1.out.new)).mono ?_
  rintro e w2 ⟨rfl, n2⟩
  rw [HV.out]
  generalize hw1 : w.alloc (.cells (recCells r (.slice bp r.before.size bc) (.slice ap r.after.size ac) (.slice up r.units.length uc)) 36) = w1 at *
  generalize hq0 : w.heap.size = q at *
  clear hw1 hq0
  have H2 := hid (H1.out.newer n2)
  have Q2 := hid ((Below.block n2 q (Array.getElem?_eq_some_iff.1 HQ.out).1).trans HQ.out)
  clear n2 HQ H1
  obtain ⟨mq0, mq1, mq2, mq3, mq4, mq5, mq6, mq7, mq8, mq9⟩ := rec_box Q2.out
  obtain ⟨pr, cr, hrv, -⟩ := H2.out.rows
  obtain ⟨c0, c1, c2, c3, c4⟩ := H2.out.cells
  rw [hrv] at c0
  have HRV := hid hrv
  have hqlt := (Array.getElem?_eq_some_iff.1 Q2.out).1
  have hblt := (Array.getElem?_eq_some_iff.1 H2.out.base).1
  have N3 := hid (Below.alloc (New.refl w2) (Nat.le_refl _) (.cells #[.int .i64 0, .slice none 0 0, .string ⟨#[]⟩, .bool false] 66))
  clear hrv
  have hk' := HK.out
  go_wp2_with fail
  refine (unit_any w0 wb S W r.unit _ (H2.out.newer N3.out)).mono ?_
  rintro e w4 ⟨b, v, lu, rfl, h4, hx, t4, hl1, hl2⟩
  have H4 := hid h4
  have HX := hid hx
  have HL1 := hid hl1
  have HL2 := hid hl2
  have Q4 := hid (block_turn ((Below.block N3.out q hqlt).trans Q2.out) t4 (fun e => imap_not (H2.out.newer N3.out).units.map _ _ _ (e ▸ ((Below.block N3.out q hqlt).trans Q2.out))))
  clear mq0 mq1 mq2 mq3 mq4 mq5 mq6 mq7 mq8 mq9 c0 c1 c2 c3 c4 t4 h4 hx hl1 hl2 hqlt hblt N3 H2 Q2
  obtain ⟨mq0, mq1, mq2, mq3, mq4, mq5, mq6, mq7, mq8, mq9⟩ := rec_box Q4.out
  obtain ⟨hb1, hb2⟩ := H4.out.units.unit _ HX.out
  obtain ⟨lp, lc, hlv⟩ := own_len hb2
  have uc0 : w4.cell? ⟨b, 0, none⟩ = some (.int .i64 (W.unit r.unit).st) := cells_of hb1 0
  have uc1 : w4.cell? ⟨b, 1, none⟩ = some (.slice lp (W.unit r.unit).left.length lc) := by rw [← hlv]; exact cells_of hb1 1
  have uc2 : w4.cell? ⟨b, 2, none⟩ = some (.string (W.unit r.unit).text) := cells_of hb1 2
  have uc3 : w4.cell? ⟨b, 3, none⟩ = some (.bool (W.unit r.unit).seen) := cells_of hb1 3
  have uf : ∀ o, w4.frozen? ⟨b, o, none⟩ = false := frozen_of hb1
  have HB1 := hid hb1
  have HB2 := hid hb2
  have HLV := hid hlv
  clear hb1 hb2 hlv
  obtain ⟨hs0, hs1⟩ := HS.out.st r.unit
  have hll := HS.out.lefts r.unit
  generalize hU : W.unit r.unit = U at *
  have HU := hid hU
  clear hU
  by_cases hst : U.st ≤ 1
  case neg =>
    have t1 : decide (2 ≤ U.st) = true := by simp; omega
    have HNO : Hid (¬ Ok W r) := hid (fun ho => hst (by have := ho.runs; rwa [HU.out] at this))
    clear hst
    go_wp2
    go_ret
    exact .inl ⟨HNO.out, rfl, H4.out.new⟩
  have t1 : decide (2 ≤ U.st) = false := by simp; omega
  have HST := hid hst
  clear hst
  by_cases hsr : U.st = 1
  · have t2 : (U.st == 1) = true := by simpa using hsr
    have HNO : Hid (¬ Ok W r) := hid (fun ho => (HOK.out.1 ho).2 hsr)
    clear hsr
    go_wp2
    go_ret
    exact .inl ⟨HNO.out, rfl, H4.out.new⟩
  have t2 : (U.st == 1) = false := by simpa using hsr
  have HSR := hid hsr
  clear hsr
  have hqb : q ≠ b := fun e => absurd (kind_cells (e ▸ Q4.out) HB1.out).2 (by decide)
  have hbq : b ≠ q := fun e => hqb e.symm
  have hwbb : wb ≠ b := fun e => absurd (kind_cells (e ▸ H4.out.base) HB1.out).2 (by decide)
  have hbwb : b ≠ wb := fun e => hwbb e.symm
  have hqwb : q ≠ wb := fun e => absurd (kind_cells (e ▸ Q4.out) H4.out.base).2 (by decide)
  have hwbq : wb ≠ q := fun e => hqwb e.symm
  have hxlt := (Array.getElem?_eq_some_iff.1 HB1.out).1
  go_wp2_with fail
  go_region_with (fail)
  all_goals go_wp2_with fail
  all_goals
    have t5 : Turn (· = b) w4 (((w4.setCell ⟨b, 0, none⟩ (.int .i64 1)).setCell ⟨b, 2, none⟩ (.string r.text)).setCell ⟨b, 3, none⟩ (.bool true)).drew := (((turn_cell w4 b 0 _).trans (turn_cell _ b 2 _)).trans (turn_cell _ b 3 _)).trans (Turn.of_new (New.refl _).drew)
    have b6 : ((((w4.setCell ⟨b, 0, none⟩ (.int .i64 1)).setCell ⟨b, 2, none⟩ (.string r.text)).setCell ⟨b, 3, none⟩ (.bool true)).drew).heap[b]? = some (.cells (unitCells ⟨1, U.left, r.text, true⟩ v) 66 (0, 0)) := by
      have e1 := heap_setCell_same w4 b 0 _ 66 (.int .i64 1) HB1.out
      have e2 := heap_setCell_same _ b 2 _ 66 (.string r.text) e1
      have e3 := heap_setCell_same _ b 3 _ 66 (.bool true) e2
      exact e3
    have H6 := hid (H4.out.setUnit HX.out t5 (fun k hk => .inl hk) b6 (own_turn (HB2.out) t5 (fun k hk e => by obtain ⟨c, hc, _⟩ := own_cells HB2.out hk; exact absurd (kind_cells hc (e ▸ HB1.out)).2 (by decide))) (fun k hk => .inl hk))
    have Q6 := hid (block_turn Q4.out t5 (fun e => hqb e))
    clear hk' t5 b6 uc0 uc1 uc2 uc3 uf mq0 mq1 mq2 mq3 mq4 mq5 mq6 mq7 mq8 mq9 hxlt
    generalize (((w4.setCell ⟨b, 0, none⟩ (.int .i64 1)).setCell ⟨b, 2, none⟩ (.string r.text)).setCell ⟨b, 3, none⟩ (.bool true)).drew = w6 at *
    obtain ⟨xs, hro, hrc⟩ := H6.out.recs
    have HRC := hid hrc
    have HRO : Hid (w6.ownsRow 0 36 10 (.slice pr W.recs.length cr) W.recs.length xs) := hid (by rw [← HRV.out]; exact hro)
    have NX := hid (Below.alloc (New.refl w6) (Nat.le_refl _) (.cells (recCells r (.slice bp r.before.size bc) (.slice ap r.after.size ac) (.slice up r.units.length uc)) 36)).drew
    have HBX : Hid (((w6.alloc (.cells (recCells r (.slice bp r.before.size bc) (.slice ap r.after.size ac) (.slice up r.units.length uc)) 36)).drew).heap[w6.heap.size]? = some (.cells (recCells r (.slice bp r.before.size bc) (.slice ap r.after.size ac) (.slice up r.units.length uc)) 36 (0, 0))) := hid (alloc_block w6 _)
    have hwlt := (Array.getElem?_eq_some_iff.1 H6.out.base).1
    have HWF := hid (frozen_of H6.out.base)
    have c0 : w6.cell? ⟨wb, 0, none⟩ = some (.slice pr W.recs.length cr) := by rw [← HRV.out]; exact H6.out.cells.1
    have z0 : w6.frozen? ⟨wb, 0, none⟩ = false := HWF.out 0
    have HOW : Hid ((Value.slice pr W.recs.length cr).ownBlock ≠ some wb) := hid (fun e => by
      obtain ⟨c, hc, _⟩ := own_cells HRO.out e
      exact absurd (kind_cells hc H6.out.base).2 (by decide))
    obtain ⟨mq0, mq1, mq2, mq3, mq4, mq5, mq6, mq7, mq8, mq9⟩ := rec_box Q6.out
    have HC0 := hid c0
    have HZ0 := hid z0
    have HWLT := hid hwlt
    have HRL2 : Hid (W.recs.length ≤ 1000000) := hid (by omega)
    have E8 : Hid (((w6.alloc (.cells (recCells r (.slice bp r.before.size bc) (.slice ap r.after.size ac) (.slice up r.units.length uc)) 36)).drew).cell? ⟨wb, 0, none⟩ = some (.slice pr W.recs.length cr)) := hid (((bcell NX.out).1 wb 0 hwlt).trans c0)
    have F8 : Hid (((w6.alloc (.cells (recCells r (.slice bp r.before.size bc) (.slice ap r.after.size ac) (.slice up r.units.length uc)) 36)).drew).frozen? ⟨wb, 0, none⟩ = false) := hid (((bcell NX.out).2 wb 0 hwlt).trans z0)
    have L8 : Hid (wb < ((w6.alloc (.cells (recCells r (.slice bp r.before.size bc) (.slice ap r.after.size ac) (.slice up r.units.length uc)) 36)).drew).heap.size) := hid (Nat.lt_of_lt_of_le hwlt NX.out.size)
    clear hro hrc
    go_region_law (first
      | (refine step_rec rfl _ _ rfl (.slice pr W.recs.length cr) W.recs.length xs rfl 0 (own_old HRO.out NX.out) (Nat.zero_le _) w6.heap.size r bp ap up _ bc _ ac _ uc rfl (cells_of HBX.out) HRL2.out ?_; intro g8 k8 w8 own8 grow8 blk8; have c8 := (grow8.cell_far ⟨wb, 0, none⟩ L8.out (fun e => HOW.out e.symm)).trans E8.out; have z8 := (grow8.frozen_far ⟨wb, 0, none⟩ L8.out (fun e => HOW.out e.symm)).trans F8.out))
    all_goals
      have HE := hid (H6.out.recsEnd HRV.out HR.out HRC.out NX.out own8 grow8 blk8)
      clear own8 grow8 blk8
      go_wp2
      go_ret
      exact add_end (HOK.out.2 ⟨HST.out, HSR.out⟩) rfl HE.out (by rw [next_other (by rw [lays, HK.out]; rfl) (by rw [HK.out]; decide), touch_ready HK.out HU.out]) (unit_in HL1.out HL2.out)
end Go.Proofs.Ytmchbciofdokfaa
