/- add: a record of text alone, of no unit. add: a mark. -/
import Derived.Test.YtmchbciofdokfaaW12
namespace Go.Proofs.Ytmchbciofdokfaa
open Go.RowKit
open Go.ChangeMaps (setBlock)
set_option linter.unusedSimpArgs false
set_option linter.unusedVariables false

theorem ok_loose {W : PW} {r : Rec} (hv : validB r = true) (hk : r.kind = 7) (h0 : W.unit 0 = au0) (hu : r.unit = 0) : Ok W r :=
  have e : (W.unit r.unit).st = 0 := by rw [hu, h0]; rfl
  ⟨hv, fun _ => .inr hk, by omega, fun _ => ⟨by omega, by omega⟩, fun e => by omega, fun e => by omega, fun e => by omega, fun e => by omega⟩
theorem next_loose {W : PW} {r : Rec} (hk : r.kind = 7 ∨ r.kind = 6) : next W r = { W with recs := W.recs ++ [r] } := by
  have hl : lays r = false := by rcases hk with hk | hk <;> rw [lays, hk] <;> rfl
  have h3 : r.kind ≠ 3 := by omega
  rw [next_other hl h3]
  congr 1
  funext n
  by_cases h : n = r.unit
  · rw [if_pos h]
    unfold touch
    rw [if_neg (by omega), if_neg (by omega), if_neg (by omega), if_neg (by omega), if_neg (by omega)]
  · rw [if_neg h]
set_option maxRecDepth 100000 in
set_option maxHeartbeats 8000000 in
theorem add_loose (w0 : World) (wb : Nat) (S : WSh) (W : PW) (r : Rec) (bv av uv : Value) (w : World) (h : WorldAt w0 w wb S W) (hr : RecAt w0 r bv av uv) (hs : Sane W) (hv : validB r = true) (hk : r.kind = 7) (hun : r.unit = 0) (h0 : W.unit 0 = au0) :
    Calls Try.prog 62 #[.pointer (some ⟨wb, 0, none⟩), .agg (recCells r bv av uv)] w (AddIs w0 wb S W r) := by
  have HK := hid hk
  have HOK := hid (ok_loose (W := W) hv hk h0 hun)
  clear hk
  obtain ⟨hu0, hu1⟩ := valid_unit hv
  have tu0 : (r.unit == 0) = true := by simpa using hun
  have tu1 : decide (0 < r.unit) = false := by simp; omega
  have hrl := hs.len
  obtain ⟨⟨bp, bc, rfl, b7, b8, b9⟩, ⟨ap, ac, rfl, a7, a8, a9⟩, ⟨up, uc, rfl, u7, u8, u9⟩⟩ := id hr
  have HR := hid hr
  have HV := hid hv
  have HS := hid hs
  have na : New w (w.alloc (.cells (recCells r (.slice bp r.before.size bc) (.slice ap r.after.size ac) (.slice up r.units.length uc)) 36)) := Below.alloc (New.refl w) (Nat.le_refl _) _
  have HQ := hid (alloc_block w (.cells (recCells r (.slice bp r.before.size bc) (.slice ap r.after.size ac) (.slice up r.units.length uc)) 36))
  have H1 := hid (h.newer na)
  have HNW := hid h.new
  have HRL := hid hs.len
  have HUN := hid hun
  clear h b9 a9 u9 hr hv hs hun na h0
  go_enter Try.func62, Try.ntmps62
  go_wp2_with fail
  refine (valid_any r _ _ _ _ (HR.out.new H1.out.new)).mono ?_
  rintro e w2 ⟨rfl, n2⟩
  rw [HV.out]
  generalize hw1 : w.alloc (.cells (recCells r (.slice bp r.before.size bc) (.slice ap r.after.size ac) (.slice up r.units.length uc)) 36) = w1 at *
  generalize hq0 : w.heap.size = q at *
  clear hw1 hq0
  have H2 := hid (H1.out.newer n2)
  have Q2 := hid ((Below.block n2 q (Array.getElem?_eq_some_iff.1 HQ.out).1).trans HQ.out)
  clear n2 HQ H1
  obtain ⟨mq0, mq1, mq2, mq3, mq4, mq5, mq6, mq7, mq8, mq9⟩ := rec_box Q2.out
  obtain ⟨pr, cr, hrv, -⟩ := H2.out.rows
  obtain ⟨c0, c1, c2, c3, c4⟩ := H2.out.cells
  rw [hrv] at c0
  have HRV := hid hrv
  have hqlt := (Array.getElem?_eq_some_iff.1 Q2.out).1
  have hblt := (Array.getElem?_eq_some_iff.1 H2.out.base).1
  clear hrv
  have hk' := HK.out
  go_wp2_with fail
  all_goals
    have N3 := hid (Below.alloc (New.refl w2) (Nat.le_refl _) (.cells #[.int .i64 0, .slice none 0 0, .string ⟨#[]⟩, .bool false] 66))
    have H6 := hid (H2.out.newer N3.out)
    have Q6 := hid ((Below.block N3.out q hqlt).trans Q2.out)
    clear hk' mq0 mq1 mq2 mq3 mq4 mq5 mq6 mq7 mq8 mq9 c0 c1 c2 c3 c4 hqlt hblt N3
    generalize (w2.alloc (.cells #[.int .i64 0, .slice none 0 0, .string ⟨#[]⟩, .bool false] 66)) = w6 at *
    obtain ⟨xs, hro, hrc⟩ := H6.out.recs
    have HRC := hid hrc
    have HRO : Hid (w6.ownsRow 0 36 10 (.slice pr W.recs.length cr) W.recs.length xs) := hid (by rw [← HRV.out]; exact hro)
    have NX := hid (Below.alloc (New.refl w6) (Nat.le_refl _) (.cells (recCells r (.slice bp r.before.size bc) (.slice ap r.after.size ac) (.slice up r.units.length uc)) 36)).drew
    have HBX : Hid (((w6.alloc (.cells (recCells r (.slice bp r.before.size bc) (.slice ap r.after.size ac) (.slice up r.units.length uc)) 36)).drew).heap[w6.heap.size]? = some (.cells (recCells r (.slice bp r.before.size bc) (.slice ap r.after.size ac) (.slice up r.units.length uc)) 36 (0, 0))) := hid (alloc_block w6 _)
    have hwlt := (Array.getElem?_eq_some_iff.1 H6.out.base).1
    have HWF := hid (frozen_of H6.out.base)
    have c0 : w6.cell? ⟨wb, 0, none⟩ = some (.slice pr W.recs.length cr) := by rw [← HRV.out]; exact H6.out.cells.1
    have z0 : w6.frozen? ⟨wb, 0, none⟩ = false := HWF.out 0
    have HOW : Hid ((Value.slice pr W.recs.length cr).ownBlock ≠ some wb) := hid (fun e => by
      obtain ⟨c, hc, _⟩ := own_cells HRO.out e
      exact absurd (kind_cells hc H6.out.base).2 (by decide))
    obtain ⟨mq0, mq1, mq2, mq3, mq4, mq5, mq6, mq7, mq8, mq9⟩ := rec_box Q6.out
    have HC0 := hid c0
    have HZ0 := hid z0
    have HWLT := hid hwlt
    have HRL2 : Hid (W.recs.length ≤ 1000000) := hid (by omega)
    have E8 : Hid (((w6.alloc (.cells (recCells r (.slice bp r.before.size bc) (.slice ap r.after.size ac) (.slice up r.units.length uc)) 36)).drew).cell? ⟨wb, 0, none⟩ = some (.slice pr W.recs.length cr)) := hid (((bcell NX.out).1 wb 0 hwlt).trans c0)
    have F8 : Hid (((w6.alloc (.cells (recCells r (.slice bp r.before.size bc) (.slice ap r.after.size ac) (.slice up r.units.length uc)) 36)).drew).frozen? ⟨wb, 0, none⟩ = false) := hid (((bcell NX.out).2 wb 0 hwlt).trans z0)
    have L8 : Hid (wb < ((w6.alloc (.cells (recCells r (.slice bp r.before.size bc) (.slice ap r.after.size ac) (.slice up r.units.length uc)) 36)).drew).heap.size) := hid (Nat.lt_of_lt_of_le hwlt NX.out.size)
    clear hro hrc
    go_region_law (first
      | (refine step_rec rfl _ _ rfl (.slice pr W.recs.length cr) W.recs.length xs rfl 0 (own_old HRO.out NX.out) (Nat.zero_le _) w6.heap.size r bp ap up _ bc _ ac _ uc rfl (cells_of HBX.out) HRL2.out ?_; intro g8 k8 w8 own8 grow8 blk8; have c8 := (grow8.cell_far ⟨wb, 0, none⟩ L8.out (fun e => HOW.out e.symm)).trans E8.out; have z8 := (grow8.frozen_far ⟨wb, 0, none⟩ L8.out (fun e => HOW.out e.symm)).trans F8.out))
    all_goals
      have HE := hid (H6.out.recsEnd HRV.out HR.out HRC.out NX.out own8 grow8 blk8)
      clear own8 grow8 blk8
      go_wp2
      go_ret
      exact add_end HOK.out rfl HE.out (next_loose (.inl HK.out)) ⟨Nat.le_succ _, fun x hx => .inl ⟨x, hx, rfl⟩⟩
end Go.Proofs.Ytmchbciofdokfaa

namespace Go.Proofs.Ytmchbciofdokfaa
open Go.RowKit
open Go.ChangeMaps (setBlock)
set_option linter.unusedSimpArgs false
set_option linter.unusedVariables false

theorem opens_eq {W : PW} {r : Rec} {l : List Opn} (hl : IsOpens W.unit l) (hv : validB r = true) (hk : r.kind = 6) (h0 : W.unit 0 = au0) (hu : r.unit = 0) : Ok W r ↔ r.units = l := by
  have e : (W.unit r.unit).st = 0 := by rw [hu, h0]; rfl
  exact ⟨fun h => opens_one (h.mark hk) hl, fun h => ⟨hv, fun _ => .inl hk, by omega, fun _ => ⟨by omega, by omega⟩, fun e => by omega, fun e => by omega, fun e => by omega, fun _ => h ▸ hl⟩⟩
set_option maxRecDepth 100000 in
set_option maxHeartbeats 8000000 in
theorem add_mark (w0 : World) (wb : Nat) (S : WSh) (W : PW) (r : Rec) (bv av uv : Value) (w : World) (h : WorldAt w0 w wb S W) (hr : RecAt w0 r bv av uv) (hs : Sane W) (hv : validB r = true) (hk : r.kind = 6) (hun : r.unit = 0) (h0 : W.unit 0 = au0) (hlk : ∀ x ∈ S.lu, 0 ≤ x.1 ∧ x.1 ≤ 1000000) (hll : S.lu.length ≤ 10000) (hseen : ∀ n, (W.unit n).seen = false → W.unit n = au0) :
    Calls Try.prog 62 #[.pointer (some ⟨wb, 0, none⟩), .agg (recCells r bv av uv)] w (AddIs w0 wb S W r) := by
  have HK := hid hk
  have HOK : Hid (∀ l, IsOpens W.unit l → (Ok W r ↔ r.units = l)) := hid (fun l hl => opens_eq hl hv hk h0 hun)
  have HLK := hid hlk
  have HLL := hid hll
  have HSEEN := hid hseen
  clear hk
  obtain ⟨hu0, hu1⟩ := valid_unit hv
  have tu0 : (r.unit == 0) = true := by simpa using hun
  have tu1 : decide (0 < r.unit) = false := by simp; omega
  have hrl := hs.len
  obtain ⟨⟨bp, bc, rfl, b7, b8, b9⟩, ⟨ap, ac, rfl, a7, a8, a9⟩, ⟨up, uc, rfl, u7, u8, u9⟩⟩ := id hr
  have HR := hid hr
  have HRU : Hid (Opens w0 (.slice up r.units.length uc) r.units) := hid ⟨up, uc, rfl, u7, u8, u9⟩
  have HV := hid hv
  have HS := hid hs
  have na : New w (w.alloc (.cells (recCells r (.slice bp r.before.size bc) (.slice ap r.after.size ac) (.slice up r.units.length uc)) 36)) := Below.alloc (New.refl w) (Nat.le_refl _) _
  have HQ := hid (alloc_block w (.cells (recCells r (.slice bp r.before.size bc) (.slice ap r.after.size ac) (.slice up r.units.length uc)) 36))
  have H1 := hid (h.newer na)
  have HNW := hid h.new
  have HRL := hid hs.len
  have HUN := hid hun
  clear h b9 a9 u9 hr hv hs hun na h0 hlk hll hseen
  go_enter Try.func62, Try.ntmps62
  go_wp2_with fail
  refine (valid_any r _ _ _ _ (HR.out.new H1.out.new)).mono ?_
  rintro e w2 ⟨rfl, n2⟩
  rw [HV.out]
  generalize hw1 : w.alloc (.cells (recCells r (.slice bp r.before.size bc) (.slice ap r.after.size ac) (.slice up r.units.length uc)) 36) = w1 at *
  generalize hq0 : w.heap.size = q at *
  clear hw1 hq0
  have H2 := hid (H1.out.newer n2)
  have Q2 := hid ((Below.block n2 q (Array.getElem?_eq_some_iff.1 HQ.out).1).trans HQ.out)
  clear n2 HQ H1
  obtain ⟨mq0, mq1, mq2, mq3, mq4, mq5, mq6, mq7, mq8, mq9⟩ := rec_box Q2.out
  obtain ⟨pr, cr, hrv, -⟩ := H2.out.rows
  obtain ⟨c0, c1, c2, c3, c4⟩ := H2.out.cells
  rw [hrv] at c0
  have HRV := hid hrv
  have hqlt := (Array.getElem?_eq_some_iff.1 Q2.out).1
  have hblt := (Array.getElem?_eq_some_iff.1 H2.out.base).1
  clear hrv
  have hk' := HK.out
  go_wp2_with fail
  have N3 := hid (Below.alloc (New.refl w2) (Nat.le_refl _) (.cells #[.int .i64 0, .slice none 0 0, .string ⟨#[]⟩, .bool false] 66))
  have H3 := hid (H2.out.newer N3.out)
  have Q3 := hid ((Below.block N3.out q hqlt).trans Q2.out)
  have X3 : Hid ((w2.alloc (.cells #[.int .i64 0, .slice none 0 0, .string ⟨#[]⟩, .bool false] 66)).heap[w2.heap.size]? = some (.cells #[.int .i64 0, .slice none 0 0, .string ⟨#[]⟩, .bool false] 66 (0, 0))) := hid (alloc_block w2 _)
  generalize hb : w2.heap.size = b at *
  have HB := hid hb
  clear hb hk' mq0 mq1 mq2 mq3 mq4 mq5 mq6 mq7 mq8 mq9 c0 c1 c2 c3 c4 hqlt hblt
  generalize (w2.alloc (.cells #[.int .i64 0, .slice none 0 0, .string ⟨#[]⟩, .bool false] 66)) = w3 at *
  obtain ⟨mq0, mq1, mq2, mq3, mq4, mq5, mq6, mq7, mq8, mq9⟩ := rec_box Q3.out
  have hqlt := (Array.getElem?_eq_some_iff.1 Q3.out).1
  have ND := hid ((New.refl w3).drew)
  go_region_with (first
    | (go_at_call 34; refine (open_any w0 wb S W _ (H3.out.newer ND.out) HS.out HLK.out HLL.out HSEEN.out).mono ?_; rintro e w4 ⟨v, l, rfl, hl, hrow, hn⟩; have HIS := hid hl; have HRW := hid hrow; have HN4 := hid hn; have y9 := ((bcell (ND.out.trans hn)).1 q 9 hqlt).trans mq9; clear hl hrow hn)
    | (go_at_call 89; refine (opensEqual_any _ _ r.units _ _ (RowAt.new HRU.out (H3.out.new.trans (ND.out.trans HN4.out))) (RowAt.owned HRW.out)).mono ?_; rintro e w5 ⟨rfl, hn⟩; have HN5 := hid hn; clear hn))
  all_goals
    have N5 := hid (ND.out.trans (HN4.out.trans HN5.out))
    have Q5 := hid ((Below.block N5.out q hqlt).trans Q3.out)
    have X5 := hid ((Below.block N5.out b (Array.getElem?_eq_some_iff.1 X3.out).1).trans X3.out)
    have N3b : New w2 w3 := by unfold New; rw [HB.out]; exact N3.out
    have M5 := hid (N3b.trans N5.out)
    clear N3b
    clear y9 mq0 mq1 mq2 mq3 mq4 mq5 mq6 mq7 mq8 mq9 hqlt HRW HN4
    obtain ⟨D, hD⟩ : ∃ D, decide (r.units = l) = D := ⟨_, rfl⟩
    have HUL := hid hD
    rw [hD]
    clear hD
    cases D
    case false =>
      have HNO : Hid (¬ Ok W r) := hid (fun ho => of_decide_eq_false HUL.out ((HOK.out _ HIS.out).1 ho))
      go_wp2
      go_ret
      exact .inl ⟨HNO.out, rfl, H3.out.new.trans N5.out⟩
    obtain ⟨mq0, mq1, mq2, mq3, mq4, mq5, mq6, mq7, mq8, mq9⟩ := rec_box Q5.out
    have hk' := HK.out
    have uc3 : w5.cell? ⟨b, 3, none⟩ = some (.bool false) := cells_of X5.out 3
    have uf : w5.frozen? ⟨b, 3, none⟩ = false := frozen_of X5.out 3
    have hxlt := (Array.getElem?_eq_some_iff.1 X5.out).1
    have hqb : q ≠ b := fun e => absurd (kind_cells (e ▸ Q5.out) X5.out).2 (by decide)
    go_wp2_with fail
  all_goals
    have H6 := hid (H2.out.newer (Below.setCell M5.out (p := ⟨b, 3, none⟩) (Nat.le_of_eq HB.out) (.bool true)) (w' := w5.setCell ⟨b, 3, none⟩ (.bool true)))
    have Q6 := hid (block_turn Q5.out (turn_cell w5 b 3 (.bool true)) (fun e => hqb e))
    clear hk' uc3 uf mq0 mq1 mq2 mq3 mq4 mq5 mq6 mq7 mq8 mq9 hxlt
    generalize (w5.setCell ⟨b, 3, none⟩ (.bool true)) = w6 at *
    obtain ⟨xs, hro, hrc⟩ := H6.out.recs
    have HRC := hid hrc
    have HRO : Hid (w6.ownsRow 0 36 10 (.slice pr W.recs.length cr) W.recs.length xs) := hid (by rw [← HRV.out]; exact hro)
    have NX := hid (Below.alloc (New.refl w6) (Nat.le_refl _) (.cells (recCells r (.slice bp r.before.size bc) (.slice ap r.after.size ac) (.slice up r.units.length uc)) 36)).drew
    have HBX : Hid (((w6.alloc (.cells (recCells r (.slice bp r.before.size bc) (.slice ap r.after.size ac) (.slice up r.units.length uc)) 36)).drew).heap[w6.heap.size]? = some (.cells (recCells r (.slice bp r.before.size bc) (.slice ap r.after.size ac) (.slice up r.units.length uc)) 36 (0, 0))) := hid (alloc_block w6 _)
    have hwlt := (Array.getElem?_eq_some_iff.1 H6.out.base).1
    have HWF := hid (frozen_of H6.out.base)
    have c0 : w6.cell? ⟨wb, 0, none⟩ = some (.slice pr W.recs.length cr) := by rw [← HRV.out]; exact H6.out.cells.1
    have z0 : w6.frozen? ⟨wb, 0, none⟩ = false := HWF.out 0
    have HOW : Hid ((Value.slice pr W.recs.length cr).ownBlock ≠ some wb) := hid (fun e => by
      obtain ⟨c, hc, _⟩ := own_cells HRO.out e
      exact absurd (kind_cells hc H6.out.base).2 (by decide))
    obtain ⟨mq0, mq1, mq2, mq3, mq4, mq5, mq6, mq7, mq8, mq9⟩ := rec_box Q6.out
    have HC0 := hid c0
    have HZ0 := hid z0
    have HWLT := hid hwlt
    have HRL2 : Hid (W.recs.length ≤ 1000000) := hid (by omega)
    have E8 : Hid (((w6.alloc (.cells (recCells r (.slice bp r.before.size bc) (.slice ap r.after.size ac) (.slice up r.units.length uc)) 36)).drew).cell? ⟨wb, 0, none⟩ = some (.slice pr W.recs.length cr)) := hid (((bcell NX.out).1 wb 0 hwlt).trans c0)
    have F8 : Hid (((w6.alloc (.cells (recCells r (.slice bp r.before.size bc) (.slice ap r.after.size ac) (.slice up r.units.length uc)) 36)).drew).frozen? ⟨wb, 0, none⟩ = false) := hid (((bcell NX.out).2 wb 0 hwlt).trans z0)
    have L8 : Hid (wb < ((w6.alloc (.cells (recCells r (.slice bp r.before.size bc) (.slice ap r.after.size ac) (.slice up r.units.length uc)) 36)).drew).heap.size) := hid (Nat.lt_of_lt_of_le hwlt NX.out.size)
    clear hro hrc
    go_region_law (first
      | (refine step_rec rfl _ _ rfl (.slice pr W.recs.length cr) W.recs.length xs rfl 0 (own_old HRO.out NX.out) (Nat.zero_le _) w6.heap.size r bp ap up _ bc _ ac _ uc rfl (cells_of HBX.out) HRL2.out ?_; intro g8 k8 w8 own8 grow8 blk8; have c8 := (grow8.cell_far ⟨wb, 0, none⟩ L8.out (fun e => HOW.out e.symm)).trans E8.out; have z8 := (grow8.frozen_far ⟨wb, 0, none⟩ L8.out (fun e => HOW.out e.symm)).trans F8.out))
    all_goals
      have HE := hid (H6.out.recsEnd HRV.out HR.out HRC.out NX.out own8 grow8 blk8)
      clear own8 grow8 blk8
      go_wp2
      go_ret
      exact add_end ((HOK.out _ HIS.out).2 (of_decide_eq_true HUL.out)) rfl HE.out (next_loose (.inr HK.out)) ⟨Nat.le_succ _, fun x hx => .inl ⟨x, hx, rfl⟩⟩
end Go.Proofs.Ytmchbciofdokfaa
