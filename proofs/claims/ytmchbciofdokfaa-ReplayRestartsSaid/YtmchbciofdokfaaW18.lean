/- add: what is refused at once. -/
import Derived.Test.YtmchbciofdokfaaW10
namespace Go.Proofs.Ytmchbciofdokfaa
open Go.RowKit
open Go.ChangeMaps (setBlock)
set_option linter.unusedSimpArgs false
set_option linter.unusedVariables false

set_option maxRecDepth 100000 in
set_option maxHeartbeats 2000000 in
theorem add_bad (w0 : World) (wb : Nat) (S : WSh) (W : PW) (r : Rec) (bv av uv : Value) (w : World) (h : New w0 w) (hr : RecAt w0 r bv av uv) (hv : validB r = false) :
    Calls Try.prog 62 #[.pointer (some ⟨wb, 0, none⟩), .agg (recCells r bv av uv)] w (AddIs w0 wb S W r) := by
  obtain ⟨⟨bp, bc, rfl, b7, b8, b9⟩, ⟨ap, ac, rfl, a7, a8, a9⟩, ⟨up, uc, rfl, u7, u8, u9⟩⟩ := id hr
  have HR := hid hr
  have HV := hid hv
  have na : New w (w.alloc (.cells (recCells r (.slice bp r.before.size bc) (.slice ap r.after.size ac) (.slice up r.units.length uc)) 36)) := Below.alloc (New.refl w) (Nat.le_refl _) _
  have HQ := hid (alloc_block w (.cells (recCells r (.slice bp r.before.size bc) (.slice ap r.after.size ac) (.slice up r.units.length uc)) 36))
  have HN := hid (h.trans na)
  have HNO : Hid (¬ Ok W r) := hid (fun ho => by rw [ho.valid] at hv; cases hv)
  clear h b9 a9 u9 hr hv na
  go_enter Try.func62, Try.ntmps62
  go_wp2_with fail
  refine (valid_any r _ _ _ _ (HR.out.new HN.out)).mono ?_
  rintro e w2 ⟨rfl, n2⟩
  rw [HV.out]
  have HN2 := hid n2
  clear n2
  go_wp2
  go_ret
  exact .inl ⟨HNO.out, rfl, HN.out.trans HN2.out⟩
set_option maxRecDepth 100000 in
set_option maxHeartbeats 2000000 in
theorem add_zero (w0 : World) (wb : Nat) (S : WSh) (W : PW) (r : Rec) (bv av uv : Value) (w : World) (h : New w0 w) (hr : RecAt w0 r bv av uv) (hv : validB r = true) (hu : r.unit = 0) (h6 : r.kind ≠ 6) (h7 : r.kind ≠ 7) :
    Calls Try.prog 62 #[.pointer (some ⟨wb, 0, none⟩), .agg (recCells r bv av uv)] w (AddIs w0 wb S W r) := by
  obtain ⟨⟨bp, bc, rfl, b7, b8, b9⟩, ⟨ap, ac, rfl, a7, a8, a9⟩, ⟨up, uc, rfl, u7, u8, u9⟩⟩ := id hr
  have HR := hid hr
  have HV := hid hv
  have na : New w (w.alloc (.cells (recCells r (.slice bp r.before.size bc) (.slice ap r.after.size ac) (.slice up r.units.length uc)) 36)) := Below.alloc (New.refl w) (Nat.le_refl _) _
  have HQ := hid (alloc_block w (.cells (recCells r (.slice bp r.before.size bc) (.slice ap r.after.size ac) (.slice up r.units.length uc)) 36))
  have HN := hid (h.trans na)
  have HNO : Hid (¬ Ok W r) := hid (fun ho => (ho.zero hu).elim h6 h7)
  have t0 : (r.unit == 0) = true := by simpa using hu
  have t6 : (r.kind == 6) = false := by simpa using h6
  have t7 : (r.kind == 7) = false := by simpa using h7
  clear h b9 a9 u9 hr hv na hu h6 h7
  go_enter Try.func62, Try.ntmps62
  go_wp2_with fail
  refine (valid_any r _ _ _ _ (HR.out.new HN.out)).mono ?_
  rintro e w2 ⟨rfl, n2⟩
  rw [HV.out]
  have HN2 := hid n2
  have Q2 := hid ((Below.block n2 w.heap.size (Array.getElem?_eq_some_iff.1 HQ.out).1).trans HQ.out)
  obtain ⟨mq0, mq1, mq2, mq3, mq4, mq5, mq6, mq7, mq8, mq9⟩ := rec_box Q2.out
  clear n2
  go_wp2
  go_ret
  exact .inl ⟨HNO.out, rfl, HN.out.trans HN2.out⟩
end Go.Proofs.Ytmchbciofdokfaa
