/- A call on both sides: Set (printed by pdoes.py). A call on both sides: Page (printed by pdoes.py). A call on both sides: Append (printed by pdoes.py). -/
import Derived.Test.YtdccbceaajnajaaGreatS23
namespace Go.Proofs.YtdccbceaajnajaaGreat
open Go.RowKit
set_option linter.unusedSimpArgs false
set_option linter.unusedVariables false

set_option maxHeartbeats 4000000 in
set_option maxRecDepth 100000 in
theorem does_set (w0 : World) (x b : Nat) (ow : Option Nat) (tb : Nat) (ot : Option Nat) (pb : Nat) (os : Option Nat) (rb : Nat) (rw : Option Nat) (rp : Nat) (fo : Option Nat) (A : ADisk) (T : ATape) (P : APool) (N i : Nat) (m : Move) (p : Option Addr) (c : Nat) (w : World) (B : Both w0 w x b ow tb ot pb os rb rw rp fo A T P) (F : Fine N i A T P) (hd : A.down = false) (hi : i ≤ 1000) (hm : Bytes w0 (.slice p m.bytes.size c) m.bytes) (hmb : m.bytes.size ≤ 300) (hn : m.n ≤ 2 ^ 63 - 1) (hK : kindOf m = 2) :
    Calls Tryz.prog 9 #[.pointer (some ⟨x, 0, none⟩), .agg (moveCells m p c)] w (DoesBack w0 x b tb pb rb rp N i m A T P w) := by
  have hu : Hid (∀ k, callU m A T P k = setU A T P m.n (fillB m.bytes) m.stamp k) := hid fun k => by unfold callU; simp only [hK]; rfl
  have t0 : ((IntKind.u64.wrap m.kind).tmod 7 == 0) = false := by have := hK; unfold kindOf at this; rw [this]; rfl
  have t1 : ((IntKind.u64.wrap m.kind).tmod 7 == 1) = false := by have := hK; unfold kindOf at this; rw [this]; rfl
  have t2 : ((IntKind.u64.wrap m.kind).tmod 7 == 2) = true := by have := hK; unfold kindOf at this; rw [this]; rfl
  have t3 : ((IntKind.u64.wrap m.kind).tmod 7 == 3) = false := by have := hK; unfold kindOf at this; rw [this]; rfl
  have t4 : ((IntKind.u64.wrap m.kind).tmod 7 == 4) = false := by have := hK; unfold kindOf at this; rw [this]; rfl
  have t5 : ((IntKind.u64.wrap m.kind).tmod 7 == 5) = false := by have := hK; unfold kindOf at this; rw [this]; rfl
  have t6 : ((IntKind.u64.wrap m.kind).tmod 7 == 6) = false := by have := hK; unfold kindOf at this; rw [this]; rfl
  have HF := hid F
  have HD := hid hd
  have HI := hid hi
  have HM := hid hm
  have HMB := hid hmb
  have HN := hid hn
  have HND := hid B.sys.pool.nodup
  have HL : Hid (P.frames.length ≤ 16) := hid (Nat.le_trans F.len F.most)
  have HL2 : Hid (P.frames.length ≤ 100000) := hid (by have := HL.out; omega)
  have HZ2 : Hid (2 ≤ P.size) := hid (by rw [F.size]; exact F.two)
  have HZ : Hid (P.size ≠ 0) := hid (by have := HZ2.out; omega)
  have HR : Hid (P.reads ≤ 1000000000) := hid (by have := F.reads; omega)
  have HT : Hid (T.recs.length ≤ 1000) := hid (Nat.le_trans F.recs hi)
  have HT6 : Hid (T.recs.length ≤ 1000000) := hid (by have := HT.out; omega)
  have HT3 : Hid (T.recs.length < 3000) := hid (by have := HT.out; omega)
  have HM6 : Hid (i * 40 ≤ 1000000) := hid (by omega)
  have HM5 : Hid (i * 40 ≤ 50000) := hid (by omega)
  have HM9 : Hid (i * 40 ≤ 90000) := hid (by omega)
  have HLIM := hid F.lim
  have HOK := hid F.ok
  have HPN := hid F.pages
  have HM10 : Hid (i * 40 ≤ 100000) := hid (by omega)
  have HB1 : Hid (A.falls ≤ 1000000000) := hid (by have := F.lim.falls; omega)
  have HB2 : Hid (A.acts ≤ 1000000000) := hid (by have := F.lim.acts; omega)
  have HB3 : Hid (A.waits.length ≤ 1000000000) := hid (by have := F.lim.waits; omega)
  have na := (New.refl w).alloc (moveCells m p c) 31
  have B1 := hid (B.two.newer na)
  have NW1 := hid na
  have HQ := hid (heap_alloc_new w (.cells (moveCells m p c) 31))
  have HK0 := hid (fun k (h : (w.alloc (.cells (moveCells m p c) 31)).heap.size ≤ k) => frames_lt B1.out.sys h)
  generalize hw1 : w.alloc (.cells (moveCells m p c) 31) = w1 at *
  generalize hq : w.heap.size = q at *
  have HW1 := hid hw1
  obtain ⟨mc0, mc1, mc2, mc3⟩ := move_cells HQ.out
  clear F hd hi hm hmb hn hK B na
  go_enter Tryz.func9, Tryz.ntmps9
  have HV1 := hid (HM.out.new B1.out.sys.log.new)
  go_wp2_with fail
  refine (filled_any _ m.bytes _ HV1.out (by have := HMB.out; omega)).mono ?_
  rintro e wa ⟨u, rfl, na, hcase⟩
  have HKP := hid ((kept_filled HM.out hcase).newer (New.refl wa).drew)
  have Ba := hid (B1.out.newer na)
  have Qa := hid ((Below.block na q (Array.getElem?_eq_some_iff.1 HQ.out).1).trans HQ.out)
  have HSZ := hid na.size
  have NA := hid na
  clear hcase na mc0 mc1 mc2 mc3
  have Bd := hid (Ba.out.newer (New.refl wa).drew)
  have Qd := hid ((Below.block (New.refl wa).drew q (Array.getElem?_eq_some_iff.1 Qa.out).1).trans Qa.out)
  have hS := eight Bd.out.cells (move_cells Qd.out)
  go_wp2_with fail
  try clear mc0 mc1 mc2 mc3
  go_region_held3 (fun w' : World => w'.cell? ⟨x, 0, none⟩ = some (.pointer (some ⟨b, 0, none⟩)) ∧ w'.cell? ⟨x, 1, none⟩ = some (.pointer (some ⟨tb, 0, none⟩)) ∧ w'.cell? ⟨x, 2, none⟩ = some (.pointer (some ⟨pb, 0, none⟩)) ∧ w'.cell? ⟨x, 3, none⟩ = some (.pointer (some ⟨rp, 0, none⟩)) ∧ w'.cell? ⟨q, 0, none⟩ = some (.int .i64 m.kind) ∧ w'.cell? ⟨q, 1, none⟩ = some (.int .i64 m.n) ∧ w'.cell? ⟨q, 2, none⟩ = some (.int .i64 m.stamp) ∧ w'.cell? ⟨q, 3, none⟩ = some (.slice p m.bytes.size c)) (exact hS)
    (first
      | (go_at_call 28; refine (set_any w0 b ow tb ot pb os A T P m.n u (fillB m.bytes) m.stamp (i * 40) _ Bd.out.sys (HKP.out.bytes Bd.out.sys.log.new) (fun w' ht => (HKP.out.only (Bd.out.sys.only ht) sys5).bytes (Bd.out.sys.newT ht)) HL2.out HZ.out HOK.out HLIM.out HM9.out HR.out HT6.out).mono ?_; rintro e w2 ⟨k, ow2, os2, hk, rfl, S2, T2⟩; have HKK := hid (HK0.out k (Nat.le_trans HSZ.out hk)); have HKP2 := hid (HKP.out.only (Bd.out.sys.only T2) sys5); have O2 := Bd.out.sys.only T2; have B2 := hid (Bd.out.left S2 O2); have Q2 := hid (O2.cells Qd.out sys31); have hS := eight B2.out.cells (move_cells Q2.out))
      | (go_at_call 29; refine (refSet_any w0 rb rw rp fo A T P m.n u (fillB m.bytes) m.stamp k (i * 40) _ B2.out.ref (HKP2.out.bytes B2.out.ref.new) (fun w' ht => (HKP2.out.only (B2.out.ref.only ht) ref5).bytes (B2.out.ref.newT ht)) HL2.out HZ2.out HND.out (useU_nodup HND.out HKK.out) HOK.out HD.out HLIM.out HM9.out HR.out HT6.out).mono ?_; rintro e w3 ⟨rw3, fo3, rfl, S3, T3⟩; have O3 := B2.out.ref.only T3; have B3 := hid (B2.out.right S3 O3); have Q3 := hid (O3.cells Q2.out ref31); have hS := eight B3.out.cells (move_cells Q3.out)))

  have HOO : Only bothT w w3 := Only.join (NW1.out.trans NA.out).drew O2 (New.refl w2) O3
  go_wp2
  go_ret2
  exact ⟨k, _, _, _, _, _, HKK.out, by rw [hu.out]; simp, by rw [hu.out]; exact B3.out.both, HOO⟩

end Go.Proofs.YtdccbceaajnajaaGreat

namespace Go.Proofs.YtdccbceaajnajaaGreat
open Go.RowKit
set_option linter.unusedSimpArgs false
set_option linter.unusedVariables false

set_option maxHeartbeats 4000000 in
set_option maxRecDepth 100000 in
theorem does_page (w0 : World) (x b : Nat) (ow : Option Nat) (tb : Nat) (ot : Option Nat) (pb : Nat) (os : Option Nat) (rb : Nat) (rw : Option Nat) (rp : Nat) (fo : Option Nat) (A : ADisk) (T : ATape) (P : APool) (N i : Nat) (m : Move) (p : Option Addr) (c : Nat) (w : World) (B : Both w0 w x b ow tb ot pb os rb rw rp fo A T P) (F : Fine N i A T P) (hd : A.down = false) (hi : i ≤ 1000) (hm : Bytes w0 (.slice p m.bytes.size c) m.bytes) (hmb : m.bytes.size ≤ 300) (hn : m.n ≤ 2 ^ 63 - 1) (hK : kindOf m = 1) :
    Calls Tryz.prog 9 #[.pointer (some ⟨x, 0, none⟩), .agg (moveCells m p c)] w (DoesBack w0 x b tb pb rb rp N i m A T P w) := by
  have hu : Hid (∀ k, callU m A T P k = pageU A T P m.n k) := hid fun k => by unfold callU; simp only [hK]; rfl
  have t0 : ((IntKind.u64.wrap m.kind).tmod 7 == 0) = false := by have := hK; unfold kindOf at this; rw [this]; rfl
  have t1 : ((IntKind.u64.wrap m.kind).tmod 7 == 1) = true := by have := hK; unfold kindOf at this; rw [this]; rfl
  have t2 : ((IntKind.u64.wrap m.kind).tmod 7 == 2) = false := by have := hK; unfold kindOf at this; rw [this]; rfl
  have t3 : ((IntKind.u64.wrap m.kind).tmod 7 == 3) = false := by have := hK; unfold kindOf at this; rw [this]; rfl
  have t4 : ((IntKind.u64.wrap m.kind).tmod 7 == 4) = false := by have := hK; unfold kindOf at this; rw [this]; rfl
  have t5 : ((IntKind.u64.wrap m.kind).tmod 7 == 5) = false := by have := hK; unfold kindOf at this; rw [this]; rfl
  have t6 : ((IntKind.u64.wrap m.kind).tmod 7 == 6) = false := by have := hK; unfold kindOf at this; rw [this]; rfl
  have HF := hid F
  have HD := hid hd
  have HI := hid hi
  have HM := hid hm
  have HMB := hid hmb
  have HN := hid hn
  have HND := hid B.sys.pool.nodup
  have HL : Hid (P.frames.length ≤ 16) := hid (Nat.le_trans F.len F.most)
  have HL2 : Hid (P.frames.length ≤ 100000) := hid (by have := HL.out; omega)
  have HZ2 : Hid (2 ≤ P.size) := hid (by rw [F.size]; exact F.two)
  have HZ : Hid (P.size ≠ 0) := hid (by have := HZ2.out; omega)
  have HR : Hid (P.reads ≤ 1000000000) := hid (by have := F.reads; omega)
  have HT : Hid (T.recs.length ≤ 1000) := hid (Nat.le_trans F.recs hi)
  have HT6 : Hid (T.recs.length ≤ 1000000) := hid (by have := HT.out; omega)
  have HT3 : Hid (T.recs.length < 3000) := hid (by have := HT.out; omega)
  have HM6 : Hid (i * 40 ≤ 1000000) := hid (by omega)
  have HM5 : Hid (i * 40 ≤ 50000) := hid (by omega)
  have HM9 : Hid (i * 40 ≤ 90000) := hid (by omega)
  have HLIM := hid F.lim
  have HOK := hid F.ok
  have HPN := hid F.pages
  have HM10 : Hid (i * 40 ≤ 100000) := hid (by omega)
  have HB1 : Hid (A.falls ≤ 1000000000) := hid (by have := F.lim.falls; omega)
  have HB2 : Hid (A.acts ≤ 1000000000) := hid (by have := F.lim.acts; omega)
  have HB3 : Hid (A.waits.length ≤ 1000000000) := hid (by have := F.lim.waits; omega)
  have na := (New.refl w).alloc (moveCells m p c) 31
  have B1 := hid (B.two.newer na)
  have NW1 := hid na
  have HQ := hid (heap_alloc_new w (.cells (moveCells m p c) 31))
  have HK0 := hid (fun k (h : (w.alloc (.cells (moveCells m p c) 31)).heap.size ≤ k) => frames_lt B1.out.sys h)
  generalize hw1 : w.alloc (.cells (moveCells m p c) 31) = w1 at *
  generalize hq : w.heap.size = q at *
  have HW1 := hid hw1
  obtain ⟨mc0, mc1, mc2, mc3⟩ := move_cells HQ.out
  clear F hd hi hm hmb hn hK B na
  go_enter Tryz.func9, Tryz.ntmps9
  have Bd := hid (B1.out.newer (New.refl w1).drew)
  have Qd := hid ((Below.block (New.refl w1).drew q (Array.getElem?_eq_some_iff.1 HQ.out).1).trans HQ.out)
  have hS := eight Bd.out.cells (move_cells Qd.out)
  go_wp2_with fail
  clear mc0 mc1 mc2 mc3
  go_region_held3 (fun w' : World => w'.cell? ⟨x, 0, none⟩ = some (.pointer (some ⟨b, 0, none⟩)) ∧ w'.cell? ⟨x, 1, none⟩ = some (.pointer (some ⟨tb, 0, none⟩)) ∧ w'.cell? ⟨x, 2, none⟩ = some (.pointer (some ⟨pb, 0, none⟩)) ∧ w'.cell? ⟨x, 3, none⟩ = some (.pointer (some ⟨rp, 0, none⟩)) ∧ w'.cell? ⟨q, 0, none⟩ = some (.int .i64 m.kind) ∧ w'.cell? ⟨q, 1, none⟩ = some (.int .i64 m.n) ∧ w'.cell? ⟨q, 2, none⟩ = some (.int .i64 m.stamp) ∧ w'.cell? ⟨q, 3, none⟩ = some (.slice p m.bytes.size c)) (exact hS)
    (first
      | (go_at_call 17; refine (page_any w0 b ow tb ot pb os A T P m.n (i * 40) _ Bd.out.sys HL2.out HZ.out HOK.out HLIM.out HM9.out HR.out).mono ?_; rintro e w2 ⟨k, ow2, os2, hk, hg, S2, T2, -, -⟩; obtain ⟨p2, n2, c2, rfl, hct⟩ := hg.gave; have HKK := hid (HK0.out k hk); have C2 := hid hct; have O2 := Bd.out.sys.only T2; have B2 := hid (Bd.out.left S2 O2); have Q2 := hid (O2.cells Qd.out sys31); have hS := eight B2.out.cells (move_cells Q2.out)))
  have HO2 := hid O2
  clear hS T2 S2 O2 hct hg hk Bd Qd
  have Be := hid (B2.out.newer (New.refl w2).drew)
  have Qe := hid ((Below.block (New.refl w2).drew q (Array.getElem?_eq_some_iff.1 Q2.out).1).trans Q2.out)
  have CE := hid (C2.out.new (New.refl w2).drew)
  have hS := eight Be.out.cells (move_cells Qe.out)
  go_wp2_with fail
  go_region_held3 (fun w' : World => w'.cell? ⟨x, 0, none⟩ = some (.pointer (some ⟨b, 0, none⟩)) ∧ w'.cell? ⟨x, 1, none⟩ = some (.pointer (some ⟨tb, 0, none⟩)) ∧ w'.cell? ⟨x, 2, none⟩ = some (.pointer (some ⟨pb, 0, none⟩)) ∧ w'.cell? ⟨x, 3, none⟩ = some (.pointer (some ⟨rp, 0, none⟩)) ∧ w'.cell? ⟨q, 0, none⟩ = some (.int .i64 m.kind) ∧ w'.cell? ⟨q, 1, none⟩ = some (.int .i64 m.n) ∧ w'.cell? ⟨q, 2, none⟩ = some (.int .i64 m.stamp) ∧ w'.cell? ⟨q, 3, none⟩ = some (.slice p m.bytes.size c)) (exact hS)
    (first
      | (go_at_call 27; refine (refPage_any w0 rb rw rp fo A T P m.n k (i * 40) _ Be.out.ref HL2.out HZ2.out HND.out HOK.out HD.out HLIM.out HM9.out HR.out).mono ?_; rintro e w3 ⟨rw3, fo3, hg, S3, T3⟩; obtain ⟨p3, n3, c3, rfl, hct⟩ := hg.gave; have C3 := hid hct; have O3 := Be.out.ref.only T3; have CF := hid (O3.content ref5 CE.out); have B3 := hid (Be.out.right S3 O3); have Q3 := hid (O3.cells Qe.out ref31); have hS := eight B3.out.cells (move_cells Q3.out)))
  have HO3 := hid O3
  clear hS T3 S3 O3 hct hg Be Qe
  have kc1 := CF.out.1.convert (P := Tryz.prog) 29 5 9 Tryz.underlying29 Tryz.underlying5 Tryz.underlying9
  have kc2 := C3.out.1.convert (P := Tryz.prog) 29 5 9 Tryz.underlying29 Tryz.underlying5 Tryz.underlying9

  have HOO : Only bothT w w3 := Only.join NW1.out.drew HO2.out (New.refl w2).drew HO3.out
  go_wp2
  go_ret2
  exact ⟨k, _, _, _, _, _, HKK.out, by rw [hu.out]; simp, by rw [hu.out]; exact B3.out.both, HOO⟩

end Go.Proofs.YtdccbceaajnajaaGreat

namespace Go.Proofs.YtdccbceaajnajaaGreat
open Go.RowKit
set_option linter.unusedSimpArgs false
set_option linter.unusedVariables false

set_option maxHeartbeats 4000000 in
set_option maxRecDepth 100000 in
theorem does_append (w0 : World) (x b : Nat) (ow : Option Nat) (tb : Nat) (ot : Option Nat) (pb : Nat) (os : Option Nat) (rb : Nat) (rw : Option Nat) (rp : Nat) (fo : Option Nat) (A : ADisk) (T : ATape) (P : APool) (N i : Nat) (m : Move) (p : Option Addr) (c : Nat) (w : World) (B : Both w0 w x b ow tb ot pb os rb rw rp fo A T P) (F : Fine N i A T P) (hd : A.down = false) (hi : i ≤ 1000) (hm : Bytes w0 (.slice p m.bytes.size c) m.bytes) (hmb : m.bytes.size ≤ 300) (hn : m.n ≤ 2 ^ 63 - 1) (hK : kindOf m = 0) :
    Calls Tryz.prog 9 #[.pointer (some ⟨x, 0, none⟩), .agg (moveCells m p c)] w (DoesBack w0 x b tb pb rb rp N i m A T P w) := by
  have hu : Hid (∀ k, callU m A T P k = appU A T P (noteR (cutB m.bytes))) := hid fun k => by unfold callU; simp only [hK]; rfl
  have t0 : ((IntKind.u64.wrap m.kind).tmod 7 == 0) = true := by have := hK; unfold kindOf at this; rw [this]; rfl
  have t1 : ((IntKind.u64.wrap m.kind).tmod 7 == 1) = false := by have := hK; unfold kindOf at this; rw [this]; rfl
  have t2 : ((IntKind.u64.wrap m.kind).tmod 7 == 2) = false := by have := hK; unfold kindOf at this; rw [this]; rfl
  have t3 : ((IntKind.u64.wrap m.kind).tmod 7 == 3) = false := by have := hK; unfold kindOf at this; rw [this]; rfl
  have t4 : ((IntKind.u64.wrap m.kind).tmod 7 == 4) = false := by have := hK; unfold kindOf at this; rw [this]; rfl
  have t5 : ((IntKind.u64.wrap m.kind).tmod 7 == 5) = false := by have := hK; unfold kindOf at this; rw [this]; rfl
  have t6 : ((IntKind.u64.wrap m.kind).tmod 7 == 6) = false := by have := hK; unfold kindOf at this; rw [this]; rfl
  have HF := hid F
  have HD := hid hd
  have HI := hid hi
  have HM := hid hm
  have HMB := hid hmb
  have HN := hid hn
  have HND := hid B.sys.pool.nodup
  have HL : Hid (P.frames.length ≤ 16) := hid (Nat.le_trans F.len F.most)
  have HL2 : Hid (P.frames.length ≤ 100000) := hid (by have := HL.out; omega)
  have HZ2 : Hid (2 ≤ P.size) := hid (by rw [F.size]; exact F.two)
  have HZ : Hid (P.size ≠ 0) := hid (by have := HZ2.out; omega)
  have HR : Hid (P.reads ≤ 1000000000) := hid (by have := F.reads; omega)
  have HT : Hid (T.recs.length ≤ 1000) := hid (Nat.le_trans F.recs hi)
  have HT6 : Hid (T.recs.length ≤ 1000000) := hid (by have := HT.out; omega)
  have HT3 : Hid (T.recs.length < 3000) := hid (by have := HT.out; omega)
  have HM6 : Hid (i * 40 ≤ 1000000) := hid (by omega)
  have HM5 : Hid (i * 40 ≤ 50000) := hid (by omega)
  have HM9 : Hid (i * 40 ≤ 90000) := hid (by omega)
  have HLIM := hid F.lim
  have HOK := hid F.ok
  have HPN := hid F.pages
  have HM10 : Hid (i * 40 ≤ 100000) := hid (by omega)
  have HB1 : Hid (A.falls ≤ 1000000000) := hid (by have := F.lim.falls; omega)
  have HB2 : Hid (A.acts ≤ 1000000000) := hid (by have := F.lim.acts; omega)
  have HB3 : Hid (A.waits.length ≤ 1000000000) := hid (by have := F.lim.waits; omega)
  have na := (New.refl w).alloc (moveCells m p c) 31
  have B1 := hid (B.two.newer na)
  have NW1 := hid na
  have HQ := hid (heap_alloc_new w (.cells (moveCells m p c) 31))
  have HK0 := hid (fun k (h : (w.alloc (.cells (moveCells m p c) 31)).heap.size ≤ k) => frames_lt B1.out.sys h)
  generalize hw1 : w.alloc (.cells (moveCells m p c) 31) = w1 at *
  generalize hq : w.heap.size = q at *
  have HW1 := hid hw1
  obtain ⟨mc0, mc1, mc2, mc3⟩ := move_cells HQ.out
  clear F hd hi hm hmb hn hK B na
  go_enter Tryz.func9, Tryz.ntmps9
  have HV1 := hid (HM.out.new B1.out.sys.log.new)
  obtain ⟨hb1, hb2, hb3⟩ : (0 : Int) ≤ min (m.bytes.size : Int) 200 ∧ min (m.bytes.size : Int) 200 ≤ (c : Int) ∧ (min (m.bytes.size : Int) 200).toNat = min m.bytes.size 200 := by
    obtain ⟨p', c', e, h1, h2, -⟩ := HV1.out
    injection e with _ _ e
    subst e
    refine ⟨by omega, by omega, by omega⟩
  have kc := (Bytes.take HV1.out (min m.bytes.size 200) (Nat.min_le_left _ _)).convert (P := Tryz.prog) 29 5 9 Tryz.underlying29 Tryz.underlying5 Tryz.underlying9
  rw [show m.bytes.extract 0 (min m.bytes.size 200) = cutB m.bytes from rfl] at kc
  go_wp2_with fail
  have nb := (New.refl w1).alloc (noteC (cutB m.bytes)) 70
  have kz := heap_alloc_new w1 (.cells (noteC (cutB m.bytes)) 70)
  change Code.wp _ _ _ _ (w1.alloc (.cells (noteC (cutB m.bytes)) 70))
  generalize w1.alloc (.cells (noteC (cutB m.bytes)) 70) = wb at *
  have HNZ : Hid (¬ alls b ow tb ot pb os P w1.heap.size) := hid (fun h => absurd (alls_lt B1.out.sys h) (Nat.lt_irrefl _))
  generalize w1.heap.size = z at *
  have nbd := nb.drew
  have NBD := hid nbd
  have Bd := hid (B1.out.newer nbd)
  have Zd := hid (show wb.drew.heap[z]? = some (.cells (noteC (cutB m.bytes)) 70 (0, 0)) from kz)
  have hS := note_cells Bd.out.cells.2.1 Bd.out.cells.2.2.2 Zd.out
  clear mc0 mc1 mc2 mc3 kc hb1 hb2 hb3 nb nbd kz
  go_region_held3 (fun w : World => w.cell? ⟨x, 1, none⟩ = some (.pointer (some ⟨tb, 0, none⟩)) ∧ w.cell? ⟨x, 3, none⟩ = some (.pointer (some ⟨rp, 0, none⟩)) ∧ w.cell? ⟨z, 0, none⟩ = some (.int .i64 7) ∧ w.cell? ⟨z, 1, none⟩ = some (.int .i64 0) ∧ w.cell? ⟨z, 2, none⟩ = some (.int .i64 0) ∧ w.cell? ⟨z, 3, none⟩ = some (.int .i64 0) ∧ w.cell? ⟨z, 4, none⟩ = some (.slice none 0 0) ∧ w.cell? ⟨z, 5, none⟩ = some (.slice none 0 0) ∧ w.cell? ⟨z, 6, none⟩ = some (.int .i64 0) ∧ w.cell? ⟨z, 7, none⟩ = some (.int .i64 0) ∧ w.cell? ⟨z, 8, none⟩ = some (.string (cutB m.bytes)) ∧ w.cell? ⟨z, 9, none⟩ = some (.slice none 0 0)) (exact hS)
    (first
      | (go_at_call 25; refine (append_any w0 b ow tb ot pb os A T P (i * 40) (cutB m.bytes) _ Bd.out.sys HLIM.out HM6.out HT3.out).mono ?_; rintro e w2 ⟨ow2, ot2, rfl, S2, T2⟩; have O2 := Bd.out.sys.only T2; have B2 := hid (Bd.out.left S2 O2); have Z2 := hid ((T2.block z (Array.getElem?_eq_some_iff.1 Zd.out).1 HNZ.out).trans Zd.out); have hS := note_cells B2.out.cells.2.1 B2.out.cells.2.2.2 Z2.out))
  have HO2 := hid O2
  clear hS T2 S2 O2 Bd Zd
  have Be := hid (B2.out.newer (New.refl w2).drew)
  have Ze := hid (show w2.drew.heap[z]? = some (.cells (noteC (cutB m.bytes)) 70 (0, 0)) from Z2.out)
  have hS := note_cells Be.out.cells.2.1 Be.out.cells.2.2.2 Ze.out
  go_wp2_with fail
  go_region_held3 (fun w : World => w.cell? ⟨x, 1, none⟩ = some (.pointer (some ⟨tb, 0, none⟩)) ∧ w.cell? ⟨x, 3, none⟩ = some (.pointer (some ⟨rp, 0, none⟩)) ∧ w.cell? ⟨z, 0, none⟩ = some (.int .i64 7) ∧ w.cell? ⟨z, 1, none⟩ = some (.int .i64 0) ∧ w.cell? ⟨z, 2, none⟩ = some (.int .i64 0) ∧ w.cell? ⟨z, 3, none⟩ = some (.int .i64 0) ∧ w.cell? ⟨z, 4, none⟩ = some (.slice none 0 0) ∧ w.cell? ⟨z, 5, none⟩ = some (.slice none 0 0) ∧ w.cell? ⟨z, 6, none⟩ = some (.int .i64 0) ∧ w.cell? ⟨z, 7, none⟩ = some (.int .i64 0) ∧ w.cell? ⟨z, 8, none⟩ = some (.string (cutB m.bytes)) ∧ w.cell? ⟨z, 9, none⟩ = some (.slice none 0 0)) (exact hS)
    (first
      | (go_at_call 26; refine (refAppend_any w0 rb rw rp fo A T P (i * 40) (cutB m.bytes) _ Be.out.ref HLIM.out HM6.out HT3.out).mono ?_; rintro e w3 ⟨rw3, rfl, S3, T3⟩; have O3 := Be.out.ref.only T3; have B3 := hid (Be.out.right S3 O3); have Z3 := hid (O3.cells Ze.out ref70); have hS := note_cells B3.out.cells.2.1 B3.out.cells.2.2.2 Z3.out))
  have HO3 := hid O3
  clear hS T3 S3 O3 Be Ze

  have HOO : Only bothT w w3 := Only.join (NW1.out.trans NBD.out) HO2.out (New.refl w2).drew HO3.out
  go_wp2
  go_ret2
  exact ⟨z, _, _, _, _, _, HK0.out _ (Nat.le_refl _), by rw [hu.out]; simp, by rw [hu.out]; exact B3.out.both, HOO⟩

end Go.Proofs.YtdccbceaajnajaaGreat
