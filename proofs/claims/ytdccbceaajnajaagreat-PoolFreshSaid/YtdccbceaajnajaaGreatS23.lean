/- A call on both sides: Out (printed by pdoes.py). A call on both sides: Clean (printed by pdoes.py). A call on both sides: Force (printed by pdoes.py). A call on both sides: Arm (printed by pdoes.py). Bytes that are handed to a call, and what a page gives. -/
import Derived.Test.YtdccbceaajnajaaGreatS18
namespace Go.Proofs.YtdccbceaajnajaaGreat
open Go.RowKit
set_option linter.unusedSimpArgs false
set_option linter.unusedVariables false

set_option maxHeartbeats 4000000 in
set_option maxRecDepth 100000 in
theorem does_out (w0 : World) (x b : Nat) (ow : Option Nat) (tb : Nat) (ot : Option Nat) (pb : Nat) (os : Option Nat) (rb : Nat) (rw : Option Nat) (rp : Nat) (fo : Option Nat) (A : ADisk) (T : ATape) (P : APool) (N i : Nat) (m : Move) (p : Option Addr) (c : Nat) (w : World) (B : Both w0 w x b ow tb ot pb os rb rw rp fo A T P) (F : Fine N i A T P) (hd : A.down = false) (hi : i ≤ 1000) (hm : Bytes w0 (.slice p m.bytes.size c) m.bytes) (hmb : m.bytes.size ≤ 300) (hn : m.n ≤ 2 ^ 63 - 1) (hK : kindOf m = 3) :
    Calls Tryz.prog 9 #[.pointer (some ⟨x, 0, none⟩), .agg (moveCells m p c)] w (DoesBack w0 x b tb pb rb rp N i m A T P w) := by
  have hu : Hid (∀ k, callU m A T P k = outU A T P m.n) := hid fun k => by unfold callU; simp only [hK]; rfl
  have t0 : ((IntKind.u64.wrap m.kind).tmod 7 == 0) = false := by have := hK; unfold kindOf at this; rw [this]; rfl
  have t1 : ((IntKind.u64.wrap m.kind).tmod 7 == 1) = false := by have := hK; unfold kindOf at this; rw [this]; rfl
  have t2 : ((IntKind.u64.wrap m.kind).tmod 7 == 2) = false := by have := hK; unfold kindOf at this; rw [this]; rfl
  have t3 : ((IntKind.u64.wrap m.kind).tmod 7 == 3) = true := by have := hK; unfold kindOf at this; rw [this]; rfl
  have t4 : ((IntKind.u64.wrap m.kind).tmod 7 == 4) = false := by have := hK; unfold kindOf at this; rw [this]; rfl
  have t5 : ((IntKind.u64.wrap m.kind).tmod 7 == 5) = false := by have := hK; unfold kindOf at this; rw [this]; rfl
  have t6 : ((IntKind.u64.wrap m.kind).tmod 7 == 6) = false := by have := hK; unfold kindOf at this; rw [this]; rfl
  have HF := hid F
  have HD := hid hd
  have HI := hid hi
  have HM := hid hm
  have HMB := hid hmb
  have HN := hid hn
  have HND := hid B.sys.pool.nodup
  have HL : Hid (P.frames.length ≤ 16) := hid (Nat.le_trans F.len F.most)
  have HL2 : Hid (P.frames.length ≤ 100000) := hid (by have := HL.out; omega)
  have HZ2 : Hid (2 ≤ P.size) := hid (by rw [F.size]; exact F.two)
  have HZ : Hid (P.size ≠ 0) := hid (by have := HZ2.out; omega)
  have HR : Hid (P.reads ≤ 1000000000) := hid (by have := F.reads; omega)
  have HT : Hid (T.recs.length ≤ 1000) := hid (Nat.le_trans F.recs hi)
  have HT6 : Hid (T.recs.length ≤ 1000000) := hid (by have := HT.out; omega)
  have HT3 : Hid (T.recs.length < 3000) := hid (by have := HT.out; omega)
  have HM6 : Hid (i * 40 ≤ 1000000) := hid (by omega)
  have HM5 : Hid (i * 40 ≤ 50000) := hid (by omega)
  have HM9 : Hid (i * 40 ≤ 90000) := hid (by omega)
  have HLIM := hid F.lim
  have HOK := hid F.ok
  have HPN := hid F.pages
  have HM10 : Hid (i * 40 ≤ 100000) := hid (by omega)
  have HB1 : Hid (A.falls ≤ 1000000000) := hid (by have := F.lim.falls; omega)
  have HB2 : Hid (A.acts ≤ 1000000000) := hid (by have := F.lim.acts; omega)
  have HB3 : Hid (A.waits.length ≤ 1000000000) := hid (by have := F.lim.waits; omega)
  have na := (New.refl w).alloc (moveCells m p c) 31
  have B1 := hid (B.two.newer na)
  have NW1 := hid na
  have HQ := hid (heap_alloc_new w (.cells (moveCells m p c) 31))
  have HK0 := hid (fun k (h : (w.alloc (.cells (moveCells m p c) 31)).heap.size ≤ k) => frames_lt B1.out.sys h)
  generalize hw1 : w.alloc (.cells (moveCells m p c) 31) = w1 at *
  generalize hq : w.heap.size = q at *
  have HW1 := hid hw1
  obtain ⟨mc0, mc1, mc2, mc3⟩ := move_cells HQ.out
  clear F hd hi hm hmb hn hK B na
  go_enter Tryz.func9, Tryz.ntmps9
  have Bd := hid (B1.out.newer (New.refl w1).drew)
  have Qd := hid ((Below.block (New.refl w1).drew q (Array.getElem?_eq_some_iff.1 HQ.out).1).trans HQ.out)
  have hS := eight Bd.out.cells (move_cells Qd.out)
  go_wp2_with fail
  try clear mc0 mc1 mc2 mc3
  go_region_held3 (fun w' : World => w'.cell? ⟨x, 0, none⟩ = some (.pointer (some ⟨b, 0, none⟩)) ∧ w'.cell? ⟨x, 1, none⟩ = some (.pointer (some ⟨tb, 0, none⟩)) ∧ w'.cell? ⟨x, 2, none⟩ = some (.pointer (some ⟨pb, 0, none⟩)) ∧ w'.cell? ⟨x, 3, none⟩ = some (.pointer (some ⟨rp, 0, none⟩)) ∧ w'.cell? ⟨q, 0, none⟩ = some (.int .i64 m.kind) ∧ w'.cell? ⟨q, 1, none⟩ = some (.int .i64 m.n) ∧ w'.cell? ⟨q, 2, none⟩ = some (.int .i64 m.stamp) ∧ w'.cell? ⟨q, 3, none⟩ = some (.slice p m.bytes.size c)) (exact hS)
    (first
      | (go_at_call 30; refine (pout_any w0 b ow tb ot pb os A T P m.n (i * 40) _ Bd.out.sys HL2.out HZ.out HOK.out HLIM.out HM9.out).mono ?_; rintro e w2 ⟨ow2, rfl, S2, T2⟩; have O2 := Bd.out.sys.only T2; have B2 := hid (Bd.out.left S2 O2); have Q2 := hid (O2.cells Qd.out sys31); have hS := eight B2.out.cells (move_cells Q2.out))
      | (go_at_call 31; refine (refPOut_any w0 rb rw rp fo A T P m.n (i * 40) _ B2.out.ref HL2.out HND.out HOK.out HD.out HLIM.out HM9.out).mono ?_; rintro e w3 ⟨rw3, rfl, S3, T3, -⟩; have O3 := B2.out.ref.only T3; have B3 := hid (B2.out.right S3 O3); have Q3 := hid (O3.cells Q2.out ref31); have hS := eight B3.out.cells (move_cells Q3.out)))

  have HOO : Only bothT w w3 := Only.join NW1.out.drew O2 (New.refl w2) O3
  go_wp2
  go_ret2
  exact ⟨w1.heap.size, _, _, _, _, _, HK0.out _ (Nat.le_refl _), by rw [hu.out]; simp, by rw [hu.out]; exact B3.out.both, HOO⟩

end Go.Proofs.YtdccbceaajnajaaGreat

namespace Go.Proofs.YtdccbceaajnajaaGreat
open Go.RowKit
set_option linter.unusedSimpArgs false
set_option linter.unusedVariables false

set_option maxHeartbeats 4000000 in
set_option maxRecDepth 100000 in
theorem does_clean (w0 : World) (x b : Nat) (ow : Option Nat) (tb : Nat) (ot : Option Nat) (pb : Nat) (os : Option Nat) (rb : Nat) (rw : Option Nat) (rp : Nat) (fo : Option Nat) (A : ADisk) (T : ATape) (P : APool) (N i : Nat) (m : Move) (p : Option Addr) (c : Nat) (w : World) (B : Both w0 w x b ow tb ot pb os rb rw rp fo A T P) (F : Fine N i A T P) (hd : A.down = false) (hi : i ≤ 1000) (hm : Bytes w0 (.slice p m.bytes.size c) m.bytes) (hmb : m.bytes.size ≤ 300) (hn : m.n ≤ 2 ^ 63 - 1) (hK : kindOf m = 4) :
    Calls Tryz.prog 9 #[.pointer (some ⟨x, 0, none⟩), .agg (moveCells m p c)] w (DoesBack w0 x b tb pb rb rp N i m A T P w) := by
  have hu : Hid (∀ k, callU m A T P k = cleanU A T P) := hid fun k => by unfold callU; simp only [hK]; rfl
  have t0 : ((IntKind.u64.wrap m.kind).tmod 7 == 0) = false := by have := hK; unfold kindOf at this; rw [this]; rfl
  have t1 : ((IntKind.u64.wrap m.kind).tmod 7 == 1) = false := by have := hK; unfold kindOf at this; rw [this]; rfl
  have t2 : ((IntKind.u64.wrap m.kind).tmod 7 == 2) = false := by have := hK; unfold kindOf at this; rw [this]; rfl
  have t3 : ((IntKind.u64.wrap m.kind).tmod 7 == 3) = false := by have := hK; unfold kindOf at this; rw [this]; rfl
  have t4 : ((IntKind.u64.wrap m.kind).tmod 7 == 4) = true := by have := hK; unfold kindOf at this; rw [this]; rfl
  have t5 : ((IntKind.u64.wrap m.kind).tmod 7 == 5) = false := by have := hK; unfold kindOf at this; rw [this]; rfl
  have t6 : ((IntKind.u64.wrap m.kind).tmod 7 == 6) = false := by have := hK; unfold kindOf at this; rw [this]; rfl
  have HF := hid F
  have HD := hid hd
  have HI := hid hi
  have HM := hid hm
  have HMB := hid hmb
  have HN := hid hn
  have HND := hid B.sys.pool.nodup
  have HL : Hid (P.frames.length ≤ 16) := hid (Nat.le_trans F.len F.most)
  have HL2 : Hid (P.frames.length ≤ 100000) := hid (by have := HL.out; omega)
  have HZ2 : Hid (2 ≤ P.size) := hid (by rw [F.size]; exact F.two)
  have HZ : Hid (P.size ≠ 0) := hid (by have := HZ2.out; omega)
  have HR : Hid (P.reads ≤ 1000000000) := hid (by have := F.reads; omega)
  have HT : Hid (T.recs.length ≤ 1000) := hid (Nat.le_trans F.recs hi)
  have HT6 : Hid (T.recs.length ≤ 1000000) := hid (by have := HT.out; omega)
  have HT3 : Hid (T.recs.length < 3000) := hid (by have := HT.out; omega)
  have HM6 : Hid (i * 40 ≤ 1000000) := hid (by omega)
  have HM5 : Hid (i * 40 ≤ 50000) := hid (by omega)
  have HM9 : Hid (i * 40 ≤ 90000) := hid (by omega)
  have HLIM := hid F.lim
  have HOK := hid F.ok
  have HPN := hid F.pages
  have HM10 : Hid (i * 40 ≤ 100000) := hid (by omega)
  have HB1 : Hid (A.falls ≤ 1000000000) := hid (by have := F.lim.falls; omega)
  have HB2 : Hid (A.acts ≤ 1000000000) := hid (by have := F.lim.acts; omega)
  have HB3 : Hid (A.waits.length ≤ 1000000000) := hid (by have := F.lim.waits; omega)
  have na := (New.refl w).alloc (moveCells m p c) 31
  have B1 := hid (B.two.newer na)
  have NW1 := hid na
  have HQ := hid (heap_alloc_new w (.cells (moveCells m p c) 31))
  have HK0 := hid (fun k (h : (w.alloc (.cells (moveCells m p c) 31)).heap.size ≤ k) => frames_lt B1.out.sys h)
  generalize hw1 : w.alloc (.cells (moveCells m p c) 31) = w1 at *
  generalize hq : w.heap.size = q at *
  have HW1 := hid hw1
  obtain ⟨mc0, mc1, mc2, mc3⟩ := move_cells HQ.out
  clear F hd hi hm hmb hn hK B na
  go_enter Tryz.func9, Tryz.ntmps9
  have Bd := hid (B1.out.newer (New.refl w1).drew)
  have Qd := hid ((Below.block (New.refl w1).drew q (Array.getElem?_eq_some_iff.1 HQ.out).1).trans HQ.out)
  have hS := eight Bd.out.cells (move_cells Qd.out)
  go_wp2_with fail
  try clear mc0 mc1 mc2 mc3
  go_region_held3 (fun w' : World => w'.cell? ⟨x, 0, none⟩ = some (.pointer (some ⟨b, 0, none⟩)) ∧ w'.cell? ⟨x, 1, none⟩ = some (.pointer (some ⟨tb, 0, none⟩)) ∧ w'.cell? ⟨x, 2, none⟩ = some (.pointer (some ⟨pb, 0, none⟩)) ∧ w'.cell? ⟨x, 3, none⟩ = some (.pointer (some ⟨rp, 0, none⟩)) ∧ w'.cell? ⟨q, 0, none⟩ = some (.int .i64 m.kind) ∧ w'.cell? ⟨q, 1, none⟩ = some (.int .i64 m.n) ∧ w'.cell? ⟨q, 2, none⟩ = some (.int .i64 m.stamp) ∧ w'.cell? ⟨q, 3, none⟩ = some (.slice p m.bytes.size c)) (exact hS)
    (first
      | (go_at_call 14; refine (clean_any w0 b ow tb ot pb os A T P (i * 40) _ Bd.out.sys HL.out HZ.out HOK.out HLIM.out HM5.out).mono ?_; rintro e w2 ⟨ow2, rfl, S2, T2⟩; have O2 := T2; have B2 := hid (Bd.out.left S2 O2); have Q2 := hid (O2.cells Qd.out sys31); have hS := eight B2.out.cells (move_cells Q2.out))
      | (go_at_call 32; refine (refClean_any w0 rb rw rp fo A T P (i * 40) _ B2.out.ref HL.out HND.out HPN.out HOK.out HD.out HLIM.out HM5.out).mono ?_; rintro e w3 ⟨rw3, rfl, S3, T3⟩; have O3 := T3; have B3 := hid (B2.out.right S3 O3); have Q3 := hid (O3.cells Q2.out ref31); have hS := eight B3.out.cells (move_cells Q3.out)))

  have HOO : Only bothT w w3 := Only.join NW1.out.drew O2 (New.refl w2) O3
  go_wp2
  go_ret2
  exact ⟨w1.heap.size, _, _, _, _, _, HK0.out _ (Nat.le_refl _), by rw [hu.out]; simp, by rw [hu.out]; exact B3.out.both, HOO⟩

end Go.Proofs.YtdccbceaajnajaaGreat

namespace Go.Proofs.YtdccbceaajnajaaGreat
open Go.RowKit
set_option linter.unusedSimpArgs false
set_option linter.unusedVariables false

set_option maxHeartbeats 4000000 in
set_option maxRecDepth 100000 in
theorem does_force (w0 : World) (x b : Nat) (ow : Option Nat) (tb : Nat) (ot : Option Nat) (pb : Nat) (os : Option Nat) (rb : Nat) (rw : Option Nat) (rp : Nat) (fo : Option Nat) (A : ADisk) (T : ATape) (P : APool) (N i : Nat) (m : Move) (p : Option Addr) (c : Nat) (w : World) (B : Both w0 w x b ow tb ot pb os rb rw rp fo A T P) (F : Fine N i A T P) (hd : A.down = false) (hi : i ≤ 1000) (hm : Bytes w0 (.slice p m.bytes.size c) m.bytes) (hmb : m.bytes.size ≤ 300) (hn : m.n ≤ 2 ^ 63 - 1) (hK : kindOf m = 5) :
    Calls Tryz.prog 9 #[.pointer (some ⟨x, 0, none⟩), .agg (moveCells m p c)] w (DoesBack w0 x b tb pb rb rp N i m A T P w) := by
  have hu : Hid (∀ k, callU m A T P k = ⟨forceE A T, forceA A T, forceT A T, P⟩) := hid fun k => by unfold callU; simp only [hK]; rfl
  have t0 : ((IntKind.u64.wrap m.kind).tmod 7 == 0) = false := by have := hK; unfold kindOf at this; rw [this]; rfl
  have t1 : ((IntKind.u64.wrap m.kind).tmod 7 == 1) = false := by have := hK; unfold kindOf at this; rw [this]; rfl
  have t2 : ((IntKind.u64.wrap m.kind).tmod 7 == 2) = false := by have := hK; unfold kindOf at this; rw [this]; rfl
  have t3 : ((IntKind.u64.wrap m.kind).tmod 7 == 3) = false := by have := hK; unfold kindOf at this; rw [this]; rfl
  have t4 : ((IntKind.u64.wrap m.kind).tmod 7 == 4) = false := by have := hK; unfold kindOf at this; rw [this]; rfl
  have t5 : ((IntKind.u64.wrap m.kind).tmod 7 == 5) = true := by have := hK; unfold kindOf at this; rw [this]; rfl
  have t6 : ((IntKind.u64.wrap m.kind).tmod 7 == 6) = false := by have := hK; unfold kindOf at this; rw [this]; rfl
  have HF := hid F
  have HD := hid hd
  have HI := hid hi
  have HM := hid hm
  have HMB := hid hmb
  have HN := hid hn
  have HND := hid B.sys.pool.nodup
  have HL : Hid (P.frames.length ≤ 16) := hid (Nat.le_trans F.len F.most)
  have HL2 : Hid (P.frames.length ≤ 100000) := hid (by have := HL.out; omega)
  have HZ2 : Hid (2 ≤ P.size) := hid (by rw [F.size]; exact F.two)
  have HZ : Hid (P.size ≠ 0) := hid (by have := HZ2.out; omega)
  have HR : Hid (P.reads ≤ 1000000000) := hid (by have := F.reads; omega)
  have HT : Hid (T.recs.length ≤ 1000) := hid (Nat.le_trans F.recs hi)
  have HT6 : Hid (T.recs.length ≤ 1000000) := hid (by have := HT.out; omega)
  have HT3 : Hid (T.recs.length < 3000) := hid (by have := HT.out; omega)
  have HM6 : Hid (i * 40 ≤ 1000000) := hid (by omega)
  have HM5 : Hid (i * 40 ≤ 50000) := hid (by omega)
  have HM9 : Hid (i * 40 ≤ 90000) := hid (by omega)
  have HLIM := hid F.lim
  have HOK := hid F.ok
  have HPN := hid F.pages
  have HM10 : Hid (i * 40 ≤ 100000) := hid (by omega)
  have HB1 : Hid (A.falls ≤ 1000000000) := hid (by have := F.lim.falls; omega)
  have HB2 : Hid (A.acts ≤ 1000000000) := hid (by have := F.lim.acts; omega)
  have HB3 : Hid (A.waits.length ≤ 1000000000) := hid (by have := F.lim.waits; omega)
  have na := (New.refl w).alloc (moveCells m p c) 31
  have B1 := hid (B.two.newer na)
  have NW1 := hid na
  have HQ := hid (heap_alloc_new w (.cells (moveCells m p c) 31))
  have HK0 := hid (fun k (h : (w.alloc (.cells (moveCells m p c) 31)).heap.size ≤ k) => frames_lt B1.out.sys h)
  generalize hw1 : w.alloc (.cells (moveCells m p c) 31) = w1 at *
  generalize hq : w.heap.size = q at *
  have HW1 := hid hw1
  obtain ⟨mc0, mc1, mc2, mc3⟩ := move_cells HQ.out
  clear F hd hi hm hmb hn hK B na
  go_enter Tryz.func9, Tryz.ntmps9
  have Bd := hid (B1.out.newer (New.refl w1).drew)
  have Qd := hid ((Below.block (New.refl w1).drew q (Array.getElem?_eq_some_iff.1 HQ.out).1).trans HQ.out)
  have hS := eight Bd.out.cells (move_cells Qd.out)
  go_wp2_with fail
  try clear mc0 mc1 mc2 mc3
  go_region_held3 (fun w' : World => w'.cell? ⟨x, 0, none⟩ = some (.pointer (some ⟨b, 0, none⟩)) ∧ w'.cell? ⟨x, 1, none⟩ = some (.pointer (some ⟨tb, 0, none⟩)) ∧ w'.cell? ⟨x, 2, none⟩ = some (.pointer (some ⟨pb, 0, none⟩)) ∧ w'.cell? ⟨x, 3, none⟩ = some (.pointer (some ⟨rp, 0, none⟩)) ∧ w'.cell? ⟨q, 0, none⟩ = some (.int .i64 m.kind) ∧ w'.cell? ⟨q, 1, none⟩ = some (.int .i64 m.n) ∧ w'.cell? ⟨q, 2, none⟩ = some (.int .i64 m.stamp) ∧ w'.cell? ⟨q, 3, none⟩ = some (.slice p m.bytes.size c)) (exact hS)
    (first
      | (go_at_call 33; refine (force_any w0 b ow tb ot A T _ Bd.out.sys.log HB1.out HB2.out HB3.out).mono ?_; rintro e w2 ⟨ow2, rfl, L2, V2, -⟩; have S2 := Bd.out.sys.moved L2 V2; have T2 : Turn (alls b ow tb ot pb os P) w1.drew w2 := V2.mono (fun _ _ h => .inl h); have O2 := Bd.out.sys.only T2; have B2 := hid (Bd.out.left S2 O2); have Q2 := hid (O2.cells Qd.out sys31); have hS := eight B2.out.cells (move_cells Q2.out))
      | (go_at_call 34; refine (refForce_any w0 rb rw rp fo A T P (i * 40) _ B2.out.ref HD.out HLIM.out HM10.out).mono ?_; rintro e w3 ⟨rw3, rfl, S3, T3, -⟩; have O3 := B2.out.ref.only T3; have B3 := hid (B2.out.right S3 O3); have Q3 := hid (O3.cells Q2.out ref31); have hS := eight B3.out.cells (move_cells Q3.out)))

  have HOO : Only bothT w w3 := Only.join NW1.out.drew O2 (New.refl w2) O3
  go_wp2
  go_ret2
  exact ⟨w1.heap.size, _, _, _, _, _, HK0.out _ (Nat.le_refl _), by rw [hu.out]; simp, by rw [hu.out]; exact B3.out.both, HOO⟩

end Go.Proofs.YtdccbceaajnajaaGreat

namespace Go.Proofs.YtdccbceaajnajaaGreat
open Go.RowKit
set_option linter.unusedSimpArgs false
set_option linter.unusedVariables false

set_option maxHeartbeats 4000000 in
set_option maxRecDepth 100000 in
theorem does_arm (w0 : World) (x b : Nat) (ow : Option Nat) (tb : Nat) (ot : Option Nat) (pb : Nat) (os : Option Nat) (rb : Nat) (rw : Option Nat) (rp : Nat) (fo : Option Nat) (A : ADisk) (T : ATape) (P : APool) (N i : Nat) (m : Move) (p : Option Addr) (c : Nat) (w : World) (B : Both w0 w x b ow tb ot pb os rb rw rp fo A T P) (F : Fine N i A T P) (hd : A.down = false) (hi : i ≤ 1000) (hm : Bytes w0 (.slice p m.bytes.size c) m.bytes) (hmb : m.bytes.size ≤ 300) (hn : m.n ≤ 2 ^ 63 - 1) (hK : kindOf m = 6) :
    Calls Tryz.prog 9 #[.pointer (some ⟨x, 0, none⟩), .agg (moveCells m p c)] w (DoesBack w0 x b tb pb rb rp N i m A T P w) := by
  have hu : Hid (∀ k, callU m A T P k = ⟨0, { A with armed := max m.n 0 }, T, P⟩) := hid fun k => by unfold callU; simp only [hK]; rfl
  have t0 : ((IntKind.u64.wrap m.kind).tmod 7 == 0) = false := by have := hK; unfold kindOf at this; rw [this]; rfl
  have t1 : ((IntKind.u64.wrap m.kind).tmod 7 == 1) = false := by have := hK; unfold kindOf at this; rw [this]; rfl
  have t2 : ((IntKind.u64.wrap m.kind).tmod 7 == 2) = false := by have := hK; unfold kindOf at this; rw [this]; rfl
  have t3 : ((IntKind.u64.wrap m.kind).tmod 7 == 3) = false := by have := hK; unfold kindOf at this; rw [this]; rfl
  have t4 : ((IntKind.u64.wrap m.kind).tmod 7 == 4) = false := by have := hK; unfold kindOf at this; rw [this]; rfl
  have t5 : ((IntKind.u64.wrap m.kind).tmod 7 == 5) = false := by have := hK; unfold kindOf at this; rw [this]; rfl
  have t6 : ((IntKind.u64.wrap m.kind).tmod 7 == 6) = true := by have := hK; unfold kindOf at this; rw [this]; rfl
  have HF := hid F
  have HD := hid hd
  have HI := hid hi
  have HM := hid hm
  have HMB := hid hmb
  have HN := hid hn
  have HND := hid B.sys.pool.nodup
  have HL : Hid (P.frames.length ≤ 16) := hid (Nat.le_trans F.len F.most)
  have HL2 : Hid (P.frames.length ≤ 100000) := hid (by have := HL.out; omega)
  have HZ2 : Hid (2 ≤ P.size) := hid (by rw [F.size]; exact F.two)
  have HZ : Hid (P.size ≠ 0) := hid (by have := HZ2.out; omega)
  have HR : Hid (P.reads ≤ 1000000000) := hid (by have := F.reads; omega)
  have HT : Hid (T.recs.length ≤ 1000) := hid (Nat.le_trans F.recs hi)
  have HT6 : Hid (T.recs.length ≤ 1000000) := hid (by have := HT.out; omega)
  have HT3 : Hid (T.recs.length < 3000) := hid (by have := HT.out; omega)
  have HM6 : Hid (i * 40 ≤ 1000000) := hid (by omega)
  have HM5 : Hid (i * 40 ≤ 50000) := hid (by omega)
  have HM9 : Hid (i * 40 ≤ 90000) := hid (by omega)
  have HLIM := hid F.lim
  have HOK := hid F.ok
  have HPN := hid F.pages
  have HM10 : Hid (i * 40 ≤ 100000) := hid (by omega)
  have HB1 : Hid (A.falls ≤ 1000000000) := hid (by have := F.lim.falls; omega)
  have HB2 : Hid (A.acts ≤ 1000000000) := hid (by have := F.lim.acts; omega)
  have HB3 : Hid (A.waits.length ≤ 1000000000) := hid (by have := F.lim.waits; omega)
  have na := (New.refl w).alloc (moveCells m p c) 31
  have B1 := hid (B.two.newer na)
  have NW1 := hid na
  have HQ := hid (heap_alloc_new w (.cells (moveCells m p c) 31))
  have HK0 := hid (fun k (h : (w.alloc (.cells (moveCells m p c) 31)).heap.size ≤ k) => frames_lt B1.out.sys h)
  generalize hw1 : w.alloc (.cells (moveCells m p c) 31) = w1 at *
  generalize hq : w.heap.size = q at *
  have HW1 := hid hw1
  obtain ⟨mc0, mc1, mc2, mc3⟩ := move_cells HQ.out
  clear F hd hi hm hmb hn hK B na
  go_enter Tryz.func9, Tryz.ntmps9
  have Bd := hid (B1.out.newer (New.refl w1).drew)
  have Qd := hid ((Below.block (New.refl w1).drew q (Array.getElem?_eq_some_iff.1 HQ.out).1).trans HQ.out)
  have hS := eight Bd.out.cells (move_cells Qd.out)
  go_wp2_with fail
  try clear mc0 mc1 mc2 mc3
  go_region_held3 (fun w' : World => w'.cell? ⟨x, 0, none⟩ = some (.pointer (some ⟨b, 0, none⟩)) ∧ w'.cell? ⟨x, 1, none⟩ = some (.pointer (some ⟨tb, 0, none⟩)) ∧ w'.cell? ⟨x, 2, none⟩ = some (.pointer (some ⟨pb, 0, none⟩)) ∧ w'.cell? ⟨x, 3, none⟩ = some (.pointer (some ⟨rp, 0, none⟩)) ∧ w'.cell? ⟨q, 0, none⟩ = some (.int .i64 m.kind) ∧ w'.cell? ⟨q, 1, none⟩ = some (.int .i64 m.n) ∧ w'.cell? ⟨q, 2, none⟩ = some (.int .i64 m.stamp) ∧ w'.cell? ⟨q, 3, none⟩ = some (.slice p m.bytes.size c)) (exact hS)
    (first
      | (go_at_call 35; refine (arm_any b ow A m.n _ Bd.out.sys.log.disk HN.out).mono ?_; intro e w2 h2; obtain ⟨ow2, rfl, S2, T2⟩ := Bd.out.sys.flushed h2.moved; have O2 := Bd.out.sys.only T2; have B2 := hid (Bd.out.left S2 O2); have Q2 := hid (O2.cells Qd.out sys31); have hS := eight B2.out.cells (move_cells Q2.out)))

  clear hS
  have Be := hid (B2.out.newer (New.refl w2).drew)
  have Qe := hid ((Below.block (New.refl w2).drew q (Array.getElem?_eq_some_iff.1 Q2.out).1).trans Q2.out)
  obtain ⟨pc, hp0⟩ : ∃ v : Value, w2.drew.heap[rp]? = some (.cells (rpCells rb T P v) 67 (0, 0)) := by
    obtain ⟨v, e1, -, -⟩ := Be.out.ref.pool
    exact ⟨v, e1⟩
  have hS3 := And.intro Be.out.cells.2.2.2 (And.intro (cells_of hp0 0) (move_cells Qe.out).2.1)
  go_wp2_with fail
  go_region_held3 (fun w' : World => w'.cell? ⟨x, 3, none⟩ = some (.pointer (some ⟨rp, 0, none⟩)) ∧ w'.cell? ⟨rp, 0, none⟩ = some (.pointer (some ⟨rb, 0, none⟩)) ∧ w'.cell? ⟨q, 1, none⟩ = some (.int .i64 m.n)) (exact hS3)
    (first
      | (go_at_call 36; refine (refArm_any rb rw A m.n _ Be.out.ref.disk HN.out).mono ?_; intro e w3 h3; obtain ⟨rw3, rfl, S3, T3, -⟩ := Be.out.ref.moved h3.moved; have O3 := Be.out.ref.only T3; have B3 := hid (Be.out.right S3 O3); have Q3 := hid (O3.cells Qe.out ref31); obtain ⟨pc3, hp3⟩ : ∃ v : Value, w3.heap[rp]? = some (.cells (rpCells rb T P v) 67 (0, 0)) := (by obtain ⟨v, e1, -, -⟩ := S3.pool; exact ⟨v, e1⟩); have hS3 := And.intro B3.out.cells.2.2.2 (And.intro (cells_of hp3 0) (move_cells Q3.out).2.1)))

  have HOO : Only bothT w w3 := Only.join NW1.out.drew O2 (New.refl w2).drew O3
  go_wp2
  go_ret2
  exact ⟨w1.heap.size, _, _, _, _, _, HK0.out _ (Nat.le_refl _), by rw [hu.out]; simp, by rw [hu.out]; exact B3.out.both, HOO⟩

end Go.Proofs.YtdccbceaajnajaaGreat

namespace Go.Proofs.YtdccbceaajnajaaGreat
open Go.RowKit
set_option linter.unusedSimpArgs false
set_option linter.unusedVariables false

/-- Bytes that were there, or lie in a block of bytes. -/
def Kept (w0 w : World) (u : Value) (s : ByteArray) : Prop := Bytes w0 u s ∨ Content w u s
theorem Kept.bytes {w0 w : World} {u : Value} {s : ByteArray} (h : Kept w0 w u s) (hn : New w0 w) : Bytes w u s := by
  rcases h with h | h
  · exact h.new hn
  · exact h.1
theorem Kept.only {T : TypeId → Prop} {w0 w w' : World} {u : Value} {s : ByteArray} (h : Kept w0 w u s) (ho : Only T w w') (ht : ¬ T 5) : Kept w0 w' u s := by
  rcases h with h | h
  · exact .inl h
  · exact .inr (ho.content ht h)
theorem Kept.newer {w0 w w' : World} {u : Value} {s : ByteArray} (h : Kept w0 w u s) (ho : New w w') : Kept w0 w' u s := by
  rcases h with h | h
  · exact .inl h
  · exact .inr (h.new ho)
theorem kept_filled {w0 w2 : World} {v u : Value} {s : ByteArray} (hv : Bytes w0 v s) (h : (u = v ∧ 128 < s.size) ∨ (s.size ≤ 128 ∧ Content w2 u (fillB s))) : Kept w0 w2 u (fillB s) := by
  rcases h with ⟨rfl, h⟩ | ⟨_, h⟩
  · left
    unfold fillB
    rw [if_pos h]
    exact hv
  · exact .inr h
/-- The bytes and the stamp of the page that was given. -/
def gotB (U : Used) : ByteArray := if U.e = 0 then (match U.P.frames.getLast? with | some x => x.2.b | none => ByteArray.empty) else ByteArray.empty
def gotS (U : Used) : Int := if U.e = 0 then (match U.P.frames.getLast? with | some x => (x.2.stamp : Int) | none => 0) else 0
theorem Got.gave {U : Used} {w : World} {e : Ending} (h : Got U w e) : ∃ p n c, e = .returned (.tuple #[.slice p n c, .int .i64 (gotS U), .int .i64 U.e]) ∧ Content w (.slice p n c) (gotB U) := by
  rcases h with ⟨h, rfl⟩ | ⟨h, l, x, p, c, e1, rfl, hc⟩
  · refine ⟨none, 0, 0, ?_, ?_⟩
    · unfold gotS; rw [if_neg h]
    · unfold gotB; rw [if_neg h]; exact Content.nil w
  · refine ⟨p, x.2.b.size, c, ?_, ?_⟩
    · unfold gotS; rw [if_pos h, e1]; simp [h]
    · unfold gotB; rw [if_pos h, e1]; simpa using hc
/-- The cells of a note. -/
def noteC (s : ByteArray) : Array Value := #[.int .i64 7, .int .i64 0, .int .i64 0, .int .i64 0, .slice none 0 0, .slice none 0 0, .int .i64 0, .int .i64 0, .string s, .slice none 0 0]
theorem note_cells {w : World} {x z b1 b3 : Nat} {s : ByteArray} (h1 : w.cell? ⟨x, 1, none⟩ = some (.pointer (some ⟨b1, 0, none⟩))) (h3 : w.cell? ⟨x, 3, none⟩ = some (.pointer (some ⟨b3, 0, none⟩))) (h : w.heap[z]? = some (.cells (noteC s) 70 (0, 0))) :
    w.cell? ⟨x, 1, none⟩ = some (.pointer (some ⟨b1, 0, none⟩)) ∧ w.cell? ⟨x, 3, none⟩ = some (.pointer (some ⟨b3, 0, none⟩)) ∧ w.cell? ⟨z, 0, none⟩ = some (.int .i64 7) ∧ w.cell? ⟨z, 1, none⟩ = some (.int .i64 0) ∧ w.cell? ⟨z, 2, none⟩ = some (.int .i64 0) ∧ w.cell? ⟨z, 3, none⟩ = some (.int .i64 0) ∧ w.cell? ⟨z, 4, none⟩ = some (.slice none 0 0) ∧ w.cell? ⟨z, 5, none⟩ = some (.slice none 0 0) ∧ w.cell? ⟨z, 6, none⟩ = some (.int .i64 0) ∧ w.cell? ⟨z, 7, none⟩ = some (.int .i64 0) ∧ w.cell? ⟨z, 8, none⟩ = some (.string s) ∧ w.cell? ⟨z, 9, none⟩ = some (.slice none 0 0) :=
  have hc := cells_of h
  ⟨h1, h3, hc 0, hc 1, hc 2, hc 3, hc 4, hc 5, hc 6, hc 7, hc 8, hc 9⟩
theorem ref70 : ¬ refT 70 := by simp [refT]
theorem alls_lt {w0 w : World} {b tb pb : Nat} {ow ot os : Option Nat} {A : ADisk} {T : ATape} {P : APool} (S : Sys w0 w b ow tb ot pb os A T P) {k : Nat} (h : alls b ow tb ot pb os P k) : k < w.heap.size := by
  obtain ⟨c, t, fr, e, _⟩ := alls_typed S h
  exact (Array.getElem?_eq_some_iff.1 e).1
end Go.Proofs.YtdccbceaajnajaaGreat
