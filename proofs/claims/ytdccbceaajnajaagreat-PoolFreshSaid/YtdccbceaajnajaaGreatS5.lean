/- The specification's pool: use where no frame has the page. (written by ruse2.py) -/
import Derived.Test.YtdccbceaajnajaaGreatS4
import Derived.Deep.RegionLaw
namespace Go.Proofs.YtdccbceaajnajaaGreat
open Go.RowKit
set_option linter.unusedSimpArgs false
set_option linter.unusedVariables false

/-- A frame more. -/
def moreP (P : APool) (p : Nat × AFrame) : APool := { P with frames := P.frames ++ [p], reads := P.reads + 1 }

theorem refs_trans2 {w w1 w2 : World} {b rp : Nat} {ow ow1 fo fo1 : Option Nat} (h1 : Turn (refs b ow rp fo) w w1) (ho : ∀ k, ow1 = some k → ow = some k ∨ w.heap.size ≤ k) (hf : ∀ k, fo1 = some k → fo = some k ∨ w.heap.size ≤ k) (h2 : Turn (refs b ow1 rp fo1) w1 w2) : Turn (refs b ow rp fo) w w2 := by
  have h : Turn (fun k => refs b ow rp fo k ∨ w.heap.size ≤ k) w w2 := (h1.mono fun _ _ h => .inl h).trans (h2.mono fun k _ h => by
    rcases h with (h | h) | h | h
    · exact .inl (.inl (.inl h))
    · rcases ho k h with h | h
      · exact .inl (.inl (.inr h))
      · exact .inr h
    · exact .inl (.inr (.inl h))
    · rcases hf k h with h | h
      · exact .inl (.inr (.inr h))
      · exact .inr h)
  exact h.mono fun k hk h => by
    rcases h with h | h
    · exact h
    · omega
/-- The row of frames has grown. -/
theorem rsys_grown {w0 w w' : World} {b rp : Nat} {ow fo : Option Nat} {R : ADisk} {T : ATape} {P P' : APool} (S : RSys w0 w b ow rp fo R T P) {v v' : Value} (hh : w.heap[rp]? = some (.cells (rpCells b T P v) 67 (0, 0))) (hvb : v.ownBlock = fo) (hg : w.grownBy w' v.ownBlock) (hown : w'.ownsRow 0 104 4 v' P'.frames.length (rfVals P'.frames)) (hblk : v'.ownBlock = v.ownBlock ∨ v'.ownBlock = some w.heap.size) (hs : P'.size = P.size) (hr : P'.reads = P.reads) :
    RSys w0 (w'.setCell ⟨rp, 5, none⟩ v') b ow rp v'.ownBlock R T P' ∧ Turn (refs b ow rp fo) w (w'.setCell ⟨rp, 5, none⟩ v') ∧ (∀ k, v'.ownBlock = some k → fo = some k ∨ w.heap.size ≤ k) := by
  have ht : Turn (fun k => fo = some k) w w' := (grown_turn hg).mono fun k _ h => hvb ▸ h
  obtain ⟨u, f1, f2, f3⟩ := S.pool
  have hb : ∀ k, fo = some k → ∃ c, w.heap[k]? = some (.cells c 104 (0, 0)) := fun k hk => own_base f3 (f2.trans hk)
  have g1 : ¬ fo = some b := fun h => by
    obtain ⟨c, e⟩ := hb b h
    obtain ⟨c', e'⟩ := S.disk.base
    exact types_ne e e' (by decide)
  have g2 : ∀ k, ow = some k → ¬ fo = some k := fun k hk h => by
    obtain ⟨c, e⟩ := hb k h
    obtain ⟨c', e'⟩ := S.disk.row hk
    exact types_ne e e' (by decide)
  have g3 : ¬ fo = some rp := fun h => by
    obtain ⟨c, e⟩ := hb rp h
    exact types_ne e hh (by decide)
  have hd := S.disk.turn ht g1 g2
  have hh' : w'.heap[rp]? = some (.cells (rpCells b T P v) 67 (0, 0)) := by rw [ht.block rp (Array.getElem?_eq_some_iff.1 hh).1 g3]; exact hh
  have ht2 := turn_set w' rp 5 v'
  have n1 : ¬ rp = b := fun e => by
    obtain ⟨c, h⟩ := hd.base
    exact types_ne hh' (e ▸ h) (by decide)
  have n2 : ∀ k, ow = some k → ¬ k = rp := fun k hk e => by
    obtain ⟨c, h⟩ := hd.row hk
    exact types_ne (e ▸ h) hh' (by decide)
  have n3 : ∀ k, v'.ownBlock = some k → ¬ k = rp := fun k hk e => by
    obtain ⟨c, h⟩ := own_base hown hk
    exact types_ne (e ▸ h) hh' (by decide)
  have hblk2 : ∀ k, v'.ownBlock = some k → fo = some k ∨ w.heap.size ≤ k := fun k hk => by
    rcases hblk with h | h
    · exact .inl (by rw [← hvb, ← h]; exact hk)
    · rw [h] at hk
      injection hk with hk
      exact .inr (by omega)
  refine ⟨{ S with disk := hd.turn ht2 (fun e => n1 e.symm) n2, pool := ⟨v', ?_, rfl, own_turn hown ht2 n3⟩, new := ((S.new.turn ht (fun k hk h => by have := S.ff k h; omega)).turn ht2 (fun k hk e => by have := S.rr; omega)), ff := fun k hk => ?_ }, (ht.mono fun k _ h => .inr (.inr h)).trans (ht2.mono fun k _ h => .inr (.inl h)), hblk2⟩
  · have := heap_setCell_same w' rp 5 _ 67 v' hh'
    rw [this]
    simp [rpCells, hs, hr]
  · rcases hblk2 k hk with h | h
    · exact S.ff k h
    · exact Nat.le_trans S.new.size h

set_option maxHeartbeats 3200000 in
set_option maxRecDepth 100000 in
theorem refUse_miss (w0 : World) (b : Nat) (ow : Option Nat) (rp : Nat) (fo : Option Nat) (R : ADisk) (T : ATape) (P : APool) (n k m : Nat) (w : World) (S : RSys w0 w b ow rp fo R T P) (hl : P.frames.length ≤ 100000) (hfull : P.frames.length ≠ P.size) (hn : findN P.frames (n : Int) = -1) (hd : R.down = false) (hre : readE R (n : Int) = 0) (hn2 : n < 120) (L : Lim R m) (hm : m ≤ 100000) (hrd : P.reads ≤ 1000000000) :
    Calls Tryz.prog 67 #[.pointer (some ⟨rp, 0, none⟩), .int .i64 (n : Int)] w (fun e w' => ∃ ow' fo', e = .returned (.int .i64 0) ∧ RSys w0 w' b ow' rp fo' R T (moreP P (k, frameOf n (readB R (n : Int)).data.toList)) ∧ Turn (refs b ow rp fo) w w' ∧ (∀ k, ow' = some k → ow = some k ∨ w.heap.size ≤ k) ∧ (∀ k, fo' = some k → fo = some k ∨ w.heap.size ≤ k)) := by
  have HS := hid S
  have L1 := hid L
  have HRE := hid hre
  have HLE := hid hl
  have HRD := hid hrd
  obtain ⟨p, c, hh, hown, hfo⟩ := rsys_full S
  have hc := cells_of hh
  unfold rpCells at hc
  have lrp : rp < w.heap.size := (Array.getElem?_eq_some_iff.1 hh).1
  have hdk := S.disk
  have q1 : ((P.frames.length : Int) == (P.size : Int)) = false := by simp; omega
  have c5 : ∀ Q : After w, Q.w.cell? ⟨rp, 5, none⟩ = some (.slice p P.frames.length c) := fun Q => by rw [Q.new.cell _ _ lrp]; exact hc 5
  have c3 : ∀ Q : After w, Q.w.cell? ⟨rp, 3, none⟩ = some (.int .i64 (P.size : Int)) := fun Q => by rw [Q.new.cell _ _ lrp]; exact hc 3
  clear S hh hown hfo L hre hrd
  go_enter Tryz.func67, Tryz.ntmps67
  go_wp2_with fail
  refine (refDown_any b ow R _ hdk).mono ?_
  rintro e w' ⟨rfl, rfl⟩
  rw [hd]
  go_wp2_with fail
  refine (refFind_any w0 b ow rp fo R T P _ _ HS.out hl).mono ?_
  rintro e w' ⟨rfl, rfl⟩
  rw [hn]
  go_wp2_with fail
  refine wp_region_new (by kernel_rfl) (by kernel_rfl) ?_
  repeat (go_big_quiet_step (fail))
  refine wpQuiet_nil ?_
  rintro _ ⟨Q, rfl⟩
  have S2 := hid (HS.out.newer Q.new)
  have TB := hid (Turn.of_new (S := refs b ow rp fo) Q.new)
  have OB : Hid (∀ k, ow = some k → ow = some k ∨ w.heap.size ≤ k) := hid fun k hk => .inl hk
  have FB : Hid (∀ k, fo = some k → fo = some k ∨ w.heap.size ≤ k) := hid fun k hk => .inl hk
  generalize Q.w = w2 at *
  clear c5 c3 hc hl hdk
  obtain ⟨p, c, hc, hf, -, -⟩ := rsys_open S2.out
  unfold rpCells at hc
  go_wp2_with fail
  refine (refRead_any b _ (R) (n : Int) _ S2.out.disk L1.out.small (by have := L1.out.waits; omega)).mono ?_
  rintro e w3 ⟨v3, rfl, hc3, hn3⟩
  have S3 := hid (S2.out.newer hn3)
  have N3 := hid hn3
  have C3 := hid hc3
  clear hc hf hc3 hn3
  obtain ⟨p3, k3, rfl, -⟩ := id C3.out.1
  have HSZ : Hid ((readB (R) (n : Int)).data.toList.length ≤ 1000000) := hid (by
    have hre := HRE.out
    have h1 : (readB (R) (n : Int)).size ≤ 340 := by
      unfold readB
      rw [if_pos hre]
      refine L1.out.small.lay _ ?_
      omega
    rw [← bytesOf_data (readB (R) (n : Int)), bytesOf_size] at h1
    omega)
  go_wp2_with fail
  refine (refPageOf_any _ (readB (R) (n : Int)).data.toList _ (by rw [bytesOf_data]; exact C3.out.1) HSZ.out).mono ?_
  rintro e w4 ⟨p4, k4, c4, st4, er4, rfl, n4, hyes, hno⟩
  have S4 := hid (S3.out.newer n4)
  have N4 := hid (N3.out.trans n4)
  clear n4
  by_cases hpe : pageE (readB (R) (n : Int)).data.toList = true
  · obtain ⟨rfl, rfl, rfl, hct⟩ := hyes hpe
    have CT := hid hct
    have HPE := hid hpe
    have SR := S4
    have kc := (CT.out.1.renew (New.refl w4).drew).convert (P := Tryz.prog) 29 5 9 Tryz.underlying29 Tryz.underlying5 Tryz.underlying9
    obtain ⟨sz, hsz⟩ : ∃ s, bytesOf (pageL (readB (R) (n : Int)).data.toList) = s := ⟨_, rfl⟩
    obtain ⟨sp, hsp⟩ : ∃ z, frontN (readB (R) (n : Int)).data.toList = z := ⟨_, rfl⟩
    rw [hsz] at kc
    rw [hsp]
    obtain ⟨F, hF⟩ : ∃ F, F = frameOf n (readB (R) (n : Int)).data.toList := ⟨_, rfl⟩
    have HFE := hid hF
    have HFV : Hid (rfCells F = [.int .i64 (n : Int), .int .i64 sp, .string sz, .bool false]) := hid (by
      rw [hF]
      unfold frameOf
      rw [if_pos HPE.out]
      simp only [rfCells]
      rw [hsz, Int.toNat_of_nonneg (frontN_nonneg _), hsp])
    clear hF
    clear hyes hno hct hpe hsz hsp
    go_wp2_with fail
    obtain ⟨pr, cr, hh, hown, hfo⟩ := rsys_full SR.out
    have hc := cells_of hh
    have hz := frozen_of hh 5
    unfold rpCells at hc
    have OWNR := hid hown
    have HHR := hid hh
    have HFO := hid hfo
    have lrp : rp < w4.heap.size := (Array.getElem?_eq_some_iff.1 hh).1
    have LRP := hid lrp
    have HN5 := hid (((New.refl w4).alloc #[.int .i64 (n : Int), .int .i64 sp, .string sz, .bool false] 104).drew)
    have hqb : ∀ k', (Value.slice pr P.frames.length cr).ownBlock = some k' → ¬ k' = rp := fun k' h e => by
      obtain ⟨c', hc'⟩ := own_base hown h
      rw [e] at hc'
      exact types_ne hc' hh (by decide)
    have HQ := hid hqb
    have c5 := hc 5
    have z5 := hz
    have c5b := (HN5.out.cell rp 5 lrp).trans c5
    have z5b := ((bcell HN5.out).2 rp 5 lrp).trans z5
    clear hown hfo hqb hz hh
    go_region_law (refine step_rf rfl _ _ rfl 0 _ _ _ rfl (own_old OWNR.out HN5.out) ⟨w4.heap.size, 0, none⟩ 1 1 #[.int .i64 (n : Int), .int .i64 sp, .string sz, .bool false].toList rfl rfl (fun j u hj => by rw [add_at, Nat.zero_add]; exact (cells_of (heap_alloc_new w4 _) j).trans (by simpa using hj)) (by simp [Value.oneCell']) (by have := HLE.out; omega) (Nat.zero_le _) ?_; intro v6 w6 own6 grow6 blk6; obtain ⟨p6, c6, rfl⟩ := own_len own6; have l6 : rp < ((w4.alloc (.cells #[.int .i64 (n : Int), .int .i64 sp, .string sz, .bool false] 104)).drew).heap.size := Nat.lt_of_lt_of_le LRP.out HN5.out.size; have c6 := grow6.cell_far ⟨rp, 5, none⟩ l6 (fun e => HQ.out _ e.symm rfl); have z6 := grow6.frozen_far ⟨rp, 5, none⟩ l6 (fun e => HQ.out _ e.symm rfl); rw [HN5.out.cell rp 5 LRP.out, c5] at c6; rw [(bcell HN5.out).2 rp 5 LRP.out, z5] at z6)
    all_goals
      have NW5 := HN5.out
      have hfv : rfVals (moreP P (k, F)).frames = rfVals P.frames ++ #[.int .i64 (n : Int), .int .i64 sp, .string sz, .bool false].toList := by unfold moreP; rw [rfVals_append, show rfVals [(k, F)] = rfCells F by simp [rfVals], HFV.out]
      have hlen : (moreP P (k, F)).frames.length = P.frames.length + 1 := by simp [moreP]
      obtain ⟨S6, T6, O6⟩ := rsys_grown (SR.out.newer NW5) (P' := { P with frames := P.frames ++ [(k, F)] }) ((Below.block NW5 rp LRP.out).trans HHR.out) HFO.out grow6 (by rw [show ({ P with frames := P.frames ++ [(k, F)] } : APool).frames = (moreP P (k, F)).frames from rfl, hfv, hlen]; exact own6) blk6 rfl rfl
      have T7 := hid ((Turn.of_new (S := refs b _ rp _) (N4.out.trans NW5)).trans T6)
      have S7 := hid S6
      have O7 := hid O6
      obtain ⟨p8, c8, hh8, -, -⟩ := rsys_full S6
      have hc8 := cells_of hh8
      have hz8 := frozen_of hh8
      unfold rpCells at hc8
      have HH8 := hid hh8
      have NSZ := hid (Nat.le_trans N4.out.size NW5.size)
      clear S6 T6 O6 hh8 hfv hlen own6 grow6 blk6 c6 z6 c5 z5 c5b z5b hc NW5
      generalize hw7 : w6.setCell ⟨rp, 5, none⟩ (.slice p6 (P.frames.length + 1) c6) = w7 at *
      clear hw7
      have qrd := HRD.out
      go_wp2
      go_ret
      have ht9 := turn_set w7 rp 6 (.int .i64 ((P.reads : Int) + 1))
      have S9 := S7.out.cells (T' := T) (P' := moreP P (k, F)) ht9 (fun v hv => heap_setCell_same w7 rp 6 _ 67 _ hv) rfl
      rw [HFE.out] at S9
      have hT := refs_trans2 TB.out OB.out FB.out (T7.out.trans (ht9.mono fun k _ h => .inr (.inl h)))
      have hO := OB.out
      have hF : ∀ j, (Value.slice p6 (P.frames.length + 1) c6).ownBlock = some j → fo = some j ∨ w.heap.size ≤ j := fun j hj => by
        rcases O7.out j hj with h | h
        · exact FB.out j h
        · exact .inr (Nat.le_trans TB.out.size (Nat.le_trans NSZ.out h))
      first | exact ⟨_, _, rfl, S9, hT, hO, hF⟩ | exact ⟨rfl, _, _, S9, hT, hO, hF⟩
  
  · obtain ⟨rfl, rfl, hvn⟩ := hno (by simpa using hpe)
    injection hvn with hv1 hv2 hv3
    subst hv1 hv2 hv3
    have HPE := hid hpe
    clear hyes hno hpe
    have mz := make_zero
    have CZ : Hid (Content (w4.alloc (.cells (Array.replicate 128 (.int .u8 0)) 5)) (.slice (some ⟨w4.heap.size, 0, none⟩) 128 128) zero128) := hid (by
      have := Content.made w4 zero128 128 (List.replicate 128 (.int .u8 0)) (by simp [zero128, bytesOf_size]) (by decide) (by simp [zero128, byteVals, bytesOf, List.map_replicate])
      have e : (List.replicate 128 (Value.int .u8 0)).toArray = Array.replicate 128 (.int .u8 0) := by kernel_rfl
      rw [e] at this
      exact this)
    have NZ := hid ((New.refl w4).alloc (Array.replicate 128 (.int .u8 0)) 5)
    have SR := hid (S4.out.newer NZ.out)
    have N5 := hid (N4.out.trans NZ.out)
    go_wp2_with fail
    generalize w4.alloc (.cells (Array.replicate 128 (.int .u8 0)) 5) = w5 at *
    have kc := (CZ.out.1.renew (New.refl w5).drew).convert (P := Tryz.prog) 29 5 9 Tryz.underlying29 Tryz.underlying5 Tryz.underlying9
    obtain ⟨sz, hsz⟩ : ∃ s, zero128 = s := ⟨_, rfl⟩
    rw [hsz] at kc
    obtain ⟨F, hF⟩ : ∃ F, F = frameOf n (readB (R) (n : Int)).data.toList := ⟨_, rfl⟩
    have HFE := hid hF
    have HFV : Hid (rfCells F = [.int .i64 (n : Int), .int .i64 0, .string sz, .bool false]) := hid (by
      rw [hF]
      unfold frameOf
      rw [if_neg HPE.out]
      simp only [rfCells]
      rw [hsz]
      rfl)
    clear hF hsz mz
    obtain ⟨pr, cr, hh, hown, hfo⟩ := rsys_full SR.out
    have hc := cells_of hh
    have hz := frozen_of hh 5
    unfold rpCells at hc
    have OWNR := hid hown
    have HHR := hid hh
    have HFO := hid hfo
    have lrp : rp < w5.heap.size := (Array.getElem?_eq_some_iff.1 hh).1
    have LRP := hid lrp
    have HN5 := hid (((New.refl w5).alloc #[.int .i64 (n : Int), .int .i64 0, .string sz, .bool false] 104).drew)
    have hqb : ∀ k', (Value.slice pr P.frames.length cr).ownBlock = some k' → ¬ k' = rp := fun k' h e => by
      obtain ⟨c', hc'⟩ := own_base hown h
      rw [e] at hc'
      exact types_ne hc' hh (by decide)
    have HQ := hid hqb
    have c5 := hc 5
    have z5 := hz
    have c5b := (HN5.out.cell rp 5 lrp).trans c5
    have z5b := ((bcell HN5.out).2 rp 5 lrp).trans z5
    clear hown hfo hqb hz hh
    go_region_law (refine step_rf rfl _ _ rfl 0 _ _ _ rfl (own_old OWNR.out HN5.out) ⟨w5.heap.size, 0, none⟩ 1 1 #[.int .i64 (n : Int), .int .i64 0, .string sz, .bool false].toList rfl rfl (fun j u hj => by rw [add_at, Nat.zero_add]; exact (cells_of (heap_alloc_new w5 _) j).trans (by simpa using hj)) (by simp [Value.oneCell']) (by have := HLE.out; omega) (Nat.zero_le _) ?_; intro v6 w6 own6 grow6 blk6; obtain ⟨p6, c6, rfl⟩ := own_len own6; have l6 : rp < ((w5.alloc (.cells #[.int .i64 (n : Int), .int .i64 0, .string sz, .bool false] 104)).drew).heap.size := Nat.lt_of_lt_of_le LRP.out HN5.out.size; have c6 := grow6.cell_far ⟨rp, 5, none⟩ l6 (fun e => HQ.out _ e.symm rfl); have z6 := grow6.frozen_far ⟨rp, 5, none⟩ l6 (fun e => HQ.out _ e.symm rfl); rw [HN5.out.cell rp 5 LRP.out, c5] at c6; rw [(bcell HN5.out).2 rp 5 LRP.out, z5] at z6)
    all_goals
      have NW5 := HN5.out
      have hfv : rfVals (moreP P (k, F)).frames = rfVals P.frames ++ #[.int .i64 (n : Int), .int .i64 0, .string sz, .bool false].toList := by unfold moreP; rw [rfVals_append, show rfVals [(k, F)] = rfCells F by simp [rfVals], HFV.out]
      have hlen : (moreP P (k, F)).frames.length = P.frames.length + 1 := by simp [moreP]
      obtain ⟨S6, T6, O6⟩ := rsys_grown (SR.out.newer NW5) (P' := { P with frames := P.frames ++ [(k, F)] }) ((Below.block NW5 rp LRP.out).trans HHR.out) HFO.out grow6 (by rw [show ({ P with frames := P.frames ++ [(k, F)] } : APool).frames = (moreP P (k, F)).frames from rfl, hfv, hlen]; exact own6) blk6 rfl rfl
      have T7 := hid ((Turn.of_new (S := refs b _ rp _) (N5.out.trans NW5)).trans T6)
      have S7 := hid S6
      have O7 := hid O6
      obtain ⟨p8, c8, hh8, -, -⟩ := rsys_full S6
      have hc8 := cells_of hh8
      have hz8 := frozen_of hh8
      unfold rpCells at hc8
      have HH8 := hid hh8
      have NSZ := hid (Nat.le_trans N5.out.size NW5.size)
      clear S6 T6 O6 hh8 hfv hlen own6 grow6 blk6 c6 z6 c5 z5 c5b z5b hc NW5
      generalize hw7 : w6.setCell ⟨rp, 5, none⟩ (.slice p6 (P.frames.length + 1) c6) = w7 at *
      clear hw7
      have qrd := HRD.out
      go_wp2
      go_ret
      have ht9 := turn_set w7 rp 6 (.int .i64 ((P.reads : Int) + 1))
      have S9 := S7.out.cells (T' := T) (P' := moreP P (k, F)) ht9 (fun v hv => heap_setCell_same w7 rp 6 _ 67 _ hv) rfl
      rw [HFE.out] at S9
      have hT := refs_trans2 TB.out OB.out FB.out (T7.out.trans (ht9.mono fun k _ h => .inr (.inl h)))
      have hO := OB.out
      have hF : ∀ j, (Value.slice p6 (P.frames.length + 1) c6).ownBlock = some j → fo = some j ∨ w.heap.size ≤ j := fun j hj => by
        rcases O7.out j hj with h | h
        · exact FB.out j h
        · exact .inr (Nat.le_trans TB.out.size (Nat.le_trans NSZ.out h))
      first | exact ⟨_, _, rfl, S9, hT, hO, hF⟩ | exact ⟨rfl, _, _, S9, hT, hO, hF⟩
  
end Go.Proofs.YtdccbceaajnajaaGreat
