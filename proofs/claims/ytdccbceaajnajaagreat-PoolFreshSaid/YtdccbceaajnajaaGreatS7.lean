/- The specification's pool: use where no frame has the page and the pool is full. (written by ruse2.py) The specification's pool: use in whole, and Page. -/
import Derived.Test.YtdccbceaajnajaaGreatS5
import Derived.BigRegion
namespace Go.Proofs.YtdccbceaajnajaaGreat
open Go.RowKit
set_option linter.unusedSimpArgs false
set_option linter.unusedVariables false

set_option maxRecDepth 10000 in
/-- append(frames, some..), in a plain region. -/
theorem app_rf {ops : Array Oper} {rest : List Oper} {Q : Exit → Act → World → Prop} {o : Oper} {a : Act} {w : World} (hgd : o.guard = none) (s x : Operand)
    (ho : o.op = .call { callee := .builtin .append, args := #[s, x], argTypes := #[65, 65] })
    (base : Nat) (v : Value) (n : Nat) (xs : List Value) (hs : a.eval s = v) (hown : w.ownsRow base 104 4 v n xs)
    (ad : Addr) (m c : Nat) (news : List Value) (hx : a.eval x = .slice (some ad) m c) (hl : news.length = m * 4) (hnews : ∀ j u, news[j]? = some u → w.cell? (ad.add j) = some u) (h1 : ∀ u ∈ news, u.oneCell' = true)
    (hb : n + m ≤ 1000000) (hbase : base ≤ w.heap.size)
    (h : ∀ v' w', w'.ownsRow base 104 4 v' (n + m) (xs ++ news) → w.grownBy w' v.ownBlock → (v'.ownBlock = v.ownBlock ∨ v'.ownBlock = some w.heap.size) → wpList Tryz.prog ops Q rest (a.put o.dst v') w') :
    wpList Tryz.prog ops Q (o :: rest) a w := by
  obtain ⟨i0, hi, hz0, hz1, hz2⟩ := info_parts info104
  exact wpList_append_own_at w hgd s x 65 ho base 104 i0 _ 4 40 Tryz.underlying65 hi hz0 hz1 hz2 rfl (by decide) v n xs hs hown ad m c news hx hl hnews h1 (by unfold maxLen; omega) (by omega) hbase fun v' w' a1 a2 _ a4 => h v' w' a1 a2 a4
/-- The first frame goes. -/
def dropP (P : APool) : APool := { P with frames := P.frames.drop 1 }
theorem act_up {A : ADisk} (h : actE A = 0) : A.down = false ∧ (actA A).down = false := by
  unfold actE at h
  cases hd : A.down with
  | true => rw [hd] at h; simp at h
  | false =>
    refine ⟨rfl, ?_⟩
    rw [hd] at h
    simp at h
    unfold actA
    rw [hd]
    simp [h, hd]
theorem write_up {A : ADisk} {n : Int} {s : ByteArray} (h : writeE A n s = 0) : (writeA A n s).down = false ∧ A.down = false := by
  unfold writeE at h
  unfold writeA
  split at h
  · simp at h
  · rename_i hb
    rw [if_neg hb]
    have h1 := act_up h
    split
    · exact ⟨h1.2, h1.1⟩
    · exact ⟨h1.2, h1.1⟩
theorem out_up {A : ADisk} {T : ATape} {f : AFrame} (h : outE A T f = 0) (hd : A.down = false) : (outA A T f).down = false := by
  unfold outE at h
  unfold outA
  split
  · rename_i hdr
    rw [if_pos hdr] at h
    by_cases h1 : outE1 A T f = 0
    · rw [if_pos h1] at h ⊢
      exact (write_up h).1
    · rw [if_neg h1] at h
      exact absurd h h1
  · exact hd
theorem read_up {A : ADisk} {n : Nat} (hd : A.down = false) (hn : n < 120) : readE A (n : Int) = 0 := by
  unfold readE isB
  rw [hd]
  simp
  omega
/-- What use leaves where the pool is full. -/
def RFull (w0 : World) (b : Nat) (ow : Option Nat) (rp : Nat) (fo : Option Nat) (R : ADisk) (T : ATape) (P : APool) (x : Nat × AFrame) (n k : Nat) (w : World) (e : Ending) (w' : World) : Prop :=
  ∃ ow' fo', Turn (refs b ow rp fo) w w' ∧ (∀ k, ow' = some k → ow = some k ∨ w.heap.size ≤ k) ∧ (∀ k, fo' = some k → fo = some k ∨ w.heap.size ≤ k) ∧
    ((outE R T x.2 ≠ 0 ∧ e = .returned (.int .i64 (outE R T x.2)) ∧ RSys w0 w' b ow' rp fo' (outA R T x.2) (outT R T x.2) (setI P 0 (outF R T x.2))) ∨
     (outE R T x.2 = 0 ∧ e = .returned (.int .i64 0) ∧ RSys w0 w' b ow' rp fo' (outA R T x.2) (outT R T x.2) (moreP (dropP (setI P 0 (outF R T x.2))) (k, frameOf n (readB (outA R T x.2) (n : Int)).data.toList))))

set_option maxHeartbeats 3200000 in
set_option maxRecDepth 100000 in
theorem refUse_full (w0 : World) (b : Nat) (ow : Option Nat) (rp : Nat) (fo : Option Nat) (R : ADisk) (T : ATape) (P : APool) (x : Nat × AFrame) (n k m : Nat) (w : World) (S : RSys w0 w b ow rp fo R T P) (hl : P.frames.length ≤ 100000) (hsz : 2 ≤ P.size) (hfull : P.frames.length = P.size) (hx : P.frames[0]? = some x) (ok : FrameOk x.2) (hn : findN P.frames (n : Int) = -1) (hd : R.down = false) (hn2 : n < 120) (L : Lim R m) (hm : m ≤ 90000) (hrd : P.reads ≤ 1000000000) :
    Calls Tryz.prog 67 #[.pointer (some ⟨rp, 0, none⟩), .int .i64 (n : Int)] w (RFull w0 b ow rp fo R T P x n k w) := by
  have HS := hid S
  have L0 := hid L
  have HLE0 := hid hl
  have HRD0 := hid hrd
  have HOK := hid ok
  have HX := hid hx
  have HFL := hid hfull
  obtain ⟨p, c, hh, hown, hfo⟩ := rsys_full S
  have hc := cells_of hh
  unfold rpCells at hc
  have lrp : rp < w.heap.size := (Array.getElem?_eq_some_iff.1 hh).1
  have hdk := S.disk
  have q1 : ((P.frames.length : Int) == (P.size : Int)) = true := by simp; omega
  have c5 : ∀ Q : After w, Q.w.cell? ⟨rp, 5, none⟩ = some (.slice p P.frames.length c) := fun Q => by rw [Q.new.cell _ _ lrp]; exact hc 5
  have c3 : ∀ Q : After w, Q.w.cell? ⟨rp, 3, none⟩ = some (.int .i64 (P.size : Int)) := fun Q => by rw [Q.new.cell _ _ lrp]; exact hc 3
  clear S hh hown hfo L hrd hx ok hfull
  go_enter Tryz.func67, Tryz.ntmps67
  go_wp2_with fail
  refine (refDown_any b ow R _ hdk).mono ?_
  rintro e w' ⟨rfl, rfl⟩
  rw [hd]
  go_wp2_with fail
  refine (refFind_any w0 b ow rp fo R T P _ _ HS.out hl).mono ?_
  rintro e w' ⟨rfl, rfl⟩
  rw [hn]
  go_wp2_with fail
  refine wp_region_new (by kernel_rfl) (by kernel_rfl) ?_
  repeat (go_big_quiet_step (fail))
  refine wpQuiet_nil ?_
  rintro _ ⟨Q, rfl⟩
  have SQ := hid (HS.out.newer Q.new)
  have NQ := hid Q.new
  generalize Q.w = wq at *
  clear c5 c3 hc hl hdk q1 lrp
  go_wp2_with fail
  refine (refOut_any w0 b ow rp fo R T P 0 x m _ SQ.out HLE0.out (by have := HFL.out; omega) HX.out HOK.out hd L0.out hm).mono ?_
  rintro e w1 ⟨ow1, rfl, hS1, ht1, ho1⟩
  have TB1 := hid ((Turn.of_new (S := refs b ow rp fo) NQ.out).trans ht1)
  have OB : Hid (∀ k, ow1 = some k → ow = some k ∨ w.heap.size ≤ k) := hid fun k hk => (ho1 k hk).imp id (Nat.le_trans NQ.out.size)
  by_cases hoe : outE R T x.2 = 0
  case neg =>
    have q2 : (outE R T x.2 == 0) = false := by simpa using hoe
    have q3 : (outE R T x.2 != 0) = true := by simpa using hoe
    have HOE := hid hoe
    have S1 := hid hS1
    clear hoe hS1 ht1 ho1
    go_wp2
    go_ret
    exact ⟨ow1, fo, TB1.out, OB.out, fun k hk => .inl hk, .inl ⟨HOE.out, rfl, S1.out⟩⟩
  have HOE := hid hoe
  have HUP := hid (out_up hoe hd)
  have L1 := hid (L0.out.out T x.2)
  have HL1 : Hid ((setI P 0 (outF R T x.2)).frames.length = P.size) := hid (by have := HFL.out; simp [setI, this])
  have HR1 : Hid ((setI P 0 (outF R T x.2)).reads = P.reads) := hid rfl
  rw [hoe]
  clear hoe hd ht1 ho1
  obtain ⟨R2, hR2⟩ : ∃ z, z = outA R T x.2 := ⟨_, rfl⟩
  obtain ⟨T2, hT2⟩ : ∃ z, z = outT R T x.2 := ⟨_, rfl⟩
  obtain ⟨P1, hP1⟩ : ∃ z, z = setI P 0 (outF R T x.2) := ⟨_, rfl⟩
  rw [← hR2, ← hT2, ← hP1] at hS1
  rw [← hR2] at HUP L1
  rw [← hP1] at HL1 HR1
  have HR2 := hid hR2
  have HT2 := hid hT2
  have HP1 := hid hP1
  have S1 := hid hS1
  clear hR2 hT2 hP1 hS1
  obtain ⟨p, c, hh, hown, hfo⟩ := rsys_full S1.out
  have hc := cells_of hh
  have hz := frozen_of hh
  unfold rpCells at hc
  obtain ⟨g, cap, e, _, hg⟩ := hown.form (by have := HL1.out; omega)
  injection e with e1 e8 e9
  subst e1
  have LC : P1.frames.length ≤ c := by
    rcases hown.2 with ⟨e, _⟩ | ⟨g', cap', cur, e, _, hh, h4, _⟩
    · cases e
    · injection e with _ _ e
      omega
  have qc : ¬ c = 1 := by have := HL1.out; omega
  have ql : 1 ≤ P1.frames.length := by have := HL1.out; omega
  have ql2 : P1.frames.length ≤ 100000 := by have h1 := HL1.out; have h2 := HLE0.out; have h3 := HFL.out; omega
  have LRP : Hid (rp < w1.heap.size) := hid (Array.getElem?_eq_some_iff.1 hh).1
  have LG := hid hg
  have NA := hid ((New.refl w1).alloc #[] 104)
  have HC4 : Hid (∀ j u, (rfVals (P1.frames.drop 1))[j]? = some u → w1.cell? ⟨g, 4 + j, none⟩ = some u) := hid fun j u hj => by
    have e : rfVals P1.frames = rfVals (P1.frames.take 1) ++ rfVals (P1.frames.drop 1) := by rw [← rfVals_append, List.take_append_drop]
    have e2 : (rfVals (P1.frames.take 1)).length = 4 := by rw [rfVals_length, List.length_take]; omega
    have hlt : 4 + j < P1.frames.length * 4 := by
      have := (List.getElem?_eq_some_iff.1 hj).1
      rw [rfVals_length, List.length_drop] at this
      omega
    have := hown.cellAt (4 + j) (by omega)
    rw [this, e, List.getElem?_append_right (by omega), e2, Nat.add_sub_cancel_left]
    exact hj
  have HLD : Hid ((P1.frames.drop 1).length = P1.frames.length - 1) := hid (List.length_drop)
  have HH1 := hid hh
  have hc5 := hc 5
  have hz5 := hz 5
  have hc5b := (NA.out.cell rp 5 LRP.out).trans hc5
  have hz5b := ((bcell NA.out).2 rp 5 LRP.out).trans hz5
  clear hown hfo e8 e9 hh hc hz LC
  go_wp2_with (at_builtin; refine app_rf rfl _ _ rfl w1.heap.size _ 0 [] rfl (World.ownsRow_lit w1 #[] 0 (Nat.le_refl _) (by decide) rfl) ⟨g, 4, none⟩ (P1.frames.length - 1) (c - 1) (rfVals (P1.frames.drop 1)) rfl (by rw [rfVals_length, HLD.out]) (fun j u hj => by rw [add_at]; exact (NA.out.cell g _ LG.out).trans (HC4.out j u hj)) (rfVals_one _) ?cb ?cc ?_)
  case cb => omega
  case cc => simp
  intro v6 w6 own6 grow6 blk6
  have own6 : w6.ownsRow w1.heap.size 104 4 v6 (P1.frames.length - 1) (rfVals (P1.frames.drop 1)) := by simpa using own6
  obtain ⟨p6, c6, rfl⟩ := own_len own6
  have N6 := hid (NA.out.grown grow6 NA.out.size (fun k hk => by simp [Value.ownBlock] at hk; omega))
  have hH6 := (Below.block N6.out rp LRP.out).trans HH1.out
  have c6b := cells_of hH6 5
  have z6b := frozen_of hH6 5
  obtain ⟨P2, hP2⟩ : ∃ z, z = dropP P1 := ⟨_, rfl⟩
  have hL2 : P2.frames.length = P1.frames.length - 1 := by rw [hP2]; simp [dropP]
  have hown6 : w6.ownsRow 0 104 4 (.slice p6 (P1.frames.length - 1) c6) P2.frames.length (rfVals P2.frames) := by
    rw [hL2, hP2]
    exact own_zero own6
  obtain ⟨hS2, hT2⟩ := (S1.out.newer N6.out).relaid (P' := P2) hown6 (fun k hk => Nat.le_trans S1.out.new.size (own6.lt k hk).1) (by rw [hP2]; rfl) (by rw [hP2]; rfl)
  have S2 := hid hS2
  have FB1 : Hid (∀ k, (Value.slice p6 (P1.frames.length - 1) c6).ownBlock = some k → fo = some k ∨ w.heap.size ≤ k) := hid fun k hk => .inr (Nat.le_trans TB1.out.size (own6.lt k hk).1)
  have TB := hid (refs_trans2 TB1.out OB.out (fun k hk => .inl hk) ((Turn.of_new N6.out).trans (hT2.mono fun k _ h => .inr (.inl h))))
  have HP2 := hid hP2
  have HLE : Hid (P2.frames.length ≤ 100000) := hid (by omega)
  have HRD : Hid (P2.reads ≤ 1000000000) := hid (by rw [hP2]; have h1 := HR1.out; have h2 := HRD0.out; show P1.reads ≤ _; omega)
  have HRE : Hid (readE R2 (n : Int) = 0) := hid (read_up HUP.out hn2)
  obtain ⟨fo2, hfo2⟩ : ∃ z, z = (Value.slice p6 (P1.frames.length - 1) c6).ownBlock := ⟨_, rfl⟩
  rw [← hfo2] at S2 FB1
  have FB := FB1
  clear own6 grow6 blk6 hH6 hc5b hz5b hc5 hz5 hS2 hT2 hP2 hL2 hown6 hfo2 FB1
  obtain ⟨p, c, hc, hf, -, -⟩ := rsys_open S2.out
  unfold rpCells at hc
  go_wp2_with fail
  refine (refRead_any b _ (R2) (n : Int) _ S2.out.disk L1.out.small (by have := L1.out.waits; omega)).mono ?_
  rintro e w3 ⟨v3, rfl, hc3, hn3⟩
  have S3 := hid (S2.out.newer hn3)
  have N3 := hid hn3
  have C3 := hid hc3
  clear hc hf hc3 hn3
  obtain ⟨p3, k3, rfl, -⟩ := id C3.out.1
  have HSZ : Hid ((readB (R2) (n : Int)).data.toList.length ≤ 1000000) := hid (by
    have hre := HRE.out
    have h1 : (readB (R2) (n : Int)).size ≤ 340 := by
      unfold readB
      rw [if_pos hre]
      refine L1.out.small.lay _ ?_
      omega
    rw [← bytesOf_data (readB (R2) (n : Int)), bytesOf_size] at h1
    omega)
  go_wp2_with fail
  refine (refPageOf_any _ (readB (R2) (n : Int)).data.toList _ (by rw [bytesOf_data]; exact C3.out.1) HSZ.out).mono ?_
  rintro e w4 ⟨p4, k4, c4, st4, er4, rfl, n4, hyes, hno⟩
  have S4 := hid (S3.out.newer n4)
  have N4 := hid (N3.out.trans n4)
  clear n4
  by_cases hpe : pageE (readB (R2) (n : Int)).data.toList = true
  · obtain ⟨rfl, rfl, rfl, hct⟩ := hyes hpe
    have CT := hid hct
    have HPE := hid hpe
    have SR := S4
    have kc := (CT.out.1.renew (New.refl w4).drew).convert (P := Tryz.prog) 29 5 9 Tryz.underlying29 Tryz.underlying5 Tryz.underlying9
    obtain ⟨sz, hsz⟩ : ∃ s, bytesOf (pageL (readB (R2) (n : Int)).data.toList) = s := ⟨_, rfl⟩
    obtain ⟨sp, hsp⟩ : ∃ z, frontN (readB (R2) (n : Int)).data.toList = z := ⟨_, rfl⟩
    rw [hsz] at kc
    rw [hsp]
    obtain ⟨F, hF⟩ : ∃ F, F = frameOf n (readB (R2) (n : Int)).data.toList := ⟨_, rfl⟩
    have HFE := hid hF
    have HFV : Hid (rfCells F = [.int .i64 (n : Int), .int .i64 sp, .string sz, .bool false]) := hid (by
      rw [hF]
      unfold frameOf
      rw [if_pos HPE.out]
      simp only [rfCells]
      rw [hsz, Int.toNat_of_nonneg (frontN_nonneg _), hsp])
    clear hF
    clear hyes hno hct hpe hsz hsp
    go_wp2_with fail
    obtain ⟨pr, cr, hh, hown, hfo⟩ := rsys_full SR.out
    have hc := cells_of hh
    have hz := frozen_of hh 5
    unfold rpCells at hc
    have OWNR := hid hown
    have HHR := hid hh
    have HFO := hid hfo
    have lrp : rp < w4.heap.size := (Array.getElem?_eq_some_iff.1 hh).1
    have LRP := hid lrp
    have HN5 := hid (((New.refl w4).alloc #[.int .i64 (n : Int), .int .i64 sp, .string sz, .bool false] 104).drew)
    have hqb : ∀ k', (Value.slice pr P2.frames.length cr).ownBlock = some k' → ¬ k' = rp := fun k' h e => by
      obtain ⟨c', hc'⟩ := own_base hown h
      rw [e] at hc'
      exact types_ne hc' hh (by decide)
    have HQ := hid hqb
    have c5 := hc 5
    have z5 := hz
    have c5b := (HN5.out.cell rp 5 lrp).trans c5
    have z5b := ((bcell HN5.out).2 rp 5 lrp).trans z5
    clear hown hfo hqb hz hh
    go_region_law (refine step_rf rfl _ _ rfl 0 _ _ _ rfl (own_old OWNR.out HN5.out) ⟨w4.heap.size, 0, none⟩ 1 1 #[.int .i64 (n : Int), .int .i64 sp, .string sz, .bool false].toList rfl rfl (fun j u hj => by rw [add_at, Nat.zero_add]; exact (cells_of (heap_alloc_new w4 _) j).trans (by simpa using hj)) (by simp [Value.oneCell']) (by have := HLE.out; omega) (Nat.zero_le _) ?_; intro v6 w6 own6 grow6 blk6; obtain ⟨p6, c6, rfl⟩ := own_len own6; have l6 : rp < ((w4.alloc (.cells #[.int .i64 (n : Int), .int .i64 sp, .string sz, .bool false] 104)).drew).heap.size := Nat.lt_of_lt_of_le LRP.out HN5.out.size; have c6 := grow6.cell_far ⟨rp, 5, none⟩ l6 (fun e => HQ.out _ e.symm rfl); have z6 := grow6.frozen_far ⟨rp, 5, none⟩ l6 (fun e => HQ.out _ e.symm rfl); rw [HN5.out.cell rp 5 LRP.out, c5] at c6; rw [(bcell HN5.out).2 rp 5 LRP.out, z5] at z6)
    all_goals
      have NW5 := HN5.out
      have hfv : rfVals (moreP P2 (k, F)).frames = rfVals P2.frames ++ #[.int .i64 (n : Int), .int .i64 sp, .string sz, .bool false].toList := by unfold moreP; rw [rfVals_append, show rfVals [(k, F)] = rfCells F by simp [rfVals], HFV.out]
      have hlen : (moreP P2 (k, F)).frames.length = P2.frames.length + 1 := by simp [moreP]
      obtain ⟨S6, T6, O6⟩ := rsys_grown (SR.out.newer NW5) (P' := { P2 with frames := P2.frames ++ [(k, F)] }) ((Below.block NW5 rp LRP.out).trans HHR.out) HFO.out grow6 (by rw [show ({ P2 with frames := P2.frames ++ [(k, F)] } : APool).frames = (moreP P2 (k, F)).frames from rfl, hfv, hlen]; exact own6) blk6 rfl rfl
      have T7 := hid ((Turn.of_new (S := refs b _ rp _) (N4.out.trans NW5)).trans T6)
      have S7 := hid S6
      have O7 := hid O6
      obtain ⟨p8, c8, hh8, -, -⟩ := rsys_full S6
      have hc8 := cells_of hh8
      have hz8 := frozen_of hh8
      unfold rpCells at hc8
      have HH8 := hid hh8
      have NSZ := hid (Nat.le_trans N4.out.size NW5.size)
      clear S6 T6 O6 hh8 hfv hlen own6 grow6 blk6 c6 z6 c5 z5 c5b z5b hc NW5
      generalize hw7 : w6.setCell ⟨rp, 5, none⟩ (.slice p6 (P2.frames.length + 1) c6) = w7 at *
      clear hw7
      have qrd := HRD.out
      go_wp2
      go_ret
      have ht9 := turn_set w7 rp 6 (.int .i64 ((P2.reads : Int) + 1))
      have S9 := S7.out.cells (T' := T2) (P' := moreP P2 (k, F)) ht9 (fun v hv => heap_setCell_same w7 rp 6 _ 67 _ hv) rfl
      rw [HFE.out] at S9
      have hT := refs_trans2 TB.out OB.out FB.out (T7.out.trans (ht9.mono fun k _ h => .inr (.inl h)))
      have hO := OB.out
      have hF : ∀ j, (Value.slice p6 (P2.frames.length + 1) c6).ownBlock = some j → fo = some j ∨ w.heap.size ≤ j := fun j hj => by
        rcases O7.out j hj with h | h
        · exact FB.out j h
        · exact .inr (Nat.le_trans TB.out.size (Nat.le_trans NSZ.out h))
      exact ⟨_, _, hT, hO, hF, .inr ⟨HOE.out, rfl, by rw [← HR2.out, ← HT2.out, ← HP1.out, ← HP2.out]; exact S9⟩⟩
  
  · obtain ⟨rfl, rfl, hvn⟩ := hno (by simpa using hpe)
    injection hvn with hv1 hv2 hv3
    subst hv1 hv2 hv3
    have HPE := hid hpe
    clear hyes hno hpe
    have mz := make_zero
    have CZ : Hid (Content (w4.alloc (.cells (Array.replicate 128 (.int .u8 0)) 5)) (.slice (some ⟨w4.heap.size, 0, none⟩) 128 128) zero128) := hid (by
      have := Content.made w4 zero128 128 (List.replicate 128 (.int .u8 0)) (by simp [zero128, bytesOf_size]) (by decide) (by simp [zero128, byteVals, bytesOf, List.map_replicate])
      have e : (List.replicate 128 (Value.int .u8 0)).toArray = Array.replicate 128 (.int .u8 0) := by kernel_rfl
      rw [e] at this
      exact this)
    have NZ := hid ((New.refl w4).alloc (Array.replicate 128 (.int .u8 0)) 5)
    have SR := hid (S4.out.newer NZ.out)
    have N5 := hid (N4.out.trans NZ.out)
    go_wp2_with fail
    generalize w4.alloc (.cells (Array.replicate 128 (.int .u8 0)) 5) = w5 at *
    have kc := (CZ.out.1.renew (New.refl w5).drew).convert (P := Tryz.prog) 29 5 9 Tryz.underlying29 Tryz.underlying5 Tryz.underlying9
    obtain ⟨sz, hsz⟩ : ∃ s, zero128 = s := ⟨_, rfl⟩
    rw [hsz] at kc
    obtain ⟨F, hF⟩ : ∃ F, F = frameOf n (readB (R2) (n : Int)).data.toList := ⟨_, rfl⟩
    have HFE := hid hF
    have HFV : Hid (rfCells F = [.int .i64 (n : Int), .int .i64 0, .string sz, .bool false]) := hid (by
      rw [hF]
      unfold frameOf
      rw [if_neg HPE.out]
      simp only [rfCells]
      rw [hsz]
      rfl)
    clear hF hsz mz
    obtain ⟨pr, cr, hh, hown, hfo⟩ := rsys_full SR.out
    have hc := cells_of hh
    have hz := frozen_of hh 5
    unfold rpCells at hc
    have OWNR := hid hown
    have HHR := hid hh
    have HFO := hid hfo
    have lrp : rp < w5.heap.size := (Array.getElem?_eq_some_iff.1 hh).1
    have LRP := hid lrp
    have HN5 := hid (((New.refl w5).alloc #[.int .i64 (n : Int), .int .i64 0, .string sz, .bool false] 104).drew)
    have hqb : ∀ k', (Value.slice pr P2.frames.length cr).ownBlock = some k' → ¬ k' = rp := fun k' h e => by
      obtain ⟨c', hc'⟩ := own_base hown h
      rw [e] at hc'
      exact types_ne hc' hh (by decide)
    have HQ := hid hqb
    have c5 := hc 5
    have z5 := hz
    have c5b := (HN5.out.cell rp 5 lrp).trans c5
    have z5b := ((bcell HN5.out).2 rp 5 lrp).trans z5
    clear hown hfo hqb hz hh
    go_region_law (refine step_rf rfl _ _ rfl 0 _ _ _ rfl (own_old OWNR.out HN5.out) ⟨w5.heap.size, 0, none⟩ 1 1 #[.int .i64 (n : Int), .int .i64 0, .string sz, .bool false].toList rfl rfl (fun j u hj => by rw [add_at, Nat.zero_add]; exact (cells_of (heap_alloc_new w5 _) j).trans (by simpa using hj)) (by simp [Value.oneCell']) (by have := HLE.out; omega) (Nat.zero_le _) ?_; intro v6 w6 own6 grow6 blk6; obtain ⟨p6, c6, rfl⟩ := own_len own6; have l6 : rp < ((w5.alloc (.cells #[.int .i64 (n : Int), .int .i64 0, .string sz, .bool false] 104)).drew).heap.size := Nat.lt_of_lt_of_le LRP.out HN5.out.size; have c6 := grow6.cell_far ⟨rp, 5, none⟩ l6 (fun e => HQ.out _ e.symm rfl); have z6 := grow6.frozen_far ⟨rp, 5, none⟩ l6 (fun e => HQ.out _ e.symm rfl); rw [HN5.out.cell rp 5 LRP.out, c5] at c6; rw [(bcell HN5.out).2 rp 5 LRP.out, z5] at z6)
    all_goals
      have NW5 := HN5.out
      have hfv : rfVals (moreP P2 (k, F)).frames = rfVals P2.frames ++ #[.int .i64 (n : Int), .int .i64 0, .string sz, .bool false].toList := by unfold moreP; rw [rfVals_append, show rfVals [(k, F)] = rfCells F by simp [rfVals], HFV.out]
      have hlen : (moreP P2 (k, F)).frames.length = P2.frames.length + 1 := by simp [moreP]
      obtain ⟨S6, T6, O6⟩ := rsys_grown (SR.out.newer NW5) (P' := { P2 with frames := P2.frames ++ [(k, F)] }) ((Below.block NW5 rp LRP.out).trans HHR.out) HFO.out grow6 (by rw [show ({ P2 with frames := P2.frames ++ [(k, F)] } : APool).frames = (moreP P2 (k, F)).frames from rfl, hfv, hlen]; exact own6) blk6 rfl rfl
      have T7 := hid ((Turn.of_new (S := refs b _ rp _) (N5.out.trans NW5)).trans T6)
      have S7 := hid S6
      have O7 := hid O6
      obtain ⟨p8, c8, hh8, -, -⟩ := rsys_full S6
      have hc8 := cells_of hh8
      have hz8 := frozen_of hh8
      unfold rpCells at hc8
      have HH8 := hid hh8
      have NSZ := hid (Nat.le_trans N5.out.size NW5.size)
      clear S6 T6 O6 hh8 hfv hlen own6 grow6 blk6 c6 z6 c5 z5 c5b z5b hc NW5
      generalize hw7 : w6.setCell ⟨rp, 5, none⟩ (.slice p6 (P2.frames.length + 1) c6) = w7 at *
      clear hw7
      have qrd := HRD.out
      go_wp2
      go_ret
      have ht9 := turn_set w7 rp 6 (.int .i64 ((P2.reads : Int) + 1))
      have S9 := S7.out.cells (T' := T2) (P' := moreP P2 (k, F)) ht9 (fun v hv => heap_setCell_same w7 rp 6 _ 67 _ hv) rfl
      rw [HFE.out] at S9
      have hT := refs_trans2 TB.out OB.out FB.out (T7.out.trans (ht9.mono fun k _ h => .inr (.inl h)))
      have hO := OB.out
      have hF : ∀ j, (Value.slice p6 (P2.frames.length + 1) c6).ownBlock = some j → fo = some j ∨ w.heap.size ≤ j := fun j hj => by
        rcases O7.out j hj with h | h
        · exact FB.out j h
        · exact .inr (Nat.le_trans TB.out.size (Nat.le_trans NSZ.out h))
      exact ⟨_, _, hT, hO, hF, .inr ⟨HOE.out, rfl, by rw [← HR2.out, ← HT2.out, ← HP1.out, ← HP2.out]; exact S9⟩⟩
  
end Go.Proofs.YtdccbceaajnajaaGreat

namespace Go.Proofs.YtdccbceaajnajaaGreat
open Go.RowKit
set_option linter.unusedSimpArgs false
set_option linter.unusedVariables false

theorem find_same (l : List (Nat × AFrame)) (n : Nat) : l.findIdx? (fun p => decide ((p.2.page : Int) = (n : Int))) = l.findIdx? (fun p => p.2.page == n) := by
  congr 1
  funext p
  by_cases h : p.2.page = n
  · simp [h]
  · have : ¬ ((p.2.page : Int) = (n : Int)) := by omega
    simp [h, this]
theorem setF_setI {P : APool} {i : Nat} {x : Nat × AFrame} (hnd : (P.frames.map (·.1)).Nodup) (hx : P.frames[i]? = some x) (g : AFrame) : setF P x.1 g = setI P i g := by
  have : (P.frames.map fun p => if p.1 = x.1 then (p.1, g) else p) = P.frames.modify i fun p => (p.1, g) := by
    apply List.ext_getElem?
    intro j
    rw [List.getElem?_map, List.getElem?_modify]
    cases hj : P.frames[j]? with
    | none => rfl
    | some y =>
      by_cases e : i = j
      · subst e
        rw [hx] at hj
        injection hj with hj
        subst hj
        simp
      · have hne : y.1 ≠ x.1 := fun h => by
          have h1 : (P.frames.map (·.1))[i]? = some x.1 := by rw [List.getElem?_map, hx]; rfl
          have h2 : (P.frames.map (·.1))[j]? = some x.1 := by rw [List.getElem?_map, hj]; simp [h]
          have l1 := (List.getElem?_eq_some_iff.1 h1).1
          exact e ((List.getElem?_inj l1 hnd).1 (h1.trans h2.symm))
        simp [e, hne]
  unfold setF setI
  rw [this]
def RUseBack (w0 : World) (b : Nat) (ow : Option Nat) (rp : Nat) (fo : Option Nat) (U : Used) (w : World) (e : Ending) (w' : World) : Prop :=
  ∃ ow' fo', e = .returned (.int .i64 U.e) ∧ RSys w0 w' b ow' rp fo' U.A U.T U.P ∧ Turn (refs b ow rp fo) w w' ∧ (∀ k, ow' = some k → ow = some k ∨ w.heap.size ≤ k) ∧ (∀ k, fo' = some k → fo = some k ∨ w.heap.size ≤ k)

set_option maxRecDepth 10000 in
theorem refUse_any (w0 : World) (b : Nat) (ow : Option Nat) (rp : Nat) (fo : Option Nat) (R : ADisk) (T : ATape) (P : APool) (n k m : Nat) (w : World) (S : RSys w0 w b ow rp fo R T P) (hl : P.frames.length ≤ 100000) (hsz : 2 ≤ P.size) (hnd : (P.frames.map (·.1)).Nodup) (ok : ∀ p ∈ P.frames, FrameOk p.2) (hd : R.down = false) (hn2 : n < 120) (L : Lim R m) (hm : m ≤ 90000) (hrd : P.reads ≤ 1000000000) :
    Calls Tryz.prog 67 #[.pointer (some ⟨rp, 0, none⟩), .int .i64 (n : Int)] w (RUseBack w0 b ow rp fo (useU R T P n k) w) := by
  have hre := read_up (A := R) hd hn2
  cases hf : P.frames.findIdx? (fun p => p.2.page == n) with
  | some i =>
    obtain ⟨hi, hp, hb⟩ := List.findIdx?_eq_some_iff_getElem.1 hf
    have hx : P.frames[i]? = some P.frames[i] := List.getElem?_eq_getElem hi
    have hfn : findN P.frames (n : Int) = (i : Int) := by unfold findN; rw [find_same, hf]
    have hu : useU R T P n k = ⟨0, R, T, hitP P i P.frames[i]⟩ := by unfold useU; rw [hf]; simp only [hx]
    rw [hu]
    refine (refUse_hit w0 b ow rp fo R T P n i P.frames[i] w S hl hi hx hfn hd).mono ?_
    rintro e w' ⟨fo', he, hS, ht, hfo⟩
    exact ⟨ow, fo', he, hS, ht, fun j hj => .inl hj, hfo⟩
  | none =>
    have hfn : findN P.frames (n : Int) = -1 := by unfold findN; rw [find_same, hf]
    have hu : useU R T P n k = missU R T P n k := by unfold useU; rw [hf]
    rw [hu]
    by_cases hfull : P.frames.length = P.size
    · have h0 : 0 < P.frames.length := by omega
      have hx : P.frames[0]? = some P.frames[0] := List.getElem?_eq_getElem h0
      have hok := ok _ (List.getElem_mem h0)
      generalize P.frames[0] = x at hx hok
      refine (refUse_full w0 b ow rp fo R T P x n k m w S hl hsz hfull hx hok hfn hd hn2 L hm hrd).mono ?_
      rintro e w' ⟨ow', fo', ht, ho, hfo, hc⟩
      have hsf := setF_setI hnd hx (outF R T x.2)
      rcases hc with ⟨h0, he, hS⟩ | ⟨h0, he, hS⟩
      · have hm' : missU R T P n k = ⟨outE R T x.2, outA R T x.2, outT R T x.2, setI P 0 (outF R T x.2)⟩ := by unfold missU; rw [if_pos hfull]; simp only [hx]; rw [if_neg h0, hsf]
        rw [hm']
        exact ⟨ow', fo', he, hS, ht, ho, hfo⟩
      · have hre2 := read_up (A := outA R T x.2) (out_up h0 hd) hn2
        have hlen : (setI P 0 (outF R T x.2)).frames.length = (setI P 0 (outF R T x.2)).size := by simp [setI, hfull]
        have hm' : missU R T P n k = ⟨0, outA R T x.2, outT R T x.2, moreP (dropP (setI P 0 (outF R T x.2))) (k, frameOf n (readB (outA R T x.2) (n : Int)).data.toList)⟩ := by
          unfold missU
          rw [if_pos hfull]
          simp only [hx]
          rw [if_pos h0, hsf]
          unfold readU
          rw [if_pos hre2]
          unfold readP moreP dropP
          rw [if_pos hlen]
        rw [hm']
        exact ⟨ow', fo', he, hS, ht, ho, hfo⟩
    · refine (refUse_miss w0 b ow rp fo R T P n k m w S hl hfull hfn hd hre hn2 L (by omega) hrd).mono ?_
      rintro e w' ⟨ow', fo', he, hS, ht, ho, hfo⟩
      have hm' : missU R T P n k = ⟨0, R, T, moreP P (k, frameOf n (readB R (n : Int)).data.toList)⟩ := by
        unfold missU
        rw [if_neg hfull]
        unfold readU
        rw [if_pos hre]
        unfold readP moreP
        rw [if_neg hfull]
      rw [hm']
      exact ⟨ow', fo', he, hS, ht, ho, hfo⟩
end Go.Proofs.YtdccbceaajnajaaGreat
