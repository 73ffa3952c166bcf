/- The specification's pool: out. (written by rout.py) -/
import Derived.Test.YtdccbceaajnajaaGreatS2
namespace Go.Proofs.YtdccbceaajnajaaGreat
open Go.RowKit
set_option linter.unusedSimpArgs false
set_option linter.unusedVariables false

/-- One frame is another one. -/
def setI (P : APool) (i : Nat) (g : AFrame) : APool := { P with frames := P.frames.modify i fun p => (p.1, g) }
theorem setI_same {P : APool} {i : Nat} {x : Nat × AFrame} (h : P.frames[i]? = some x) : setI P i x.2 = P := by
  have : P.frames.modify i (fun p => (p.1, x.2)) = P.frames := by
    apply List.ext_getElem?
    intro j
    rw [List.getElem?_modify]
    by_cases e : i = j
    · subst e
      rw [h]
      simp
    · simp [e]
  unfold setI
  rw [this]
theorem rfVals_modify (l : List (Nat × AFrame)) (i : Nat) (x : Nat × AFrame) (h : l[i]? = some x) : rfVals (l.modify i fun p => (p.1, { x.2 with dirty := false })) = (rfVals l).set (i * 4 + 3) (.bool false) := by
  induction l generalizing i with
  | nil => simp at h
  | cons a l ih =>
    cases i with
    | zero =>
      simp at h
      subst h
      simp [rfVals, rfCells]
    | succ i =>
      have := ih i (by simpa using h)
      have e : (i + 1) * 4 + 3 = i * 4 + 3 + 4 := by omega
      simp only [rfVals, rfCells, List.modify_succ_cons, List.flatMap_cons] at *
      rw [this, e]
      simp
theorem own_set {w : World} {base : Nat} {e : TypeId} {sz : Nat} {g n c : Nat} {xs : List Value} (h : w.ownsRow base e sz (.slice (some ⟨g, 0, none⟩) n c) n xs) {j : Nat} (hj : j < xs.length) (u : Value) :
    (w.setCell ⟨g, j, none⟩ u).ownsRow base e sz (.slice (some ⟨g, 0, none⟩) n c) n (xs.set j u) := by
  rcases h.2 with ⟨e, _⟩ | ⟨g', cap, cur, e1, h1, h2, h3, h4, h5, h6⟩
  · cases e
  · injection e1 with e1 _ e9
    injection e1 with e1
    injection e1 with e1 _ _
    subst e1 e9
    refine ⟨by rw [List.length_set]; exact h.1, .inr ⟨g, c, cur.setIfInBounds j u, rfl, h1, ?_, h3, h4, by simpa using h5, ?_⟩⟩
    · have := heap_setCell_same w g j cur e u h2
      exact this
    · rw [← h6, Array.toList_setIfInBounds, List.take_set]
theorem rsys_full {w0 w : World} {b rp : Nat} {ow fo : Option Nat} {R : ADisk} {T : ATape} {P : APool} (S : RSys w0 w b ow rp fo R T P) :
    ∃ p c, w.heap[rp]? = some (.cells (rpCells b T P (.slice p P.frames.length c)) 67 (0, 0)) ∧ w.ownsRow 0 104 4 (.slice p P.frames.length c) P.frames.length (rfVals P.frames) ∧ (Value.slice p P.frames.length c).ownBlock = fo := by
  obtain ⟨v, e1, e2, e3⟩ := S.pool
  obtain ⟨p, c, rfl⟩ := own_len e3
  exact ⟨p, c, e1, e3, e2⟩
theorem RSys.clean1 {w0 w : World} {b rp : Nat} {ow fo : Option Nat} {R : ADisk} {T : ATape} {P : APool} (S : RSys w0 w b ow rp fo R T P) {i : Nat} (hi : i < P.frames.length) {x : Nat × AFrame} (hx : P.frames[i]? = some x) {g c : Nat} (hown : w.ownsRow 0 104 4 (.slice (some ⟨g, 0, none⟩) P.frames.length c) P.frames.length (rfVals P.frames)) (hfo : (Value.slice (some ⟨g, 0, none⟩) P.frames.length c).ownBlock = fo) (e1 : w.heap[rp]? = some (.cells (rpCells b T P (.slice (some ⟨g, 0, none⟩) P.frames.length c)) 67 (0, 0))) :
    RSys w0 (w.setCell ⟨g, i * 4 + 3, none⟩ (.bool false)) b ow rp fo R T (setI P i { x.2 with dirty := false }) ∧ Turn (fun k => fo = some k) w (w.setCell ⟨g, i * 4 + 3, none⟩ (.bool false)) := by
  have hown2 := own_set hown (j := i * 4 + 3) (by rw [rfVals_length]; omega) (.bool false)
  have hfo' : some g = fo := hfo
  have ht : Turn (fun k => fo = some k) w (w.setCell ⟨g, i * 4 + 3, none⟩ (.bool false)) := (turn_set w g (i * 4 + 3) (.bool false)).mono fun k _ h => by rw [h]; exact hfo'.symm
  obtain ⟨cg, hg⟩ := own_base hown (k := g) rfl
  have hgr : ¬ fo = some rp := fun h => by
    rw [← hfo'] at h
    injection h with h
    rw [h] at hg
    exact types_ne hg e1 (by decide)
  have n1 : ¬ fo = some b := fun h => by
    obtain ⟨c', hb⟩ := S.disk.base
    rw [← hfo'] at h
    injection h with h
    exact types_ne hg (h ▸ hb) (by decide)
  have n2 : ∀ k, ow = some k → ¬ fo = some k := fun k hk h => by
    obtain ⟨c', hb⟩ := S.disk.row hk
    rw [← hfo'] at h
    injection h with h
    exact types_ne hg (h ▸ hb) (by decide)
  refine ⟨{ S with disk := S.disk.turn ht n1 n2, pool := ⟨_, ?_, hfo, ?_⟩, new := S.new.turn ht (fun k hk h => by have := S.ff k h; omega) }, ht⟩
  · rw [ht.block rp (Array.getElem?_eq_some_iff.1 e1).1 hgr]
    exact e1
  · have e4 : (setI P i { x.2 with dirty := false }).frames.length = P.frames.length := by simp [setI]
    have e5 : rfVals (setI P i { x.2 with dirty := false }).frames = (rfVals P.frames).set (i * 4 + 3) (.bool false) := rfVals_modify P.frames i x hx
    rw [e4, e5]
    exact hown2

set_option maxHeartbeats 3200000 in
set_option maxRecDepth 100000 in
theorem refOut_any (w0 : World) (b : Nat) (ow : Option Nat) (rp : Nat) (fo : Option Nat) (R : ADisk) (T : ATape) (P : APool) (i : Nat) (x : Nat × AFrame) (m : Nat) (w : World) (S : RSys w0 w b ow rp fo R T P) (hl : P.frames.length ≤ 100000) (hi : i < P.frames.length) (hx : P.frames[i]? = some x) (ok : FrameOk x.2) (hd : R.down = false) (L : Lim R m) (hm : m ≤ 90000) :
    Calls Tryz.prog 71 #[.pointer (some ⟨rp, 0, none⟩), .int .i64 (i : Int)] w (RBack w0 b ow rp fo (.int .i64 (outE R T x.2)) (outA R T x.2) (outT R T x.2) (setI P i (outF R T x.2)) w) := by
  obtain ⟨p, c, hc, hf, hown, -⟩ := rsys_open S
  unfold rpCells at hc
  obtain ⟨g, cap, e, _, hg⟩ := hown.form (by omega)
  injection e with e1 e8 e9
  subst e1
  have hxi : P.frames[i] = x := by rw [List.getElem?_eq_getElem hi] at hx; injection hx
  have d0 := hown.cellAt (i * 4) (by omega)
  have d1 := hown.cellAt (i * 4 + 1) (by omega)
  have d2 := hown.cellAt (i * 4 + 2) (by omega)
  have d3 := hown.cellAt (i * 4 + 3) (by omega)
  obtain ⟨v0, v1, v2, v3⟩ := rfVals_get P.frames i hi
  rw [hxi] at v0 v1 v2 v3
  rw [v0] at d0
  rw [v1] at d1
  rw [v2] at d2
  rw [v3] at d3
  have HS := hid S
  have HOK := hid ok
  have HL := hid L
  have HB := hid (frame_block ok)
  clear S ok L hown e8 e9 v0 v1 v2 v3 hxi hf
  cases hdr : x.2.dirty with
  | false =>
    rw [hdr] at d3
    have e0 : outE R T x.2 = 0 := by simp [outE, hdr]
    have e1 : outF R T x.2 = x.2 := by
      unfold outF
      rw [if_pos e0]
      cases x
      rename_i f
      cases f
      simp at hdr
      simp [hdr]
    have HRES : Hid (∀ w', New w w' → RBack w0 b ow rp fo (.int .i64 (outE R T x.2)) (outA R T x.2) (outT R T x.2) (setI P i (outF R T x.2)) w (.returned (.int .i64 0)) w') := hid fun w' hn => ⟨ow, by rw [e0], by
      rw [e1, setI_same hx]
      simp only [outA, outT, hdr]
      exact HS.out.newer hn, Turn.of_new hn, fun k h => .inl h⟩
    have k0 := cells_of (heap_alloc_new w (.cells #[.int .i64 (x.2.page : Int), .int .i64 (x.2.stamp : Int), .string x.2.b, .bool false] 104))
    have NA := hid ((New.refl w).alloc #[.int .i64 (x.2.page : Int), .int .i64 (x.2.stamp : Int), .string x.2.b, .bool false] 104)
    clear hdr e0 e1
    go_enter Tryz.func71, Tryz.ntmps71
    go_wp2
    go_ret
    exact HRES.out _ NA.out
  | true =>
    rw [hdr] at d3
    have HD := hid hdr
    have hka := heap_alloc_new w (.cells #[.int .i64 (x.2.page : Int), .int .i64 (x.2.stamp : Int), .string x.2.b, .bool true] 104)
    have k0 := cells_of hka
    have KF0 := hid hka
    have na := (New.refl w).alloc #[.int .i64 (x.2.page : Int), .int .i64 (x.2.stamp : Int), .string x.2.b, .bool true] 104
    have NA := hid na
    have SA := hid (HS.out.newer na)
    obtain ⟨p, c, hcA, hfA, -, -⟩ := rsys_open SA.out
    unfold rpCells at hcA
    have NR0 : Hid (∀ k, refs b ow rp fo k → k < w.heap.size) := hid fun k h => refs_lt HS.out h
    clear hka na hdr hfA
    by_cases hst : T.forced < x.2.stamp
    · have q1 : decide ((T.forced : Int) < (x.2.stamp : Int)) = true := by simpa using hst
      have q1n : decide (T.forced < x.2.stamp) = true := by simpa using hst
      have q1p : T.forced < x.2.stamp := hst
      have HST : Hid (outStamped T x.2 = true) := hid (by simpa [outStamped] using hst)
      clear hst
      have lrp : rp < (w.alloc (.cells #[.int .i64 (x.2.page : Int), .int .i64 (x.2.stamp : Int), .string x.2.b, .bool true] 104)).heap.size := refs_lt SA.out (.inr (.inl rfl))
      have lkf : w.heap.size < (w.alloc (.cells #[.int .i64 (x.2.page : Int), .int .i64 (x.2.stamp : Int), .string x.2.b, .bool true] 104)).heap.size := by simp
      have g0 : ∀ Q : After (w.alloc (.cells #[.int .i64 (x.2.page : Int), .int .i64 (x.2.stamp : Int), .string x.2.b, .bool true] 104)), Q.w.cell? ⟨w.heap.size, 1, none⟩ = some (.int .i64 (x.2.stamp : Int)) := fun Q => by rw [Q.new.cell _ _ lkf]; exact k0 1
      have p0 : ∀ Q : After (w.alloc (.cells #[.int .i64 (x.2.page : Int), .int .i64 (x.2.stamp : Int), .string x.2.b, .bool true] 104)), Q.w.cell? ⟨rp, 2, none⟩ = some (.int .i64 (T.forced : Int)) := fun Q => by rw [Q.new.cell _ _ lrp]; exact hcA 2
      have LKF := hid lkf
      clear lrp lkf hcA
      go_enter Tryz.func71, Tryz.ntmps71
      go_wp2_with fail
      refine wp_region_new (by kernel_rfl) (by kernel_rfl) ?_
      repeat (go_big_quiet_step (fail))
      refine wpQuiet_nil ?_
      rintro _ ⟨Q, rfl⟩
      have SQ := hid (SA.out.newer Q.new)
      have NQ := hid (NA.out.trans Q.new)
      have KQ : Hid (Q.w.heap[w.heap.size]? = some (.cells #[.int .i64 (x.2.page : Int), .int .i64 (x.2.stamp : Int), .string x.2.b, .bool true] 104 (0, 0))) := hid ((Below.block Q.new _ LKF.out).trans KF0.out)
      generalize Q.w = wq at *
      clear g0 p0 k0 d0 d1 d2 d3 hc
      go_wp2_with fail
      refine (refForce_any w0 b ow rp fo R T P m _ SQ.out hd HL.out (by omega)).mono ?_
      rintro e w1 ⟨ow1, rfl, hS1, ht1, ho1⟩
      have S1 := hid hS1
      have TB := hid ((Turn.of_new (S := refs b ow rp fo) NQ.out).trans ht1)
      have OB : Hid (∀ k, ow1 = some k → ow = some k ∨ w.heap.size ≤ k) := hid fun k hk => (ho1 k hk).imp id (Nat.le_trans NQ.out.size)
      have lq : w.heap.size < wq.heap.size := (Array.getElem?_eq_some_iff.1 KQ.out).1
      have KF : Hid (w1.heap[w.heap.size]? = some (.cells #[.int .i64 (x.2.page : Int), .int .i64 (x.2.stamp : Int), .string x.2.b, .bool true] 104 (0, 0))) := hid ((ht1.block _ lq (fun h => Nat.lt_irrefl _ (NR0.out _ h))).trans KQ.out)
      have NR : Hid (¬ refs b ow1 rp fo w.heap.size) := hid fun h => by
        rcases h with (h | h) | h | h
        · exact Nat.lt_irrefl _ (NR0.out _ (.inl (.inl h)))
        · rcases ho1 _ h with h | h
          · exact Nat.lt_irrefl _ (NR0.out _ (.inl (.inr h)))
          · omega
        · exact Nat.lt_irrefl _ (NR0.out _ (.inr (.inl h)))
        · exact Nat.lt_irrefl _ (NR0.out _ (.inr (.inr h)))
      have L1 := hid (HL.out.force T)
      clear hS1 ht1 ho1 q1 q1n q1p lq SQ NQ KQ
      by_cases hfe : forceE R T = 0
      · have D1 : Hid (outE1 R T x.2 = 0) := hid (by unfold outE1; rw [HST.out]; exact hfe)
        have D2 : Hid (outA1 R T x.2 = forceA R T) := hid (by unfold outA1; rw [HST.out]; rfl)
        have D3 : Hid (outT1 R T x.2 = forceT R T) := hid (by unfold outT1; rw [HST.out]; rfl)
        rw [hfe]
        clear hfe
        obtain ⟨p, c, hc, hf, hown, -⟩ := rsys_open S1.out
        unfold rpCells at hc
        have k0 := cells_of KF.out
        have ls1 : x.2.b.size ≤ maxLen := by have := HOK.out.size; unfold maxLen; omega
        obtain ⟨kk, wb, kb, cb, nb⟩ := text_bytes _ x.2.b ls1
        have NB := hid nb
        have CB := hid cb
        have SB := hid (S1.out.newer nb)
        have KFB : Hid (wb.heap[w.heap.size]? = some (.cells #[.int .i64 (x.2.page : Int), .int .i64 (x.2.stamp : Int), .string x.2.b, .bool true] 104 (0, 0))) := hid ((Below.block nb _ (Array.getElem?_eq_some_iff.1 KF.out).1).trans KF.out)
        have k1 := cells_of KFB.out
        clear cb nb hf hown
        have HSZ : Hid (x.2.b.data.toList.length ≤ 1000) := hid (by have := HOK.out.size; rw [← bytesOf_data x.2.b, bytesOf_size] at this; omega)
        go_wp2_with fail
        clear kb k0 k1 hc
        refine (refBlock_any _ x.2.b.data.toList (x.2.stamp : Int) _ (by rw [bytesOf_data]; exact CB.out.1) HSZ.out).mono ?_
        rintro e w2 ⟨p2, k2, c2, er2, rfl, n2, hb2, -⟩
        obtain ⟨rfl, rfl, hb3⟩ := hb2 HB.out.1
        rw [← HB.out.2.1] at hb3
        have S2 := hid (SB.out.newer n2)
        have CB2 := hid hb3
        have N2 := hid (NB.out.trans n2)
        have KF2 : Hid (w2.heap[w.heap.size]? = some (.cells #[.int .i64 (x.2.page : Int), .int .i64 (x.2.stamp : Int), .string x.2.b, .bool true] 104 (0, 0))) := hid ((Below.block n2 _ (Array.getElem?_eq_some_iff.1 KFB.out).1).trans KFB.out)
        clear hb2 hb3 n2 KFB CB SB NB
        obtain ⟨p, c, hc, hf, hown, -⟩ := rsys_open S2.out
        unfold rpCells at hc
        have k2 := cells_of KF2.out
        clear hf hown
        have ND := hid ((New.refl w2).drew)
        have S2d := hid (S2.out.newer ND.out)
        have CB2d : Hid (Content w2.drew (.slice p2 136 c2) (outBlk x.2)) := hid (CB2.out.new ND.out)
        have HVB : Hid (0 < (outBlk x.2).size → ∀ k, (Value.slice p2 136 c2).ownBlock = some k → ¬ k = b) := hid fun _ k hk e => by
          obtain ⟨c5, fr5, e5⟩ := CB2d.out.2 k hk
          obtain ⟨cb, eb⟩ := S2d.out.disk.base
          exact types_ne e5 (e ▸ eb) (by decide)
        have KF3 : Hid (∀ w3, Turn (refs b ow1 rp fo) w2.drew w3 → w3.heap[w.heap.size]? = some (.cells #[.int .i64 (x.2.page : Int), .int .i64 (x.2.stamp : Int), .string x.2.b, .bool true] 104 (0, 0))) := hid fun w3 ht => by
          have hlt : w.heap.size < w2.drew.heap.size := (Array.getElem?_eq_some_iff.1 KF2.out).1
          refine (ht.block _ hlt (fun h => ?_)).trans KF2.out
          exact NR.out h
        have TT : Hid (∀ w3, Turn (refs b ow1 rp fo) w2.drew w3 → Turn (refs b ow rp fo) w w3) := hid fun w3 h => TB.out.refs OB.out ((Turn.of_new (N2.out.trans ND.out)).trans h)
        have OO : Hid (∀ o3 : Option Nat, (∀ k, o3 = some k → ow1 = some k ∨ w2.drew.heap.size ≤ k) → ∀ k, o3 = some k → ow = some k ∨ w.heap.size ≤ k) := hid fun o3 h k hk => by
          rcases h k hk with h | h
          · exact OB.out k h
          · exact .inr (Nat.le_trans (Nat.le_trans TB.out.size (N2.out.trans ND.out).size) h)
        go_wp2_with fail
        go_region_with (go_at_call 65; refine (refWrite_any b _ (forceA R T) (x.2.page : Int) _ (outBlk x.2) _ S2d.out.disk CB2d.out.1 HVB.out (by have := L1.out.falls; omega) (by have := L1.out.acts; omega) (by have := L1.out.waits; omega)).mono ?_; intro e w3 hmv; obtain ⟨ow3, he3, hS3, ht3, ho3⟩ := S2d.out.moved hmv; subst he3)
        all_goals
          have S3 := hid hS3
          have T3 := hid ht3
          have K3 := hid (KF3.out _ ht3)
          have O3 := hid ho3
          clear hmv hS3 ht3 ho3 hc k2
          obtain ⟨p, c, hh, hown, hfo⟩ := rsys_full S3.out
          have hc := cells_of hh
          unfold rpCells at hc
          by_cases hwe : writeE (forceA R T) (x.2.page : Int) (outBlk x.2) = 0
          · have D4 : Hid (outE R T x.2 = 0) := hid (by unfold outE; rw [HD.out, if_pos rfl, if_pos D1.out, D2.out, hwe])
            have D5 : Hid (outF R T x.2 = { x.2 with dirty := false }) := hid (by unfold outF; rw [if_pos D4.out])
            have D6 : Hid (outA R T x.2 = writeA (forceA R T) (x.2.page : Int) (outBlk x.2)) := hid (by unfold outA; rw [HD.out, if_pos rfl, if_pos D1.out, D2.out])
            have D7 : Hid (outT R T x.2 = forceT R T) := hid (by unfold outT; rw [HD.out, if_pos rfl, D3.out])
            rw [hwe]
            have OWN := hid hown
            have HFO := hid hfo
            have HHH := hid hh
            obtain ⟨g, cap, e, _, hg⟩ := hown.form (by omega)
            injection e with e1 e8 e9
            subst e1
            have dz : ∀ o, w3.frozen? ⟨g, o, none⟩ = false := by
              rcases hown.2 with ⟨e, _⟩ | ⟨g', cap', cur, e, _, hh, _⟩
              · cases e
              · injection e with e _ _
                injection e with e
                injection e with e _ _
                subst e
                exact frozen_of hh
            have d3 := hown.cellAt (i * 4 + 3) (by omega)
            rw [(rfVals_get P.frames i hi).2.2.2] at d3
            clear hwe hown hfo e8 e9 hh
            go_wp2
            go_ret
            obtain ⟨hS4, hT4⟩ := S3.out.clean1 hi hx OWN.out HFO.out HHH.out
            refine ⟨ow3, by rw [D4.out]; rfl, ?_, (TT.out _ (T3.out.trans (hT4.mono fun k _ h => .inr (.inr h)))), OO.out _ O3.out⟩
            rw [D5.out, D6.out, D7.out]
            exact hS4
          · have q2 : (writeE (forceA R T) (x.2.page : Int) (outBlk x.2) == 0) = false := by simpa using hwe
            have q3 : (writeE (forceA R T) (x.2.page : Int) (outBlk x.2) != 0) = true := by simpa using hwe
            have D4 : Hid (outE R T x.2 = writeE (forceA R T) (x.2.page : Int) (outBlk x.2)) := hid (by unfold outE; rw [HD.out, if_pos rfl, if_pos D1.out, D2.out])
            have D5 : Hid (outF R T x.2 = x.2) := hid (by unfold outF; rw [D4.out, if_neg hwe])
            have D6 : Hid (outA R T x.2 = writeA (forceA R T) (x.2.page : Int) (outBlk x.2)) := hid (by unfold outA; rw [HD.out, if_pos rfl, if_pos D1.out, D2.out])
            have D7 : Hid (outT R T x.2 = forceT R T) := hid (by unfold outT; rw [HD.out, if_pos rfl, D3.out])
            clear hwe hown hh
            go_wp2
            go_ret
            refine ⟨ow3, by rw [D4.out]; rfl, ?_, TT.out _ T3.out, OO.out _ O3.out⟩
            rw [D5.out, D6.out, D7.out, setI_same hx]
            exact S3.out

      · have q2 : (forceE R T == 0) = false := by simpa using hfe
        have q3 : (forceE R T != 0) = true := by simpa using hfe
        have E1 : outE1 R T x.2 = forceE R T := by unfold outE1; rw [HST.out]; rfl
        have D0 : Hid (outE R T x.2 = forceE R T) := hid (by unfold outE; rw [HD.out, if_pos rfl, E1, if_neg hfe])
        have D1 : Hid (outF R T x.2 = x.2) := hid (by unfold outF; rw [D0.out, if_neg hfe])
        have D2 : Hid (outA R T x.2 = forceA R T) := hid (by unfold outA; rw [HD.out, if_pos rfl, E1, if_neg hfe]; unfold outA1; rw [HST.out]; rfl)
        have D3 : Hid (outT R T x.2 = forceT R T) := hid (by unfold outT; rw [HD.out, if_pos rfl]; unfold outT1; rw [HST.out]; rfl)
        clear hfe E1
        go_wp2
        go_ret
        refine ⟨ow1, by rw [D0.out]; rfl, ?_, TB.out, OB.out⟩
        rw [D1.out, D2.out, D3.out, setI_same hx]
        exact S1.out
    · have q1 : decide ((T.forced : Int) < (x.2.stamp : Int)) = false := by simpa using hst
      have q1n : decide (T.forced < x.2.stamp) = false := by simpa using hst
      have q1p : ¬ T.forced < x.2.stamp := hst
      have HST : Hid (outStamped T x.2 = false) := hid (by simpa [outStamped] using hst)
      have D1 : Hid (outE1 R T x.2 = 0) := hid (by unfold outE1; rw [HST.out]; rfl)
      have D2 : Hid (outA1 R T x.2 = R) := hid (by unfold outA1; rw [HST.out]; rfl)
      have D3 : Hid (outT1 R T x.2 = T) := hid (by unfold outT1; rw [HST.out]; rfl)
      clear hst
      have lrp : rp < (w.alloc (.cells #[.int .i64 (x.2.page : Int), .int .i64 (x.2.stamp : Int), .string x.2.b, .bool true] 104)).heap.size := refs_lt SA.out (.inr (.inl rfl))
      have lkf : w.heap.size < (w.alloc (.cells #[.int .i64 (x.2.page : Int), .int .i64 (x.2.stamp : Int), .string x.2.b, .bool true] 104)).heap.size := by simp
      have g0 : ∀ Q : After (w.alloc (.cells #[.int .i64 (x.2.page : Int), .int .i64 (x.2.stamp : Int), .string x.2.b, .bool true] 104)), Q.w.cell? ⟨w.heap.size, 1, none⟩ = some (.int .i64 (x.2.stamp : Int)) := fun Q => by rw [Q.new.cell _ _ lkf]; exact k0 1
      have p0 : ∀ Q : After (w.alloc (.cells #[.int .i64 (x.2.page : Int), .int .i64 (x.2.stamp : Int), .string x.2.b, .bool true] 104)), Q.w.cell? ⟨rp, 2, none⟩ = some (.int .i64 (T.forced : Int)) := fun Q => by rw [Q.new.cell _ _ lrp]; exact hcA 2
      have LKF := hid lkf
      clear lrp lkf hcA
      go_enter Tryz.func71, Tryz.ntmps71
      go_wp2_with fail
      refine wp_region_new (by kernel_rfl) (by kernel_rfl) ?_
      repeat (go_big_quiet_step (fail))
      refine wpQuiet_nil ?_
      rintro _ ⟨Q, rfl⟩
      have S0 := hid (SA.out.newer Q.new)
      have NQ := hid (NA.out.trans Q.new)
      have KF : Hid (Q.w.heap[w.heap.size]? = some (.cells #[.int .i64 (x.2.page : Int), .int .i64 (x.2.stamp : Int), .string x.2.b, .bool true] 104 (0, 0))) := hid ((Below.block Q.new _ LKF.out).trans KF0.out)
      have TB := hid (Turn.of_new (S := refs b ow rp fo) NQ.out)
      have OB : Hid (∀ k, ow = some k → ow = some k ∨ w.heap.size ≤ k) := hid fun k hk => .inl hk
      have NR : Hid (¬ refs b ow rp fo w.heap.size) := hid fun h => Nat.lt_irrefl _ (NR0.out _ h)
      have L1 := hid HL.out
      generalize Q.w = wq at *
      clear g0 p0 k0 d0 d1 d2 d3 hc q1 q1n q1p
      obtain ⟨p, c, hc, hf, hown, -⟩ := rsys_open S0.out
      unfold rpCells at hc
      have k0 := cells_of KF.out
      have ls1 : x.2.b.size ≤ maxLen := by have := HOK.out.size; unfold maxLen; omega
      obtain ⟨kk, wb, kb, cb, nb⟩ := text_bytes _ x.2.b ls1
      have NB := hid nb
      have CB := hid cb
      have SB := hid (S0.out.newer nb)
      have KFB : Hid (wb.heap[w.heap.size]? = some (.cells #[.int .i64 (x.2.page : Int), .int .i64 (x.2.stamp : Int), .string x.2.b, .bool true] 104 (0, 0))) := hid ((Below.block nb _ (Array.getElem?_eq_some_iff.1 KF.out).1).trans KF.out)
      have k1 := cells_of KFB.out
      clear cb nb hf hown
      have HSZ : Hid (x.2.b.data.toList.length ≤ 1000) := hid (by have := HOK.out.size; rw [← bytesOf_data x.2.b, bytesOf_size] at this; omega)
      go_wp2_with fail
      clear kb k0 k1 hc
      refine (refBlock_any _ x.2.b.data.toList (x.2.stamp : Int) _ (by rw [bytesOf_data]; exact CB.out.1) HSZ.out).mono ?_
      rintro e w2 ⟨p2, k2, c2, er2, rfl, n2, hb2, -⟩
      obtain ⟨rfl, rfl, hb3⟩ := hb2 HB.out.1
      rw [← HB.out.2.1] at hb3
      have S2 := hid (SB.out.newer n2)
      have CB2 := hid hb3
      have N2 := hid (NB.out.trans n2)
      have KF2 : Hid (w2.heap[w.heap.size]? = some (.cells #[.int .i64 (x.2.page : Int), .int .i64 (x.2.stamp : Int), .string x.2.b, .bool true] 104 (0, 0))) := hid ((Below.block n2 _ (Array.getElem?_eq_some_iff.1 KFB.out).1).trans KFB.out)
      clear hb2 hb3 n2 KFB CB SB NB
      obtain ⟨p, c, hc, hf, hown, -⟩ := rsys_open S2.out
      unfold rpCells at hc
      have k2 := cells_of KF2.out
      clear hf hown
      have ND := hid ((New.refl w2).drew)
      have S2d := hid (S2.out.newer ND.out)
      have CB2d : Hid (Content w2.drew (.slice p2 136 c2) (outBlk x.2)) := hid (CB2.out.new ND.out)
      have HVB : Hid (0 < (outBlk x.2).size → ∀ k, (Value.slice p2 136 c2).ownBlock = some k → ¬ k = b) := hid fun _ k hk e => by
        obtain ⟨c5, fr5, e5⟩ := CB2d.out.2 k hk
        obtain ⟨cb, eb⟩ := S2d.out.disk.base
        exact types_ne e5 (e ▸ eb) (by decide)
      have KF3 : Hid (∀ w3, Turn (refs b ow rp fo) w2.drew w3 → w3.heap[w.heap.size]? = some (.cells #[.int .i64 (x.2.page : Int), .int .i64 (x.2.stamp : Int), .string x.2.b, .bool true] 104 (0, 0))) := hid fun w3 ht => by
        have hlt : w.heap.size < w2.drew.heap.size := (Array.getElem?_eq_some_iff.1 KF2.out).1
        refine (ht.block _ hlt (fun h => ?_)).trans KF2.out
        exact NR.out h
      have TT : Hid (∀ w3, Turn (refs b ow rp fo) w2.drew w3 → Turn (refs b ow rp fo) w w3) := hid fun w3 h => TB.out.refs OB.out ((Turn.of_new (N2.out.trans ND.out)).trans h)
      have OO : Hid (∀ o3 : Option Nat, (∀ k, o3 = some k → ow = some k ∨ w2.drew.heap.size ≤ k) → ∀ k, o3 = some k → ow = some k ∨ w.heap.size ≤ k) := hid fun o3 h k hk => by
        rcases h k hk with h | h
        · exact OB.out k h
        · exact .inr (Nat.le_trans (Nat.le_trans TB.out.size (N2.out.trans ND.out).size) h)
      go_wp2_with fail
      go_region_with (go_at_call 65; refine (refWrite_any b _ (R) (x.2.page : Int) _ (outBlk x.2) _ S2d.out.disk CB2d.out.1 HVB.out (by have := L1.out.falls; omega) (by have := L1.out.acts; omega) (by have := L1.out.waits; omega)).mono ?_; intro e w3 hmv; obtain ⟨ow3, he3, hS3, ht3, ho3⟩ := S2d.out.moved hmv; subst he3)
      all_goals
        have S3 := hid hS3
        have T3 := hid ht3
        have K3 := hid (KF3.out _ ht3)
        have O3 := hid ho3
        clear hmv hS3 ht3 ho3 hc k2
        obtain ⟨p, c, hh, hown, hfo⟩ := rsys_full S3.out
        have hc := cells_of hh
        unfold rpCells at hc
        by_cases hwe : writeE (R) (x.2.page : Int) (outBlk x.2) = 0
        · have D4 : Hid (outE R T x.2 = 0) := hid (by unfold outE; rw [HD.out, if_pos rfl, if_pos D1.out, D2.out, hwe])
          have D5 : Hid (outF R T x.2 = { x.2 with dirty := false }) := hid (by unfold outF; rw [if_pos D4.out])
          have D6 : Hid (outA R T x.2 = writeA (R) (x.2.page : Int) (outBlk x.2)) := hid (by unfold outA; rw [HD.out, if_pos rfl, if_pos D1.out, D2.out])
          have D7 : Hid (outT R T x.2 = T) := hid (by unfold outT; rw [HD.out, if_pos rfl, D3.out])
          rw [hwe]
          have OWN := hid hown
          have HFO := hid hfo
          have HHH := hid hh
          obtain ⟨g, cap, e, _, hg⟩ := hown.form (by omega)
          injection e with e1 e8 e9
          subst e1
          have dz : ∀ o, w3.frozen? ⟨g, o, none⟩ = false := by
            rcases hown.2 with ⟨e, _⟩ | ⟨g', cap', cur, e, _, hh, _⟩
            · cases e
            · injection e with e _ _
              injection e with e
              injection e with e _ _
              subst e
              exact frozen_of hh
          have d3 := hown.cellAt (i * 4 + 3) (by omega)
          rw [(rfVals_get P.frames i hi).2.2.2] at d3
          clear hwe hown hfo e8 e9 hh
          go_wp2
          go_ret
          obtain ⟨hS4, hT4⟩ := S3.out.clean1 hi hx OWN.out HFO.out HHH.out
          refine ⟨ow3, by rw [D4.out]; rfl, ?_, (TT.out _ (T3.out.trans (hT4.mono fun k _ h => .inr (.inr h)))), OO.out _ O3.out⟩
          rw [D5.out, D6.out, D7.out]
          exact hS4
        · have q2 : (writeE (R) (x.2.page : Int) (outBlk x.2) == 0) = false := by simpa using hwe
          have q3 : (writeE (R) (x.2.page : Int) (outBlk x.2) != 0) = true := by simpa using hwe
          have D4 : Hid (outE R T x.2 = writeE (R) (x.2.page : Int) (outBlk x.2)) := hid (by unfold outE; rw [HD.out, if_pos rfl, if_pos D1.out, D2.out])
          have D5 : Hid (outF R T x.2 = x.2) := hid (by unfold outF; rw [D4.out, if_neg hwe])
          have D6 : Hid (outA R T x.2 = writeA (R) (x.2.page : Int) (outBlk x.2)) := hid (by unfold outA; rw [HD.out, if_pos rfl, if_pos D1.out, D2.out])
          have D7 : Hid (outT R T x.2 = T) := hid (by unfold outT; rw [HD.out, if_pos rfl, D3.out])
          clear hwe hown hh
          go_wp2
          go_ret
          refine ⟨ow3, by rw [D4.out]; rfl, ?_, TT.out _ T3.out, OO.out _ O3.out⟩
          rw [D5.out, D6.out, D7.out, setI_same hx]
          exact S3.out

end Go.Proofs.YtdccbceaajnajaaGreat
