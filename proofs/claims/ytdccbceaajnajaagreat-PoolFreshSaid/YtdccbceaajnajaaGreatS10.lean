/- The specification's pool: Page. The specification's pool: Set. The specification's pool: Out, Frames. -/
import Derived.Test.YtdccbceaajnajaaGreatS7
namespace Go.Proofs.YtdccbceaajnajaaGreat
open Go.RowKit
set_option linter.unusedSimpArgs false
set_option linter.unusedVariables false

theorem frameOf_page (n : Nat) (l : List UInt8) : (frameOf n l).page = n := by
  unfold frameOf
  split <;> rfl
theorem readP_last (P : APool) (k : Nat) (f : AFrame) : ∃ l, (readP P k f).frames = l ++ [(k, f)] := ⟨_, rfl⟩
theorem readU_last {A : ADisk} {T : ATape} {P : APool} {n k : Nat} (h : (readU A T P n k).e = 0) : ∃ l x, (readU A T P n k).P.frames = l ++ [x] ∧ x.2.page = n := by
  unfold readU at h ⊢
  obtain ⟨F, hF⟩ : ∃ F, F = frameOf n (readB A (n : Int)).data.toList := ⟨_, rfl⟩
  have hp : F.page = n := by rw [hF]; exact frameOf_page _ _
  rw [← hF] at h ⊢
  generalize readE A (n : Int) = z at h ⊢
  by_cases hr : z = 0
  · rw [if_pos hr]
    obtain ⟨l, hl⟩ := readP_last P k F
    exact ⟨l, (k, F), hl, hp⟩
  · rw [if_neg hr] at h
    exact absurd h hr
set_option maxRecDepth 10000 in
theorem useU_last {A : ADisk} {T : ATape} {P : APool} {n k : Nat} (hsz : 2 ≤ P.size) (h : (useU A T P n k).e = 0) : ∃ l x, (useU A T P n k).P.frames = l ++ [x] ∧ x.2.page = n := by
  cases hf : P.frames.findIdx? (fun p => p.2.page == n) with
  | some i =>
    obtain ⟨hi, hp, hb⟩ := List.findIdx?_eq_some_iff_getElem.1 hf
    have hx : P.frames[i]? = some P.frames[i] := List.getElem?_eq_getElem hi
    have hu : useU A T P n k = ⟨0, A, T, hitP P i P.frames[i]⟩ := by unfold useU; rw [hf]; simp only [hx]
    rw [hu]
    exact ⟨_, _, rfl, by simpa using hp⟩
  | none =>
    have hu : useU A T P n k = missU A T P n k := by unfold useU; rw [hf]
    rw [hu] at h ⊢
    unfold missU at h ⊢
    by_cases hfull : P.frames.length = P.size
    · have h0 : 0 < P.frames.length := by omega
      have hx : P.frames[0]? = some P.frames[0] := List.getElem?_eq_getElem h0
      rw [if_pos hfull] at h ⊢
      simp only [hx] at h ⊢
      by_cases ho : outE A T P.frames[0].2 = 0
      · rw [if_pos ho] at h ⊢
        exact readU_last h
      · rw [if_neg ho] at h
        exact absurd h ho
    · rw [if_neg hfull] at h ⊢
      exact readU_last h
theorem readU_length {A : ADisk} {T : ATape} {P : APool} {n k : Nat} : (readU A T P n k).P.frames.length ≤ P.frames.length + 1 := by
  unfold readU
  split
  · unfold readP
    simp only [List.length_append, List.length_cons, List.length_nil]
    split
    · rw [List.length_drop]
      omega
    · omega
  · exact Nat.le_succ _
theorem useU_length {A : ADisk} {T : ATape} {P : APool} {n k : Nat} : (useU A T P n k).P.frames.length ≤ P.frames.length + 1 := by
  unfold useU
  split
  · split
    · unfold hitP
      simp only [List.length_append, List.length_cons, List.length_nil, List.length_eraseIdx]
      split <;> omega
    · exact Nat.le_succ _
  · unfold missU
    split
    · split
      · split
        · refine Nat.le_trans readU_length ?_
          rw [setF_length]
          exact Nat.le_refl _
        · rw [setF_length]
          exact Nat.le_succ _
      · exact Nat.le_succ _
    · exact readU_length
def RGotBack (w0 : World) (b : Nat) (ow : Option Nat) (rp : Nat) (fo : Option Nat) (U : Used) (w : World) (e : Ending) (w' : World) : Prop :=
  ∃ ow' fo', Got U w' e ∧ RSys w0 w' b ow' rp fo' U.A U.T U.P ∧ Turn (refs b ow rp fo) w w'

set_option maxHeartbeats 1600000 in
set_option maxRecDepth 100000 in
theorem refPage_any (w0 : World) (b : Nat) (ow : Option Nat) (rp : Nat) (fo : Option Nat) (R : ADisk) (T : ATape) (P : APool) (n : Int) (k m : Nat) (w : World) (S : RSys w0 w b ow rp fo R T P) (hl : P.frames.length ≤ 100000) (hsz : 2 ≤ P.size) (hnd : (P.frames.map (·.1)).Nodup) (ok : ∀ p ∈ P.frames, FrameOk p.2) (hd : R.down = false) (L : Lim R m) (hm : m ≤ 90000) (hrd : P.reads ≤ 1000000000) :
    Calls Tryz.prog 27 #[.pointer (some ⟨rp, 0, none⟩), .int .i64 n] w (RGotBack w0 b ow rp fo (pageU R T P n k) w) := by
  cases hp : isP n with
  | false =>
    have hu : pageU R T P n k = ⟨2, R, T, P⟩ := by unfold pageU; rw [hp]; rfl
    rw [hu]
    go_enter Tryz.func27, Tryz.ntmps27
    go_wp2_with fail
    refine (refIsPage_any n _).mono ?_
    rintro e w' ⟨rfl, rfl⟩
    rw [hp]
    go_wp2
    go_ret3
    exact ⟨ow, fo, .inl ⟨show (2 : Int) ≠ 0 by decide, rfl⟩, S, Turn.refl _ _⟩
  | true =>
    have hu : pageU R T P n k = useU R T P n.toNat k := by unfold pageU; rw [hp, hd]; rfl
    obtain ⟨t, rfl, ht120⟩ := isP_nat hp
    rw [hu, Int.toNat_natCast]
    clear hu
    have HLEN : Hid ((useU R T P t k).P.frames.length ≤ 100001) := hid (Nat.le_trans useU_length (by omega))
    have HLAST := hid (fun h => useU_last (A := R) (T := T) (P := P) (n := t) (k := k) hsz h)
    have HOK := hid (useU_ok (A := R) (T := T) (P := P) (n := t) (k := k) ok ht120)
    go_enter Tryz.func27, Tryz.ntmps27
    go_wp2_with fail
    refine (refIsPage_any _ _).mono ?_
    rintro e w' ⟨rfl, rfl⟩
    rw [hp]
    go_wp2_with fail
    refine (refUse_any w0 b ow rp fo R T P t k m _ S hl hsz hnd ok hd ht120 L hm hrd).mono ?_
    rintro e w1 ⟨ow1, fo1, rfl, hS1, ht1, ho1, hf1⟩
    clear S ok L hnd
    generalize useU R T P t k = U at *
    have S1 := hid hS1
    have T1 := hid ht1
    clear hS1 ht1 ho1 hf1
    by_cases h0 : U.e = 0
    case neg =>
      have q0 : (U.e == 0) = false := by simpa using h0
      have q1 : (U.e != 0) = true := by simpa using h0
      go_wp2
      go_ret3
      exact ⟨ow1, fo1, .inl ⟨h0, rfl⟩, S1.out, T1.out⟩
    obtain ⟨l, x, hx, hpg⟩ := HLAST.out h0
    have HXO := hid (HOK.out x (by rw [hx]; simp))
    obtain ⟨p, c, hh, hown, -⟩ := rsys_full S1.out
    have hc := cells_of hh
    unfold rpCells at hc
    have hlen : U.P.frames.length = l.length + 1 := by rw [hx]; simp
    obtain ⟨g, cap, e, _, hg⟩ := hown.form (by omega)
    injection e with e1 e8 e9
    subst e1
    have hv : ∀ j, j < 4 → w1.cell? ⟨g, l.length * 4 + j, none⟩ = (rfCells x.2)[j]? := fun j hj => by
      have h1 := hown.cellAt (l.length * 4 + j) (by omega)
      rw [h1, hx, rfVals_append, List.getElem?_append_right (by rw [rfVals_length]; omega), rfVals_length, Nat.add_sub_cancel_left]
      simp [rfVals]
    have d0 := hv 0 (by decide)
    have d1 := hv 1 (by decide)
    have d2 := hv 2 (by decide)
    have d3 := hv 3 (by decide)
    unfold rfCells at d0 d1 d2 d3
    have HX := hid hx
    have H0 := hid h0
    have q9 : l.length ≤ 200000 := by have := HLEN.out; omega
    rw [hlen] at hc
    rw [h0]
    have lrp : rp < w1.heap.size := (Array.getElem?_eq_some_iff.1 hh).1
    have LRP := hid lrp
    have LG := hid hg
    have hw : IntKind.i64.wrap (l.length : Int) = (l.length : Int) := by
      unfold IntKind.wrap
      simp [IntKind.bits, IntKind.signed]
      omega
    obtain ⟨Z, hZ⟩ : ∃ Z, Z = Obj.cells #[.int .i64 0, .int .i64 0, .string ⟨#[]⟩, .bool false] 104 := ⟨_, rfl⟩
    have NZ : New w1 (w1.alloc Z).drew := by rw [hZ]; exact ((New.refl w1).alloc _ _).drew
    have c5 := hc 5
    have c5b := (NZ.cell rp 5 lrp).trans c5
    have d0b := (NZ.cell g (l.length * 4 + 0) hg).trans d0
    rw [Nat.add_zero] at d0 d0b
    have qlt : (l.length : Int) < (l.length : Int) + 1 := by omega
    have d1b := (NZ.cell g (l.length * 4 + 1) hg).trans d1
    have d2b := (NZ.cell g (l.length * 4 + 2) hg).trans d2
    have d3b := (NZ.cell g (l.length * 4 + 3) hg).trans d3
    rw [hZ] at c5b d0b d1b d2b d3b
    have SN := hid (S1.out.newer NZ)
    have NZ1 := hid NZ
    have HZ := hid hZ
    clear NZ hZ
    clear hx hpg hh hown e8 e9 hv h0 hlen
    go_wp2_with fail
    go_region
    have ns : New w1 (w1.alloc (.cells #[.int .i64 (x.2.page : Int), .int .i64 (x.2.stamp : Int), .string x.2.b, .bool x.2.dirty] 104)).drew := ((New.refl w1).alloc _ _).drew
    have ka := heap_alloc_new w1 (.cells #[.int .i64 (x.2.page : Int), .int .i64 (x.2.stamp : Int), .string x.2.b, .bool x.2.dirty] 104)
    have kh : ((w1.alloc (.cells #[.int .i64 (x.2.page : Int), .int .i64 (x.2.stamp : Int), .string x.2.b, .bool x.2.dirty] 104)).drew).heap[w1.heap.size]? = some (.cells #[.int .i64 (x.2.page : Int), .int .i64 (x.2.stamp : Int), .string x.2.b, .bool x.2.dirty] 104 (0, 0)) := ka
    have N2 := hid ns
    clear c5 c5b d0 d0b d1 d1b d2 d2b d3 d3b hc ka ns
    go_wp2_with fail
    generalize ((w1.alloc (.cells #[.int .i64 (x.2.page : Int), .int .i64 (x.2.stamp : Int), .string x.2.b, .bool x.2.dirty] 104)).drew) = w2 at *
    obtain ⟨kk, wb, kb, cb, nb⟩ := text_bytes w2.drew x.2.b (by have := HXO.out.size; unfold maxLen; omega)
    have lk : w1.heap.size < w2.heap.size := (Array.getElem?_eq_some_iff.1 kh).1
    have k1 := cells_of kh 1
    have k2 := cells_of kh 2
    have nw := (New.refl w2).drew.trans nb
    have k1b := (nw.cell _ 1 lk).trans k1
    have CB := hid cb
    have NW := hid nw
    clear cb nb kh nw
    go_region
    all_goals
      go_wp2
      go_ret3
      refine ⟨ow1, fo1, .inr ⟨H0.out, l, x, _, _, HX.out, rfl, CB.out⟩, S1.out.newer (N2.out.trans NW.out), T1.out.trans (Turn.of_new (N2.out.trans NW.out))⟩
end Go.Proofs.YtdccbceaajnajaaGreat

namespace Go.Proofs.YtdccbceaajnajaaGreat
open Go.RowKit
set_option linter.unusedSimpArgs false
set_option linter.unusedVariables false

def RSetBack (w0 : World) (b : Nat) (ow : Option Nat) (rp : Nat) (fo : Option Nat) (U : Used) (w : World) (e : Ending) (w' : World) : Prop :=
  ∃ ow' fo', e = .returned (.int .i64 U.e) ∧ RSys w0 w' b ow' rp fo' U.A U.T U.P ∧ Turn (refs b ow rp fo) w w'
theorem setLast_frames {P : APool} {l : List (Nat × AFrame)} {x : Nat × AFrame} (h : P.frames = l ++ [x]) (hnd : (P.frames.map (·.1)).Nodup) (b : ByteArray) (st : Nat) : (setLast P b st).frames = l ++ [(x.1, ⟨x.2.page, b, st, true⟩)] := by
  rw [setLast_snoc h]
  have hx : P.frames[l.length]? = some x := by rw [h]; simp
  rw [setF_setI hnd hx]
  unfold setI
  rw [h]
  show (l ++ [x]).modify l.length (fun p => (p.1, (⟨x.2.page, b, st, true⟩ : AFrame))) = _
  clear hx h hnd
  induction l with
  | nil => rfl
  | cons a l ih =>
    simp only [List.cons_append, List.length_cons, List.modify_succ_cons]
    rw [ih]
theorem set_app (A B : List Value) (m j : Nat) (h : A.length = m) (v : Value) : (A ++ B).set (m + j) v = A ++ B.set j v := by
  rw [List.set_append_right _ _ (by omega), h, Nat.add_sub_cancel_left]
theorem RSys.set4 {w0 w : World} {b rp : Nat} {ow fo : Option Nat} {R : ADisk} {T : ATape} {P P' : APool} (S : RSys w0 w b ow rp fo R T P) {l : List (Nat × AFrame)} {x y : Nat × AFrame} (hx : P.frames = l ++ [x]) (hy : P'.frames = l ++ [y]) (hs : P'.size = P.size) (hr : P'.reads = P.reads) {g c : Nat} (hown : w.ownsRow 0 104 4 (.slice (some ⟨g, 0, none⟩) P.frames.length c) P.frames.length (rfVals P.frames)) (hfo : (Value.slice (some ⟨g, 0, none⟩) P.frames.length c).ownBlock = fo) (e1 : w.heap[rp]? = some (.cells (rpCells b T P (.slice (some ⟨g, 0, none⟩) P.frames.length c)) 67 (0, 0))) :
    RSys w0 ((((w.setCell ⟨g, l.length * 4, none⟩ (.int .i64 (y.2.page : Int))).setCell ⟨g, l.length * 4 + 1, none⟩ (.int .i64 (y.2.stamp : Int))).setCell ⟨g, l.length * 4 + 2, none⟩ (.string y.2.b)).setCell ⟨g, l.length * 4 + 3, none⟩ (.bool y.2.dirty)) b ow rp fo R T P' ∧
    Turn (fun k => fo = some k) w ((((w.setCell ⟨g, l.length * 4, none⟩ (.int .i64 (y.2.page : Int))).setCell ⟨g, l.length * 4 + 1, none⟩ (.int .i64 (y.2.stamp : Int))).setCell ⟨g, l.length * 4 + 2, none⟩ (.string y.2.b)).setCell ⟨g, l.length * 4 + 3, none⟩ (.bool y.2.dirty)) := by
  have hlen : P.frames.length = l.length + 1 := by rw [hx]; simp
  have hL : (rfVals P.frames).length = l.length * 4 + 4 := by rw [rfVals_length, hlen]; omega
  have o1 := own_set hown (j := l.length * 4) (by omega) (.int .i64 (y.2.page : Int))
  have o2 := own_set o1 (j := l.length * 4 + 1) (by rw [List.length_set]; omega) (.int .i64 (y.2.stamp : Int))
  have o3 := own_set o2 (j := l.length * 4 + 2) (by rw [List.length_set, List.length_set]; omega) (.string y.2.b)
  have o4 := own_set o3 (j := l.length * 4 + 3) (by rw [List.length_set, List.length_set, List.length_set]; omega) (.bool y.2.dirty)
  have hval : ((((rfVals P.frames).set (l.length * 4) (.int .i64 (y.2.page : Int))).set (l.length * 4 + 1) (.int .i64 (y.2.stamp : Int))).set (l.length * 4 + 2) (.string y.2.b)).set (l.length * 4 + 3) (.bool y.2.dirty) = rfVals P'.frames := by
    rw [hx, hy, rfVals_append, rfVals_append]
    have hA := rfVals_length l
    have e0 := set_app (rfVals l) (rfVals [x]) (l.length * 4) 0 hA (.int .i64 (y.2.page : Int))
    rw [Nat.add_zero] at e0
    rw [e0, set_app _ _ _ 1 hA, set_app _ _ _ 2 hA, set_app _ _ _ 3 hA]
    simp [rfVals, rfCells]
  rw [hval] at o4
  have hfo' : some g = fo := hfo
  have t1 : ∀ (w : World) (o : Nat) (u : Value), Turn (fun k => fo = some k) w (w.setCell ⟨g, o, none⟩ u) := fun w o u => (turn_set w g o u).mono fun k _ h => by rw [h]; exact hfo'.symm
  have ht := (((t1 w (l.length * 4) (.int .i64 (y.2.page : Int))).trans (t1 _ (l.length * 4 + 1) (.int .i64 (y.2.stamp : Int)))).trans (t1 _ (l.length * 4 + 2) (.string y.2.b))).trans (t1 _ (l.length * 4 + 3) (.bool y.2.dirty))
  obtain ⟨cg, hg⟩ := own_base hown (k := g) rfl
  have hgr : ¬ fo = some rp := fun h => by
    rw [← hfo'] at h
    injection h with h
    rw [h] at hg
    exact types_ne hg e1 (by decide)
  have n1 : ¬ fo = some b := fun h => by
    obtain ⟨c', hb⟩ := S.disk.base
    rw [← hfo'] at h
    injection h with h
    exact types_ne hg (h ▸ hb) (by decide)
  have n2 : ∀ k, ow = some k → ¬ fo = some k := fun k hk h => by
    obtain ⟨c', hb⟩ := S.disk.row hk
    rw [← hfo'] at h
    injection h with h
    exact types_ne hg (h ▸ hb) (by decide)
  have hl2 : P'.frames.length = P.frames.length := by rw [hx, hy]; simp
  refine ⟨{ S with disk := S.disk.turn ht n1 n2, pool := ⟨_, ?_, hfo, ?_⟩, new := S.new.turn ht (fun k hk h => by have := S.ff k h; omega) }, ht⟩
  · rw [ht.block rp (Array.getElem?_eq_some_iff.1 e1).1 hgr, e1]
    simp [rpCells, hs, hr]
  · rw [hl2]
    exact o4

set_option maxHeartbeats 1600000 in
set_option maxRecDepth 100000 in
theorem refSet_any (w0 : World) (b : Nat) (ow : Option Nat) (rp : Nat) (fo : Option Nat) (R : ADisk) (T : ATape) (P : APool) (n : Int) (v : Value) (s : ByteArray) (st : Int) (k m : Nat) (w : World) (S : RSys w0 w b ow rp fo R T P) (hv : Bytes w v s) (hvk : ∀ w', Turn (refs b ow rp fo) w w' → Bytes w' v s) (hl : P.frames.length ≤ 100000) (hsz : 2 ≤ P.size) (hnd : (P.frames.map (·.1)).Nodup) (hnd2 : ((useU R T P n.toNat k).P.frames.map (·.1)).Nodup) (ok : ∀ p ∈ P.frames, FrameOk p.2) (hd : R.down = false) (L : Lim R m) (hm : m ≤ 90000) (hrd : P.reads ≤ 1000000000) (hT : T.recs.length ≤ 1000000) :
    Calls Tryz.prog 29 #[.pointer (some ⟨rp, 0, none⟩), .int .i64 n, v, .int .i64 st] w (RSetBack w0 b ow rp fo (setU R T P n s st k) w) := by
  have HV := hid hv
  have HVK := hid hvk
  obtain ⟨vp, vc, rfl, va, vb, -⟩ := hv
  unfold maxLen at vb
  have HS := hid S
  obtain ⟨p, c, hc, hf, -, -⟩ := rsys_open S
  unfold rpCells at hc
  have HNO : Hid ((isP n && setOk T s st) = false → RSetBack w0 b ow rp fo (setU R T P n s st k) w (.returned (.int .i64 2)) w) := hid fun h => by
    have : setU R T P n s st k = ⟨2, R, T, P⟩ := by unfold setU; rw [h]; rfl
    rw [this]
    exact ⟨ow, fo, rfl, HS.out, Turn.refl _ _⟩
  cases hp : isP n with
  | false =>
    have H0 := hid (HNO.out (by rw [hp]; rfl))
    clear HNO S ok L hnd hnd2 hvk
    go_enter Tryz.func29, Tryz.ntmps29
    go_wp2_with fail
    refine (refIsPage_any n _).mono ?_
    rintro e w' ⟨rfl, rfl⟩
    rw [hp]
    go_wp2
    go_ret
    exact H0.out
  | true =>
  cases hso : setOk T s st with
  | false =>
    have H0 := hid (HNO.out (by rw [hso, Bool.and_false]))
    clear HNO S ok L hnd hnd2 hvk
    by_cases a1 : s.size = 128
    case neg =>
      have q1 : ((s.size : Int) == 128) = false := by simp; omega
      have q2 : ((s.size : Int) != 128) = true := by simp; omega
      clear a1 hso
      go_enter Tryz.func29, Tryz.ntmps29
      go_wp2_with fail
      refine (refIsPage_any n _).mono ?_
      rintro e w' ⟨rfl, rfl⟩
      rw [hp]
      go_wp2
      go_ret
      exact H0.out
    have q1 : ((s.size : Int) == 128) = true := by simp; omega
    have q2 : ((s.size : Int) != 128) = false := by simp; omega
    by_cases a2 : st < 0
    · have q3 : decide (st < 0) = true := by simpa using a2
      clear a1 hso a2
      go_enter Tryz.func29, Tryz.ntmps29
      go_wp2_with fail
      refine (refIsPage_any n _).mono ?_
      rintro e w' ⟨rfl, rfl⟩
      rw [hp]
      go_wp2
      go_ret
      exact H0.out
    have q3 : decide (st < 0) = false := by simpa using a2
    have q4 : decide ((T.recs.length : Int) < st) = true := by
      simp
      unfold setOk at hso
      rw [decide_eq_true a1, decide_eq_true (by omega : 0 ≤ st)] at hso
      simp at hso
      omega
    clear a1 hso a2
    go_enter Tryz.func29, Tryz.ntmps29
    go_wp2_with fail
    refine (refIsPage_any n _).mono ?_
    rintro e w' ⟨rfl, rfl⟩
    rw [hp]
    go_wp2
    go_ret
    exact H0.out
  | true =>
  have hso' := hso
  unfold setOk at hso'
  simp only [Bool.and_eq_true, decide_eq_true_eq] at hso'
  obtain ⟨⟨hs1, hs2⟩, hs3⟩ := hso'
  obtain ⟨sn, rfl⟩ : ∃ sn : Nat, st = (sn : Int) := ⟨st.toNat, by omega⟩
  obtain ⟨t, rfl, ht120⟩ := isP_nat hp
  rw [Int.toNat_natCast] at hnd2
  have q1 : ((s.size : Int) == 128) = true := by simp; omega
  have q2 : ((s.size : Int) != 128) = false := by simp; omega
  have q3 : decide ((sn : Int) < 0) = false := by simp
  have q4 : decide ((T.recs.length : Int) < (sn : Int)) = false := by simp; omega
  have q5 : decide (T.recs.length < sn) = false := by simp; omega
  have hu : setU R T P (t : Int) s (sn : Int) k = (if (useU R T P t k).e = 0 then { useU R T P t k with P := setLast (useU R T P t k).P s sn } else useU R T P t k) := by
    unfold setU
    rw [hp, hso, hd]
    rfl
  have HU := hid hu
  have HLAST := hid (fun h => useU_last (A := R) (T := T) (P := P) (n := t) (k := k) hsz h)
  have HLEN : Hid ((useU R T P t k).P.frames.length ≤ 100001) := hid (Nat.le_trans useU_length (by omega))
  have HND2 := hid hnd2
  clear HNO hs1 hs2 hs3 hso hu hvk hnd2
  go_enter Tryz.func29, Tryz.ntmps29
  go_wp2_with fail
  refine (refIsPage_any _ _).mono ?_
  rintro e w' ⟨rfl, rfl⟩
  rw [hp]
  go_wp2_with fail
  refine (refUse_any w0 b ow rp fo R T P t k m _ S hl hsz hnd ok hd ht120 L hm hrd).mono ?_
  rintro e w1 ⟨ow1, fo1, rfl, hS1, ht1, ho1, hf1⟩
  clear S ok L hnd hc hf q1 q2 q3 q4 q5
  generalize useU R T P t k = U at *
  have S1 := hid hS1
  have T1 := hid ht1
  have V1 := hid (HVK.out _ ht1)
  have HO1 := hid ho1
  have HF1 := hid hf1
  clear hS1 ht1 ho1 hf1
  by_cases h0 : U.e = 0
  case neg =>
    have q0 : (U.e == 0) = false := by simpa using h0
    have q1 : (U.e != 0) = true := by simpa using h0
    go_wp2
    go_ret
    rw [HU.out, if_neg h0]
    exact ⟨ow1, fo1, rfl, S1.out, T1.out⟩
  obtain ⟨l, x, hx, hpg⟩ := HLAST.out h0
  obtain ⟨p, c, hh, hown, hfo⟩ := rsys_full S1.out
  have hc := cells_of hh
  unfold rpCells at hc
  have HFO := hid hfo
  have hlen : U.P.frames.length = l.length + 1 := by rw [hx]; simp
  obtain ⟨g, cap, e, _, hg⟩ := hown.form (by omega)
  injection e with e1 e8 e9
  subst e1
  have hv : ∀ j, j < 4 → w1.cell? ⟨g, l.length * 4 + j, none⟩ = (rfCells x.2)[j]? := fun j hj => by
    have h1 := hown.cellAt (l.length * 4 + j) (by omega)
    rw [h1, hx, rfVals_append, List.getElem?_append_right (by rw [rfVals_length]; omega), rfVals_length, Nat.add_sub_cancel_left]
    simp [rfVals]
  have dz : ∀ o, w1.frozen? ⟨g, o, none⟩ = false := by
    rcases hown.2 with ⟨e, _⟩ | ⟨g', cap', cur, e, _, hh, _⟩
    · cases e
    · injection e with e _ _
      injection e with e
      injection e with e _ _
      subst e
      exact frozen_of hh
  have d0 := hv 0 (by decide)
  have d1 := hv 1 (by decide)
  have d2 := hv 2 (by decide)
  have d3 := hv 3 (by decide)
  unfold rfCells at d0 d1 d2 d3
  rw [Nat.add_zero] at d0
  have HX := hid hx
  have H0 := hid h0
  have q9 : l.length ≤ 200000 := by have := HLEN.out; omega
  have hw : IntKind.i64.wrap (l.length : Int) = (l.length : Int) := by
    unfold IntKind.wrap
    simp [IntKind.bits, IntKind.signed]
    omega
  have qlt : (l.length : Int) < (l.length : Int) + 1 := by omega
  have kc := (V1.out.renew (New.refl w1).drew).convert (P := Tryz.prog) 29 5 9 Tryz.underlying29 Tryz.underlying5 Tryz.underlying9
  have OWN := hid hown
  have HH := hid hh
  rw [hlen] at hc
  rw [h0]
  have HPG := hid hpg
  clear hx hpg hh hown e8 e9 hv h0 hfo hlen
  go_wp2_with fail
  go_region
  all_goals
    go_wp2
    go_ret
    rw [HU.out, if_pos H0.out]
    have hfr := setLast_frames HX.out HND2.out s sn
    have hss : (setLast U.P s sn).size = U.P.size := by rw [setLast_snoc HX.out]; rfl
    have hsr : (setLast U.P s sn).reads = U.P.reads := by rw [setLast_snoc HX.out]; rfl
    obtain ⟨S5, T5⟩ := S1.out.set4 HX.out hfr hss hsr OWN.out HFO.out HH.out
    rw [HPG.out] at S5 T5
    refine ⟨ow1, fo1, by show _ = Ending.returned (.int .i64 U.e); rw [H0.out]; rfl, S5.newer (New.refl _).drew, (refs_trans2 T1.out HO1.out HF1.out (T5.mono fun k _ h => .inr (.inr h))).drew⟩
end Go.Proofs.YtdccbceaajnajaaGreat

namespace Go.Proofs.YtdccbceaajnajaaGreat
open Go.RowKit
set_option linter.unusedSimpArgs false
set_option linter.unusedVariables false

theorem find_case (l : List (Nat × AFrame)) (n : Int) : (l.find? (fun p => decide ((p.2.page : Int) = n)) = none ∧ findN l n = -1) ∨
    ∃ i x, i < l.length ∧ l[i]? = some x ∧ l.find? (fun p => decide ((p.2.page : Int) = n)) = some x ∧ findN l n = (i : Int) ∧ (x.2.page : Int) = n := by
  cases hf : l.findIdx? (fun p => decide ((p.2.page : Int) = n)) with
  | none =>
    refine .inl ⟨?_, by unfold findN; rw [hf]⟩
    rw [List.find?_eq_none]
    intro p hp
    simpa using List.findIdx?_eq_none_iff.1 hf p hp
  | some i =>
    obtain ⟨hi, hp, hb⟩ := List.findIdx?_eq_some_iff_getElem.1 hf
    have hp' : ((l[i]).2.page : Int) = n := by simpa using hp
    refine .inr ⟨i, l[i], hi, List.getElem?_eq_getElem hi, find_at hi (fun j hj y hy => ?_) hp', by unfold findN; rw [hf], hp'⟩
    have hj2 : j < l.length := by omega
    have := hb j hj
    rw [List.getElem?_eq_getElem hj2] at hy
    injection hy with hy
    subst hy
    simpa using this

set_option maxHeartbeats 1600000 in
set_option maxRecDepth 100000 in
theorem refPOut_any (w0 : World) (b : Nat) (ow : Option Nat) (rp : Nat) (fo : Option Nat) (R : ADisk) (T : ATape) (P : APool) (n : Int) (m : Nat) (w : World) (S : RSys w0 w b ow rp fo R T P) (hl : P.frames.length ≤ 100000) (hnd : (P.frames.map (·.1)).Nodup) (ok : ∀ p ∈ P.frames, FrameOk p.2) (hd : R.down = false) (L : Lim R m) (hm : m ≤ 90000) :
    Calls Tryz.prog 31 #[.pointer (some ⟨rp, 0, none⟩), .int .i64 n] w (RBack w0 b ow rp fo (.int .i64 (outU R T P n).e) (outU R T P n).A (outU R T P n).T (outU R T P n).P w) := by
  obtain ⟨p, c, hc, hf, -, -⟩ := rsys_open S
  unfold rpCells at hc
  have HS := hid S
  have hdk := S.disk
  cases hp : isP n with
  | false =>
    have hu : outU R T P n = ⟨2, R, T, P⟩ := by unfold outU; rw [hp]; rfl
    rw [hu]
    go_enter Tryz.func31, Tryz.ntmps31
    go_wp2_with fail
    refine (refIsPage_any n _).mono ?_
    rintro e w' ⟨rfl, rfl⟩
    rw [hp]
    go_wp2
    go_ret
    exact ⟨ow, rfl, HS.out, Turn.refl _ _, fun k h => .inl h⟩
  | true =>
    rcases find_case P.frames n with ⟨hn1, hn2⟩ | ⟨i, x, hi, hx, hn1, hn2, hpg⟩
    · have hu : outU R T P n = ⟨0, R, T, P⟩ := by unfold outU; rw [hp, hd, hn1]; rfl
      rw [hu]
      have q0 : decide ((-1 : Int) < 0) = true := by decide
      go_enter Tryz.func31, Tryz.ntmps31
      go_wp2_with fail
      refine (refIsPage_any n _).mono ?_
      rintro e w' ⟨rfl, rfl⟩
      rw [hp]
      go_wp2_with fail
      refine (refDown_any b ow R _ hdk).mono ?_
      rintro e w' ⟨rfl, rfl⟩
      rw [hd]
      go_wp2_with fail
      refine (refFind_any w0 b ow rp fo R T P n _ HS.out hl).mono ?_
      rintro e w' ⟨rfl, rfl⟩
      rw [hn2]
      go_wp2
      go_ret
      exact ⟨ow, rfl, HS.out, Turn.refl _ _, fun k h => .inl h⟩
    · have hu : outU R T P n = ⟨outE R T x.2, outA R T x.2, outT R T x.2, setI P i (outF R T x.2)⟩ := by
        unfold outU
        rw [hp, hd, hn1]
        simp only [if_true, Bool.false_eq_true, if_false]
        rw [setF_setI hnd hx]
      rw [hu]
      have q0 : decide ((i : Int) < 0) = false := by simp
      have HX := hid hx
      have HOK := hid (ok x (List.mem_of_getElem? hx))
      have HL := hid L
      have HI := hid hi
      clear S ok L hnd hu hx hn1 hpg
      go_enter Tryz.func31, Tryz.ntmps31
      go_wp2_with fail
      refine (refIsPage_any n _).mono ?_
      rintro e w' ⟨rfl, rfl⟩
      rw [hp]
      go_wp2_with fail
      refine (refDown_any b ow R _ hdk).mono ?_
      rintro e w' ⟨rfl, rfl⟩
      rw [hd]
      go_wp2_with fail
      refine (refFind_any w0 b ow rp fo R T P n _ HS.out hl).mono ?_
      rintro e w' ⟨rfl, rfl⟩
      rw [hn2]
      go_wp2_with fail
      refine (refFind_any w0 b ow rp fo R T P n _ HS.out hl).mono ?_
      rintro e w' ⟨rfl, rfl⟩
      rw [hn2]
      go_wp2_with fail
      refine (refOut_any w0 b ow rp fo R T P i x m _ HS.out hl HI.out HX.out HOK.out hd HL.out hm).mono ?_
      rintro e w' ⟨ow', rfl, hS', ht', ho'⟩
      have HS' := hid hS'
      have HT' := hid ht'
      have HO' := hid ho'
      clear hS' ht' ho'
      go_wp2
      go_ret
      exact ⟨ow', rfl, HS'.out, HT'.out, HO'.out⟩

set_option maxHeartbeats 1600000 in
set_option maxRecDepth 100000 in
theorem refFrames_any (w0 : World) (b : Nat) (ow : Option Nat) (rp : Nat) (fo : Option Nat) (R : ADisk) (T : ATape) (P : APool) (w : World) (S : RSys w0 w b ow rp fo R T P) (hl : P.frames.length ≤ 100000) : Calls Tryz.prog 51 #[.pointer (some ⟨rp, 0, none⟩)] w (IntsBack (pagesOf P) w) := by
  obtain ⟨p, c, hh, hown, -⟩ := rsys_full S
  have hc := cells_of hh
  unfold rpCells at hc
  have OWN := hid hown
  have HL := hid hl
  have HC : Hid (∀ w', New w w' → w'.cell? ⟨rp, 5, none⟩ = some (.slice p P.frames.length c)) := hid fun w' hn => (hn.cell rp 5 (Array.getElem?_eq_some_iff.1 hh).1).trans (hc 5)
  clear S hown hl hh hc
  go_enter Tryz.func51, Tryz.ntmps51
  go_wp2
  go_loopw [3, 4] (fun v i wr => ∃ j : Nat, j ≤ P.frames.length ∧ i = .int .i64 j ∧ Hid (New w wr) ∧ (∃ q k, v = .slice q j k) ∧ Hid (wr.ownsRow w.heap.size 3 1 v j (pageVals (P.frames.take j)))) (fun _ i _ => P.frames.length - (intOf i).toNat)
  case atStart => exact ⟨0, Nat.zero_le _, rfl, hid (New.refl _), ⟨_, _, rfl⟩, hid (World.ownsRow_nil _ _ _ _)⟩
  case round =>
    obtain ⟨j, hj, rfl, hn, ⟨q, k, rfl⟩, hown⟩ := hrel
    have hc5 := HC.out wr hn.out
    by_cases hlt : j < P.frames.length
    · have ho := own_old OWN.out hn.out
      obtain ⟨g, cap, e, _, hg⟩ := ho.form (by omega)
      injection e with e1 e8 e9
      subst e1
      clear e8 e9
      have d0 := ho.cellAt (j * 4) (by omega)
      rw [(rfVals_get P.frames j hlt).1] at d0
      have HTK : Hid (pageVals (P.frames.take (j + 1)) = pageVals (P.frames.take j) ++ [.int .i64 ((P.frames[j]).2.page : Int)]) := hid (by
        unfold pageVals
        rw [← List.take_append_getElem hlt, List.map_append]
        rfl)
      have q9 : P.frames.length ≤ 100000 := HL.out
      clear ho
      generalize hx : P.frames[j].2 = f at *
      clear hx
      have N1 : Hid (New wr (wr.alloc (.cells #[.int .i64 (f.page : Int)] 3))) := hid ((New.refl wr).alloc _ _)
      go_wp2_with (at_builtin; refine app_int rfl _ _ rfl w.heap.size _ j _ rfl (own_old hown.out N1.out) ⟨wr.heap.size, 0, none⟩ (f.page : Int) rfl ?cn ?cb ?cc ?_)
      case cn => exact cells_of (heap_alloc_new wr _) 0
      case cb => have := HL.out; omega
      case cc => exact Nat.le_trans hn.out.size N1.out.size
      intro v4 w4 own4 grow4 blk4
      obtain ⟨p4, c4, rfl⟩ := own_len own4
      have N4 : Hid (New w w4) := hid ((hn.out.trans N1.out).grown grow4 (Nat.le_trans hn.out.size N1.out.size) (fun k hk => (hown.out.lt k hk).1))
      have OWN4 := hid own4
      clear own4 grow4 blk4 d0 hc5
      go_wp2
      go_roundw
      case rel => exact ⟨j + 1, by omega, by go_num, N4, ⟨_, _, rfl⟩, by rw [HTK.out]; exact OWN4⟩
      case measure => simp [intOf]; omega
    · obtain rfl : j = P.frames.length := by omega
      go_wp2
      go_ret
      refine ⟨_, rfl, ?_, hn.out⟩
      have h1 := RowAt.owned hown.out
      rw [List.take_length] at h1
      have e : pageVals P.frames = (pagesOf P).map fun n : Int => Value.int .i64 n := by simp [pageVals, pagesOf, Function.comp_def]
      unfold Ints
      rw [← e]
      rw [show (pagesOf P).length = P.frames.length by simp [pagesOf]]
      exact h1
end Go.Proofs.YtdccbceaajnajaaGreat
