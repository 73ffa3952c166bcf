/- The specification's pool: use where a frame has the page. (written by ruse.py) -/
import Derived.Test.YtdccbceaajnajaaGreatS3
import Derived.Test.YtdccbceaajnajaaGreatY1
namespace Go.Proofs.YtdccbceaajnajaaGreat
open Go.RowKit
set_option linter.unusedSimpArgs false
set_option linter.unusedVariables false

theorem add_at (g o j : Nat) : (⟨g, o, none⟩ : Addr).add j = ⟨g, o + j, none⟩ := by
  by_cases h : j = 0
  · subst h
    simp [Addr.add]
  · simp [Addr.add, h]
theorem info104 : (Tryz.prog.info? 104).map (fun i => (i.zero, i.size, i.bytes)) = some (some (.agg #[.int .i64 0, .int .i64 0, .string ByteArray.empty, .bool false]), 4, 40) := by kernel_rfl
theorem rfVals_one (l : List (Nat × AFrame)) : ∀ u ∈ rfVals l, u.oneCell' = true := by
  intro u hu
  simp only [rfVals, rfCells, List.mem_flatMap] at hu
  obtain ⟨p, _, hp⟩ := hu
  simp at hp
  rcases hp with rfl | rfl | rfl | rfl <;> rfl
theorem own_zero {w : World} {base : Nat} {e : TypeId} {sz : Nat} {v : Value} {n : Nat} {xs : List Value} (h : w.ownsRow base e sz v n xs) : w.ownsRow 0 e sz v n xs := by
  refine ⟨h.1, ?_⟩
  rcases h.2 with h | ⟨g, cap, cur, h1, h2, h3⟩
  · exact .inl h
  · exact .inr ⟨g, cap, cur, h1, Nat.zero_le _, h3⟩
/-- The row of frames is another one. -/
theorem RSys.relaid {w0 w : World} {b rp : Nat} {ow fo : Option Nat} {R : ADisk} {T : ATape} {P P' : APool} (S : RSys w0 w b ow rp fo R T P) {v : Value} (hown : w.ownsRow 0 104 4 v P'.frames.length (rfVals P'.frames)) (hv : ∀ k, v.ownBlock = some k → w0.heap.size ≤ k) (hs : P'.size = P.size) (hr : P'.reads = P.reads) :
    RSys w0 (w.setCell ⟨rp, 5, none⟩ v) b ow rp v.ownBlock R T P' ∧ Turn (· = rp) w (w.setCell ⟨rp, 5, none⟩ v) := by
  obtain ⟨u, e1, e2, e3⟩ := S.pool
  have ht := turn_set w rp 5 v
  have n1 : ¬ rp = b := fun e => by
    obtain ⟨c, h⟩ := S.disk.base
    exact types_ne e1 (e ▸ h) (by decide)
  have n2 : ∀ k, ow = some k → ¬ k = rp := fun k hk e => by
    obtain ⟨c, h⟩ := S.disk.row hk
    exact types_ne (e ▸ h) e1 (by decide)
  have n3 : ∀ k, v.ownBlock = some k → ¬ k = rp := fun k hk e => by
    obtain ⟨c, h⟩ := own_base hown hk
    exact types_ne (e ▸ h) e1 (by decide)
  refine ⟨{ S with disk := S.disk.turn ht (fun e => n1 e.symm) n2, pool := ⟨v, ?_, rfl, own_turn hown ht n3⟩, new := S.new.turn ht (fun k hk e => by have := S.rr; omega), ff := hv }, ht⟩
  have := heap_setCell_same w rp 5 _ 67 v e1
  rw [this]
  simp [rpCells, hs, hr]
set_option maxRecDepth 10000 in
/-- append(frames, some..), as a step. -/
theorem step_rf {ops : Array Oper} {Q : Exit → Act → World → Prop} {o : Oper} {a : Act} {w : World} {K : Act → World → Prop} {E : Prop} (hgd : o.guard = none) (s x : Operand)
    (ho : o.op = .call { callee := .builtin .append, args := #[s, x], argTypes := #[65, 65] })
    (base : Nat) (v : Value) (n : Nat) (xs : List Value) (hs : a.eval s = v) (hown : w.ownsRow base 104 4 v n xs)
    (ad : Addr) (m c : Nat) (news : List Value) (hx : a.eval x = .slice (some ad) m c) (hl : news.length = m * 4) (hnews : ∀ j u, news[j]? = some u → w.cell? (ad.add j) = some u) (h1 : ∀ u ∈ news, u.oneCell' = true)
    (hb : n + m ≤ 1000000) (hbase : base ≤ w.heap.size)
    (h : ∀ v' w', w'.ownsRow base 104 4 v' (n + m) (xs ++ news) → w.grownBy w' v.ownBlock → (v'.ownBlock = v.ownBlock ∨ v'.ownBlock = some w.heap.size) → K (a.put o.dst v') w') :
    if Region.wanted o (yielded ops a.tmps) = true then Oper.wp Tryz.prog o a w K Q else E := by
  obtain ⟨i0, hi, hz0, hz1, hz2⟩ := info_parts info104
  exact step_append_at hgd s x 65 ho base 104 i0 _ 4 40 Tryz.underlying65 hi hz0 hz1 hz2 rfl (by decide) v n xs hs hown ad m c news hx hl hnews h1 (by unfold maxLen; omega) (by omega) hbase fun v' w' a1 a2 _ a4 => h v' w' a1 a2 a4

/-- What holds in the region, by what has come up. -/
structure F6 (w1 : World) (rp g c i len : Nat) (x : AFrame) (l1 l2 : List (Nat × AFrame)) (L : Nat → Bool) (w : World) (x30 x31 x32 x33 x34 x35 x36 x37 x38 x39 x40 x41 x42 x43 x44 x45 x46 x47 x48 x49 x50 x51 : Value) : Prop where
  p0 : L 0 = true → x30 = .pointer (some ⟨rp, 0, none⟩)
  p2 : L 2 = true → x32 = .pointer (some ⟨rp, 0, none⟩)
  p3 : L 3 = true → x33 = .pointer (some ⟨rp, 0, none⟩)
  p4 : L 4 = true → x34 = .pointer (some ⟨rp, 5, none⟩)
  p5 : L 5 = true → x35 = .slice (some ⟨g, 0, none⟩) len c
  p6 : L 6 = true → x36 = .int .i64 (i : Int)
  p7 : L 7 = true → x37 = .slice (some ⟨g, 0, none⟩) i c
  p9 : L 9 = true → x39 = .pointer (some ⟨rp, 0, none⟩)
  p10 : L 10 = true → x40 = .pointer (some ⟨rp, 0, none⟩)
  p11 : L 11 = true → x41 = .pointer (some ⟨rp, 5, none⟩)
  p12 : L 12 = true → x42 = .slice (some ⟨g, 0, none⟩) len c
  p13 : L 13 = true → x43 = .int .i64 (i : Int)
  p14 : L 14 = true → x44 = .int .i64 ((i : Int) + 1)
  p17 : L 17 = true → x47 = .agg (rfCells x).toArray
  p20 : L 20 = true → x50 = .pointer (some ⟨rp, 0, none⟩)
  p21 : L 21 = true → x51 = .pointer (some ⟨rp, 5, none⟩)
  p15 : L 15 = true → ∃ qo cc, x45 = .slice (some ⟨g, qo, none⟩) l2.length cc ∧ ∀ j u, (rfVals l2)[j]? = some u → w1.cell? ⟨g, qo + j, none⟩ = some u
  new : L 22 = false → New w1 w
  e8 : L 8 = true → L 1 = true
  e16 : L 16 = true → L 8 = true
  e19 : L 19 = true → L 16 = true ∧ L 18 = true
  e21 : L 21 = true → L 20 = true
  e22 : L 22 = true → ∀ j, j < 22 → L j = true
  c1 : L 1 = true → L 8 = false → w.ownsRow w1.heap.size 104 4 x31 0 []
  c8 : L 8 = true → L 16 = false → w.ownsRow w1.heap.size 104 4 x38 l1.length (rfVals l1)
  c16 : L 16 = true → L 19 = false → w.ownsRow w1.heap.size 104 4 x46 (l1.length + l2.length) (rfVals l1 ++ rfVals l2)
  c18 : L 18 = true → L 19 = false → ∃ B, x48 = .slice (some ⟨B, 0, none⟩) 1 1 ∧ w.heap[B]? = some (.cells (rfCells x).toArray 104 (0, 0)) ∧ (L 1 = true → L 8 = false → x31.ownBlock ≠ some B) ∧ (L 8 = true → L 16 = false → x38.ownBlock ≠ some B) ∧ (L 16 = true → L 19 = false → x46.ownBlock ≠ some B)
  c19 : L 19 = true → L 22 = false → w.ownsRow w1.heap.size 104 4 x49 (l1.length + l2.length + 1) (rfVals l1 ++ rfVals l2 ++ rfCells x)
  c22 : L 22 = true → ∃ w2, New w1 w2 ∧ w2.ownsRow w1.heap.size 104 4 x49 (l1.length + l2.length + 1) (rfVals l1 ++ rfVals l2 ++ rfCells x) ∧ w = w2.setCell ⟨rp, 5, none⟩ x49

set_option maxHeartbeats 3200000 in
set_option maxRecDepth 100000 in
theorem refUse_hit (w0 : World) (b : Nat) (ow : Option Nat) (rp : Nat) (fo : Option Nat) (R : ADisk) (T : ATape) (P : APool) (n : Int) (i : Nat) (x : Nat × AFrame) (w : World) (S : RSys w0 w b ow rp fo R T P) (hl : P.frames.length ≤ 100000) (hi : i < P.frames.length) (hx : P.frames[i]? = some x) (hn : findN P.frames n = (i : Int)) (hd : R.down = false) :
    Calls Tryz.prog 67 #[.pointer (some ⟨rp, 0, none⟩), .int .i64 n] w (fun e w' => ∃ fo', e = .returned (.int .i64 0) ∧ RSys w0 w' b ow rp fo' R T (hitP P i x) ∧ Turn (refs b ow rp fo) w w' ∧ (∀ k, fo' = some k → fo = some k ∨ w.heap.size ≤ k)) := by
  obtain ⟨p, c, hh, hown, hfo⟩ := rsys_full S
  have hc := cells_of hh
  have hf := frozen_of hh
  unfold rpCells at hc
  obtain ⟨g, cap, e, _, hg⟩ := hown.form (by omega)
  injection e with e1 e8 e9
  subst e1
  have hxi : P.frames[i] = x := by rw [List.getElem?_eq_getElem hi] at hx; injection hx
  have d0 := hown.cellAt (i * 4) (by omega)
  have d1 := hown.cellAt (i * 4 + 1) (by omega)
  have d2 := hown.cellAt (i * 4 + 2) (by omega)
  have d3 := hown.cellAt (i * 4 + 3) (by omega)
  obtain ⟨v0, v1, v2, v3⟩ := rfVals_get P.frames i hi
  rw [hxi] at v0 v1 v2 v3
  rw [v0] at d0
  rw [v1] at d1
  rw [v2] at d2
  rw [v3] at d3
  have HS := hid S
  have hdk := S.disk
  have NA := hid ((New.refl w).alloc #[.int .i64 (x.2.page : Int), .int .i64 (x.2.stamp : Int), .string x.2.b, .bool x.2.dirty] 104)
  have KF := hid (heap_alloc_new w (.cells #[.int .i64 (x.2.page : Int), .int .i64 (x.2.stamp : Int), .string x.2.b, .bool x.2.dirty] 104))
  clear S e8 e9 v0 v1 v2 v3 hxi
  have q0 : decide ((0 : Int) ≤ (i : Int)) = true := by simp
  go_enter Tryz.func67, Tryz.ntmps67
  go_wp2_with fail
  refine (refDown_any b ow R _ hdk).mono ?_
  rintro e w' ⟨rfl, rfl⟩
  rw [hd]
  go_wp2_with fail
  refine (refFind_any w0 b ow rp fo R T P n _ HS.out hl).mono ?_
  rintro e w' ⟨rfl, rfl⟩
  rw [hn]
  go_wp2_with fail
  generalize w.alloc (.cells #[.int .i64 (x.2.page : Int), .int .i64 (x.2.stamp : Int), .string x.2.b, .bool x.2.dirty] 104) = w1 at *
  have HKF := hid (cells_of KF.out)
  have LKF : Hid (w.heap.size < w1.heap.size) := hid (Array.getElem?_eq_some_iff.1 KF.out).1
  have LRP : Hid (rp < w1.heap.size) := hid (Nat.lt_of_lt_of_le (Array.getElem?_eq_some_iff.1 hh).1 NA.out.size)
  have LG : Hid (g < w1.heap.size) := hid (Nat.lt_of_lt_of_le hg NA.out.size)
  have HC1 : Hid (∀ o, w1.cell? ⟨rp, o, none⟩ = (rpCells b T P (.slice (some ⟨g, 0, none⟩) P.frames.length c))[o]?) := hid (fun o => (NA.out.cell rp o (Array.getElem?_eq_some_iff.1 hh).1).trans (cells_of hh o))
  have LI := hid (And.intro hi hl)
  have LC : Hid (P.frames.length ≤ c) := hid (by
    rcases hown.2 with ⟨e, _⟩ | ⟨g', cap', cur, e, _, hh, h4, _⟩
    · cases e
    · injection e with _ _ e
      omega)
  have LT1 : Hid ((P.frames.take i).length = i) := hid (by rw [List.length_take]; omega)
  have LT2 : Hid ((P.frames.drop (i + 1)).length = P.frames.length - (i + 1)) := hid (by rw [List.length_drop])
  have HR1 : Hid (w1.heap[rp]? = some (.cells (rpCells b T P (.slice (some ⟨g, 0, none⟩) P.frames.length c)) 67 (0, 0))) := hid ((Below.block NA.out rp (Array.getElem?_eq_some_iff.1 hh).1).trans hh)
  have HCA : Hid (∀ j u, (rfVals P.frames)[j]? = some u → w1.cell? ⟨g, j, none⟩ = some u) := hid fun j u hj => by
    have hlt : j < P.frames.length * 4 := by rw [← rfVals_length]; exact (List.getElem?_eq_some_iff.1 hj).1
    have := hown.cellAt j (by omega)
    rw [hj] at this
    exact (NA.out.cell g j hg).trans this
  have HN1 : Hid (∀ j u, (rfVals (P.frames.take i))[j]? = some u → w1.cell? ⟨g, j, none⟩ = some u) := hid fun j u hj => by
    refine HCA.out j u ?_
    have e : rfVals P.frames = rfVals (P.frames.take i) ++ rfVals (P.frames.drop i) := by rw [← rfVals_append, List.take_append_drop]
    rw [e, List.getElem?_append_left (List.getElem?_eq_some_iff.1 hj).1]
    exact hj
  have HN2 : Hid (∀ j u, (rfVals (P.frames.drop (i + 1)))[j]? = some u → w1.cell? ⟨g, (i + 1) * 4 + j, none⟩ = some u) := hid fun j u hj => by
    refine HCA.out _ u ?_
    have e : rfVals P.frames = rfVals (P.frames.take (i + 1)) ++ rfVals (P.frames.drop (i + 1)) := by rw [← rfVals_append, List.take_append_drop]
    have e2 : (rfVals (P.frames.take (i + 1))).length = (i + 1) * 4 := by rw [rfVals_length, List.length_take]; omega
    rw [e, List.getElem?_append_right (by omega), e2, Nat.add_sub_cancel_left]
    exact hj
  clear d0 d1 d2 d3 hc hdk hd hf
  refine wp_region_inv (Inv := fun L a w' => ∃ x30 x31 x32 x33 x34 x35 x36 x37 x38 x39 x40 x41 x42 x43 x44 x45 x46 x47 x48 x49 x50 x51 : Value, a = { tmps := #[Value.pointer (some ⟨rp, 0, none⟩), Value.int .i64 n, undef, undef, Value.int .i64 0, Value.int .i64 (i : Int), Value.pointer (some ⟨w.heap.size, 0, none⟩), undef, undef, undef, undef, undef, undef, Value.pointer (some ⟨rp, 0, none⟩), Value.pointer (some ⟨rp, 0, none⟩), Value.pointer (some ⟨rp, 0, none⟩), Value.pointer (some ⟨b, 0, none⟩), Value.bool false, Value.pointer (some ⟨rp, 0, none⟩), Value.int .i64 n, Value.int .i64 (i : Int), Value.int .i64 (i : Int), Value.bool true, Value.pointer (some ⟨rp, 0, none⟩), Value.pointer (some ⟨rp, 0, none⟩), Value.pointer (some ⟨rp, 5, none⟩), Value.slice (some ⟨g, 0, none⟩) P.frames.length c, Value.int .i64 (i : Int), Value.pointer (some ⟨g, i * 4, none⟩), Value.agg #[.int .i64 (x.2.page : Int), .int .i64 (x.2.stamp : Int), .string x.2.b, .bool x.2.dirty], x30, x31, x32, x33, x34, x35, x36, x37, x38, x39, x40, x41, x42, x43, x44, x45, x46, x47, x48, x49, x50, x51, undef, undef, undef, undef, undef, undef, undef, undef, undef, undef, undef, undef, undef, undef, undef, undef, undef, undef, undef, undef, undef, undef, undef, undef, undef, undef, undef, undef, undef, undef, undef, undef, undef, undef, undef, undef, undef, undef, undef, undef, undef, undef, undef, undef, undef, undef, undef, undef, undef, undef, undef, undef, undef, undef, undef, undef, undef, undef, undef, undef, undef, undef, undef, undef], defers := [] } ∧ Hid (F6 w1 rp g c i P.frames.length x.2 (P.frames.take i) (P.frames.drop (i + 1)) L w' x30 x31 x32 x33 x34 x35 x36 x37 x38 x39 x40 x41 x42 x43 x44 x45 x46 x47 x48 x49 x50 x51)) (by kernel_rfl) (by kernel_rfl) ?zero ?step ?done
  case zero =>
    refine ⟨undef, undef, undef, undef, undef, undef, undef, undef, undef, undef, undef, undef, undef, undef, undef, undef, undef, undef, undef, undef, undef, undef, rfl, hid ?_⟩
    constructor <;> (first | (intro h; cases h; done) | exact fun _ => (New.refl w1).drew)
  case done =>
    rintro L a w' ⟨x30, x31, x32, x33, x34, x35, x36, x37, x38, x39, x40, x41, x42, x43, x44, x45, x46, x47, x48, x49, x50, x51, rfl, h⟩ hall
    obtain ⟨w2, n2, own2, rfl⟩ := h.out.c22 (hall 22 (by decide))
    have N2 := hid (NA.out.trans n2)
    have OWN2 := hid own2
    obtain ⟨vp, vc, rfl⟩ := own_len own2
    have LT1' := LT1.out
    clear h n2 own2 hall
    go_wp2
    go_ret
    have hfr : (hitP P i x).frames = P.frames.take i ++ P.frames.drop (i + 1) ++ [x] := by
      unfold hitP
      rw [List.eraseIdx_eq_take_drop_succ]
    have hlen : (P.frames.take i).length + (P.frames.drop (i + 1)).length + 1 = (hitP P i x).frames.length := by rw [hfr]; simp only [List.length_append, List.length_cons, List.length_nil]
    have hval : rfVals (P.frames.take i) ++ rfVals (P.frames.drop (i + 1)) ++ rfCells x.2 = rfVals (hitP P i x).frames := by rw [hfr, rfVals_append, rfVals_append]; simp [rfVals]
    have hown2 := OWN2.out
    rw [hlen] at hown2 ⊢
    rw [hval] at hown2
    have S2 := HS.out.newer N2.out
    obtain ⟨S3, T3⟩ := S2.relaid (P' := hitP P i x) (own_zero hown2) (fun k hk => Nat.le_trans (Nat.le_trans HS.out.new.size NA.out.size) (hown2.lt k hk).1) rfl rfl
    refine ⟨_, rfl, S3, (Turn.of_new N2.out).trans (T3.mono fun k _ h => .inr (.inl h)), fun k hk => .inr (Nat.le_trans NA.out.size (hown2.lt k hk).1)⟩
  case step =>
    rintro L a w' k o ⟨x30, x31, x32, x33, x34, x35, x36, x37, x38, x39, x40, x41, x42, x43, x44, x45, x46, x47, x48, x49, x50, x51, rfl, h⟩ hL ho hd K hK
    have hk : k < 23 := (Array.getElem?_eq_some_iff.1 ho).1
    have hk2 : k = 0 ∨ k = 1 ∨ k = 2 ∨ k = 3 ∨ k = 4 ∨ k = 5 ∨ k = 6 ∨ k = 7 ∨ k = 8 ∨ k = 9 ∨ k = 10 ∨ k = 11 ∨ k = 12 ∨ k = 13 ∨ k = 14 ∨ k = 15 ∨ k = 16 ∨ k = 17 ∨ k = 18 ∨ k = 19 ∨ k = 20 ∨ k = 21 ∨ k = 22 := by omega
    clear hk
    rcases hk2 with rfl | rfl | rfl | rfl | rfl | rfl | rfl | rfl | rfl | rfl | rfl | rfl | rfl | rfl | rfl | rfl | rfl | rfl | rfl | rfl | rfl | rfl | rfl
    · simp only [List.getElem?_toArray, List.getElem?_cons_succ, List.getElem?_cons_zero, Option.some.injEq] at ho
      subst ho
      simp [Region.binds] at hd
      go_simp
      refine hK _ _ ⟨_, _, _, _, _, _, _, _, _, _, _, _, _, _, _, _, _, _, _, _, _, _, rfl, hid { h.out with e22 := fun h22 j hj => by have := h.out.e22 h22 j hj; simp [this], p0 := fun _ => rfl }⟩
    · simp only [List.getElem?_toArray, List.getElem?_cons_succ, List.getElem?_cons_zero, Option.some.injEq] at ho
      subst ho
      simp [Region.binds] at hd
      have h22 : L 22 = false := by
        cases e : L 22 with
        | false => rfl
        | true => exact absurd (h.out.e22 e 1 (by omega)) (by rw [hL]; decide)
      have nn := h.out.new h22
      have na := (New.refl w').alloc #[] 104
      go_simp
      refine hK _ _ ⟨_, _, _, _, _, _, _, _, _, _, _, _, _, _, _, _, _, _, _, _, _, _, rfl, hid { h.out with e22 := fun h22 j hj => by have := h.out.e22 h22 j hj; simp [this], new := fun _ => nn.alloc _ _, e8 := fun _ => rfl, c1 := fun _ _ => World.ownsRow_lit w' #[] 0 nn.size (by decide) rfl, c8 := fun h8 _ => absurd (h.out.e8 h8) (by rw [hL]; decide), c16 := fun h16 _ => absurd (h.out.e8 (h.out.e16 h16)) (by rw [hL]; decide), c19 := fun h19 _ => absurd (h.out.e8 (h.out.e16 (h.out.e19 h19).1)) (by rw [hL]; decide), c18 := ?c18h1, c22 := fun h => absurd (h22.symm.trans h) (by decide) }⟩
      case c18h1 =>
        intro a1 a2
        obtain ⟨B, b1, b2, b3, b4, b5⟩ := h.out.c18 a1 a2
        have hB := (Array.getElem?_eq_some_iff.1 b2).1
        exact ⟨B, b1, (Below.block na _ hB).trans b2, fun _ _ e => by simp [Value.ownBlock] at e; omega, fun h8 _ => absurd (h.out.e8 h8) (by rw [hL]; decide), fun h16 _ => absurd (h.out.e8 (h.out.e16 h16)) (by rw [hL]; decide)⟩
    · simp only [List.getElem?_toArray, List.getElem?_cons_succ, List.getElem?_cons_zero, Option.some.injEq] at ho
      subst ho
      simp [Region.binds] at hd
      go_simp
      refine hK _ _ ⟨_, _, _, _, _, _, _, _, _, _, _, _, _, _, _, _, _, _, _, _, _, _, rfl, hid { h.out with e22 := fun h22 j hj => by have := h.out.e22 h22 j hj; simp [this], p2 := fun _ => rfl }⟩
    · simp only [List.getElem?_toArray, List.getElem?_cons_succ, List.getElem?_cons_zero, Option.some.injEq] at ho
      subst ho
      simp [Region.binds] at hd
      have d2 := h.out.p2 hd
      subst d2
      go_simp
      refine hK _ _ ⟨_, _, _, _, _, _, _, _, _, _, _, _, _, _, _, _, _, _, _, _, _, _, rfl, hid { h.out with e22 := fun h22 j hj => by have := h.out.e22 h22 j hj; simp [this], p3 := fun _ => rfl }⟩
    · simp only [List.getElem?_toArray, List.getElem?_cons_succ, List.getElem?_cons_zero, Option.some.injEq] at ho
      subst ho
      simp [Region.binds] at hd
      have d3 := h.out.p3 hd
      subst d3
      go_simp
      refine hK _ _ ⟨_, _, _, _, _, _, _, _, _, _, _, _, _, _, _, _, _, _, _, _, _, _, rfl, hid { h.out with e22 := fun h22 j hj => by have := h.out.e22 h22 j hj; simp [this], p4 := fun _ => rfl }⟩
    · simp only [List.getElem?_toArray, List.getElem?_cons_succ, List.getElem?_cons_zero, Option.some.injEq] at ho
      subst ho
      simp [Region.binds] at hd
      have d4 := h.out.p4 hd
      subst d4
      have h22 : L 22 = false := by
        cases e : L 22 with
        | false => rfl
        | true => exact absurd (h.out.e22 e 5 (by omega)) (by rw [hL]; decide)
      have nn := h.out.new h22
      have cc := (nn.cell rp 5 LRP.out).trans (HC1.out 5)
      go_simp
      refine hK _ _ ⟨_, _, _, _, _, _, _, _, _, _, _, _, _, _, _, _, _, _, _, _, _, _, rfl, hid { h.out with e22 := fun h22 j hj => by have := h.out.e22 h22 j hj; simp [this], p5 := fun _ => rfl }⟩
    · simp only [List.getElem?_toArray, List.getElem?_cons_succ, List.getElem?_cons_zero, Option.some.injEq] at ho
      subst ho
      simp [Region.binds] at hd
      go_simp
      refine hK _ _ ⟨_, _, _, _, _, _, _, _, _, _, _, _, _, _, _, _, _, _, _, _, _, _, rfl, hid { h.out with e22 := fun h22 j hj => by have := h.out.e22 h22 j hj; simp [this], p6 := fun _ => rfl }⟩
    · simp only [List.getElem?_toArray, List.getElem?_cons_succ, List.getElem?_cons_zero, Option.some.injEq] at ho
      subst ho
      simp [Region.binds] at hd
      have qa := LC.out
      have qb := LI.out
      have qc : i ≤ c := by omega
      have d5 := h.out.p5 hd.1
      have d6 := h.out.p6 hd.2
      subst d5
      subst d6
      go_simp
      refine hK _ _ ⟨_, _, _, _, _, _, _, _, _, _, _, _, _, _, _, _, _, _, _, _, _, _, rfl, hid { h.out with e22 := fun h22 j hj => by have := h.out.e22 h22 j hj; simp [this], p7 := fun _ => rfl }⟩
    · simp only [List.getElem?_toArray, List.getElem?_cons_succ, List.getElem?_cons_zero, Option.some.injEq] at ho
      subst ho
      simp [Region.binds] at hd
      have h22 : L 22 = false := by
        cases e : L 22 with
        | false => rfl
        | true => exact absurd (h.out.e22 e 8 (by omega)) (by rw [hL]; decide)
      have nn := h.out.new h22
      have d7 := h.out.p7 hd.2
      have own := h.out.c1 hd.1 hL
      have h18 := h.out.c18
      subst d7
      refine step_rf rfl _ _ rfl w1.heap.size _ 0 [] rfl own ⟨g, 0, none⟩ i c (rfVals (P.frames.take i)) rfl (by rw [rfVals_length, LT1.out]) (fun j u hj => by rw [add_at, Nat.zero_add]; exact (nn.cell g j LG.out).trans (HN1.out j u hj)) (rfVals_one _) (by have := LI.out; omega) nn.size ?_
      intro v2 w2 own2 grow2 blk2
      refine hK _ _ ⟨_, _, _, _, _, _, _, _, _, _, _, _, _, _, _, _, _, _, _, _, _, _, rfl, hid { h.out with e22 := fun h22 j hj => by have := h.out.e22 h22 j hj; simp [this], new := fun _ => nn.grown grow2 nn.size (fun k hk => (own.lt k hk).1), e8 := fun _ => hd.1, e16 := fun _ => rfl, c1 := fun _ a => by simp at a, c8 := fun _ _ => by rw [LT1.out]; simpa using own2, c16 := fun h16 _ => absurd (h.out.e16 h16) (by rw [hL]; decide), c19 := fun h19 _ => absurd (h.out.e16 (h.out.e19 h19).1) (by rw [hL]; decide), c18 := ?c18h8, c22 := fun h => absurd (h22.symm.trans h) (by decide) }⟩
      case c18h8 =>
        intro a1 a2
        obtain ⟨B, b1, b2, b3, b4, b5⟩ := h18 a1 a2
        have hB := (Array.getElem?_eq_some_iff.1 b2).1
        refine ⟨B, b1, (grow2.block B hB (fun e => b3 hd.1 hL e.symm)).trans b2, fun _ a => by simp at a, fun _ _ e => ?_, fun h16 _ => absurd (h.out.e16 h16) (by rw [hL]; decide)⟩
        rcases blk2 with h | h
        · exact b3 hd.1 hL (h.symm.trans e)
        · rw [h] at e; injection e with e; omega
    · simp only [List.getElem?_toArray, List.getElem?_cons_succ, List.getElem?_cons_zero, Option.some.injEq] at ho
      subst ho
      simp [Region.binds] at hd
      go_simp
      refine hK _ _ ⟨_, _, _, _, _, _, _, _, _, _, _, _, _, _, _, _, _, _, _, _, _, _, rfl, hid { h.out with e22 := fun h22 j hj => by have := h.out.e22 h22 j hj; simp [this], p9 := fun _ => rfl }⟩
    · simp only [List.getElem?_toArray, List.getElem?_cons_succ, List.getElem?_cons_zero, Option.some.injEq] at ho
      subst ho
      simp [Region.binds] at hd
      have d9 := h.out.p9 hd
      subst d9
      go_simp
      refine hK _ _ ⟨_, _, _, _, _, _, _, _, _, _, _, _, _, _, _, _, _, _, _, _, _, _, rfl, hid { h.out with e22 := fun h22 j hj => by have := h.out.e22 h22 j hj; simp [this], p10 := fun _ => rfl }⟩
    · simp only [List.getElem?_toArray, List.getElem?_cons_succ, List.getElem?_cons_zero, Option.some.injEq] at ho
      subst ho
      simp [Region.binds] at hd
      have d10 := h.out.p10 hd
      subst d10
      go_simp
      refine hK _ _ ⟨_, _, _, _, _, _, _, _, _, _, _, _, _, _, _, _, _, _, _, _, _, _, rfl, hid { h.out with e22 := fun h22 j hj => by have := h.out.e22 h22 j hj; simp [this], p11 := fun _ => rfl }⟩
    · simp only [List.getElem?_toArray, List.getElem?_cons_succ, List.getElem?_cons_zero, Option.some.injEq] at ho
      subst ho
      simp [Region.binds] at hd
      have d11 := h.out.p11 hd
      subst d11
      have h22 : L 22 = false := by
        cases e : L 22 with
        | false => rfl
        | true => exact absurd (h.out.e22 e 12 (by omega)) (by rw [hL]; decide)
      have nn := h.out.new h22
      have cc := (nn.cell rp 5 LRP.out).trans (HC1.out 5)
      go_simp
      refine hK _ _ ⟨_, _, _, _, _, _, _, _, _, _, _, _, _, _, _, _, _, _, _, _, _, _, rfl, hid { h.out with e22 := fun h22 j hj => by have := h.out.e22 h22 j hj; simp [this], p12 := fun _ => rfl }⟩
    · simp only [List.getElem?_toArray, List.getElem?_cons_succ, List.getElem?_cons_zero, Option.some.injEq] at ho
      subst ho
      simp [Region.binds] at hd
      go_simp
      refine hK _ _ ⟨_, _, _, _, _, _, _, _, _, _, _, _, _, _, _, _, _, _, _, _, _, _, rfl, hid { h.out with e22 := fun h22 j hj => by have := h.out.e22 h22 j hj; simp [this], p13 := fun _ => rfl }⟩
    · simp only [List.getElem?_toArray, List.getElem?_cons_succ, List.getElem?_cons_zero, Option.some.injEq] at ho
      subst ho
      simp [Region.binds] at hd
      have d13 := h.out.p13 hd
      subst d13
      have qb := LI.out
      have qi : IntKind.i64.wrap ((i : Int) + 1) = (i : Int) + 1 := by
        unfold IntKind.wrap
        simp [IntKind.bits, IntKind.signed]
        omega
      go_simp
      refine hK _ _ ⟨_, _, _, _, _, _, _, _, _, _, _, _, _, _, _, _, _, _, _, _, _, _, rfl, hid { h.out with e22 := fun h22 j hj => by have := h.out.e22 h22 j hj; simp [this], p14 := fun _ => rfl }⟩
    · simp only [List.getElem?_toArray, List.getElem?_cons_succ, List.getElem?_cons_zero, Option.some.injEq] at ho
      subst ho
      simp [Region.binds] at hd
      have d12 := h.out.p12 hd.1
      have d14 := h.out.p14 hd.2
      subst d12
      subst d14
      have qb := LI.out
      have q1 : (0 : Int) ≤ (i : Int) + 1 := by omega
      have q2 : (i : Int) + 1 ≤ (P.frames.length : Int) := by omega
      have q3 : i + 1 ≤ P.frames.length := by omega
      by_cases hcap : c = i + 1
      · have hz : Hid (P.frames.length = i + 1) := hid (by have := LC.out; omega)
        subst hcap
        go_simp
        refine hK _ _ ⟨_, _, _, _, _, _, _, _, _, _, _, _, _, _, _, _, _, _, _, _, _, _, rfl, hid { h.out with e22 := fun h22 j hj => by have := h.out.e22 h22 j hj; simp [this], p15 := fun _ => ⟨0, 0, by rw [LT2.out], fun j u hj => by rw [show P.frames.drop (i + 1) = [] by rw [List.drop_eq_nil_iff, hz.out]; exact Nat.le_refl _] at hj; simp [rfVals] at hj⟩ }⟩
      · go_simp
        refine hK _ _ ⟨_, _, _, _, _, _, _, _, _, _, _, _, _, _, _, _, _, _, _, _, _, _, rfl, hid { h.out with e22 := fun h22 j hj => by have := h.out.e22 h22 j hj; simp [this], p15 := fun _ => ⟨(i + 1) * 4, c - (i + 1), by rw [LT2.out], HN2.out⟩ }⟩
    · simp only [List.getElem?_toArray, List.getElem?_cons_succ, List.getElem?_cons_zero, Option.some.injEq] at ho
      subst ho
      simp [Region.binds] at hd
      have h22 : L 22 = false := by
        cases e : L 22 with
        | false => rfl
        | true => exact absurd (h.out.e22 e 16 (by omega)) (by rw [hL]; decide)
      have nn := h.out.new h22
      obtain ⟨qo, cc, d15, hq⟩ := h.out.p15 hd.2.1
      have own := h.out.c8 hd.1 hL
      have h18 := h.out.c18
      subst d15
      refine step_rf rfl _ _ rfl w1.heap.size _ _ _ rfl own ⟨g, qo, none⟩ _ cc (rfVals (P.frames.drop (i + 1))) rfl (rfVals_length _) (fun j u hj => by rw [add_at]; exact (nn.cell g _ LG.out).trans (hq j u hj)) (rfVals_one _) (by have := LT1.out; have := LT2.out; have := LI.out; omega) nn.size ?_
      intro v2 w2 own2 grow2 blk2
      refine hK _ _ ⟨_, _, _, _, _, _, _, _, _, _, _, _, _, _, _, _, _, _, _, _, _, _, rfl, hid { h.out with e22 := fun h22 j hj => by have := h.out.e22 h22 j hj; simp [this], new := fun _ => nn.grown grow2 nn.size (fun k hk => (own.lt k hk).1), e16 := fun _ => hd.1, e19 := fun a => ⟨rfl, (h.out.e19 a).2⟩, c1 := fun a b => absurd (hd.1.symm.trans b) (by decide), c8 := fun _ a => by simp at a, c16 := fun _ _ => own2, c19 := fun h19 _ => absurd (h.out.e19 h19).1 (by rw [hL]; decide), c18 := ?c18h16, c22 := fun h => absurd (h22.symm.trans h) (by decide) }⟩
      case c18h16 =>
        intro a1 a2
        obtain ⟨B, b1, b2, b3, b4, b5⟩ := h18 a1 a2
        have hB := (Array.getElem?_eq_some_iff.1 b2).1
        refine ⟨B, b1, (grow2.block B hB (fun e => b4 hd.1 hL e.symm)).trans b2, fun _ a => absurd (hd.1.symm.trans a) (by decide), fun _ a => by simp at a, fun _ _ e => ?_⟩
        rcases blk2 with h | h
        · exact b4 hd.1 hL (h.symm.trans e)
        · rw [h] at e; injection e with e; omega
    · simp only [List.getElem?_toArray, List.getElem?_cons_succ, List.getElem?_cons_zero, Option.some.injEq] at ho
      subst ho
      simp [Region.binds] at hd
      have h22 : L 22 = false := by
        cases e : L 22 with
        | false => rfl
        | true => exact absurd (h.out.e22 e 17 (by omega)) (by rw [hL]; decide)
      have nn := h.out.new h22
      have k0 := (nn.cell w.heap.size 0 LKF.out).trans (HKF.out 0)
      have k1 := (nn.cell w.heap.size 1 LKF.out).trans (HKF.out 1)
      have k2 := (nn.cell w.heap.size 2 LKF.out).trans (HKF.out 2)
      have k3 := (nn.cell w.heap.size 3 LKF.out).trans (HKF.out 3)
      go_simp
      refine hK _ _ ⟨_, _, _, _, _, _, _, _, _, _, _, _, _, _, _, _, _, _, _, _, _, _, rfl, hid { h.out with e22 := fun h22 j hj => by have := h.out.e22 h22 j hj; simp [this], p17 := fun _ => rfl }⟩
    · simp only [List.getElem?_toArray, List.getElem?_cons_succ, List.getElem?_cons_zero, Option.some.injEq] at ho
      subst ho
      simp [Region.binds] at hd
      have h22 : L 22 = false := by
        cases e : L 22 with
        | false => rfl
        | true => exact absurd (h.out.e22 e 18 (by omega)) (by rw [hL]; decide)
      have nn := h.out.new h22
      have d17 := h.out.p17 hd
      subst d17
      have na := (New.refl w').alloc (rfCells x.2).toArray 104
      have e1 := h.out.c1
      have e2 := h.out.c8
      have e3 := h.out.c16
      unfold rfCells at na
      go_simp
      refine hK _ _ ⟨_, _, _, _, _, _, _, _, _, _, _, _, _, _, _, _, _, _, _, _, _, _, rfl, hid { h.out with e22 := fun h22 j hj => by have := h.out.e22 h22 j hj; simp [this], new := fun _ => nn.trans na, e19 := fun a => ⟨(h.out.e19 a).1, rfl⟩, c1 := fun a b => own_old (e1 a b) na, c8 := fun a b => own_old (e2 a b) na, c16 := fun a b => own_old (e3 a b) na, c19 := fun h19 _ => absurd (h.out.e19 h19).2 (by rw [hL]; decide), c18 := fun _ _ => ⟨w'.heap.size, rfl, heap_alloc_new w' _, fun a b e => by have := ((e1 a b).lt _ e).2; omega, fun a b e => by have := ((e2 a b).lt _ e).2; omega, fun a b e => by have := ((e3 a b).lt _ e).2; omega⟩, c22 := fun h => absurd (h22.symm.trans h) (by decide) }⟩
    · simp only [List.getElem?_toArray, List.getElem?_cons_succ, List.getElem?_cons_zero, Option.some.injEq] at ho
      subst ho
      simp [Region.binds] at hd
      have h22 : L 22 = false := by
        cases e : L 22 with
        | false => rfl
        | true => exact absurd (h.out.e22 e 19 (by omega)) (by rw [hL]; decide)
      have nn := h.out.new h22
      have own := h.out.c16 hd.1 hL
      obtain ⟨B, b1, b2, b3, b4, b5⟩ := h.out.c18 hd.2.1 hL
      subst b1
      refine step_rf rfl _ _ rfl w1.heap.size _ _ _ rfl own ⟨B, 0, none⟩ 1 1 (rfCells x.2) rfl rfl (fun j u hj => by rw [add_at, Nat.zero_add]; rw [cells_of b2 j, List.getElem?_toArray]; exact hj) (fun u hu => by simp [rfCells] at hu; rcases hu with rfl | rfl | rfl | rfl <;> rfl) (by have := LT1.out; have := LT2.out; have := LI.out; omega) nn.size ?_
      intro v2 w2 own2 grow2 blk2
      refine hK _ _ ⟨_, _, _, _, _, _, _, _, _, _, _, _, _, _, _, _, _, _, _, _, _, _, rfl, hid { h.out with e22 := fun h22 j hj => by have := h.out.e22 h22 j hj; simp [this], new := fun _ => nn.grown grow2 nn.size (fun k hk => (own.lt k hk).1), e19 := fun _ => ⟨hd.1, hd.2.1⟩, c1 := fun a b => absurd ((h.out.e16 hd.1) ▸ b) (by simp), c8 := fun _ a => absurd (hd.1.symm.trans a) (by decide), c16 := fun _ a => by simp at a, c18 := fun _ a => by simp at a, c19 := fun _ _ => own2, c22 := fun h => absurd (h22.symm.trans h) (by decide) }⟩
    · simp only [List.getElem?_toArray, List.getElem?_cons_succ, List.getElem?_cons_zero, Option.some.injEq] at ho
      subst ho
      simp [Region.binds] at hd
      have d0 := h.out.p0 hd.1
      subst d0
      go_simp
      refine hK _ _ ⟨_, _, _, _, _, _, _, _, _, _, _, _, _, _, _, _, _, _, _, _, _, _, rfl, hid { h.out with e22 := fun h22 j hj => by have := h.out.e22 h22 j hj; simp [this], p20 := fun _ => rfl, e21 := fun _ => rfl }⟩
    · simp only [List.getElem?_toArray, List.getElem?_cons_succ, List.getElem?_cons_zero, Option.some.injEq] at ho
      subst ho
      simp [Region.binds] at hd
      have d20 := h.out.p20 hd.1
      subst d20
      go_simp
      refine hK _ _ ⟨_, _, _, _, _, _, _, _, _, _, _, _, _, _, _, _, _, _, _, _, _, _, rfl, hid { h.out with e22 := fun h22 j hj => by have := h.out.e22 h22 j hj; simp [this], p21 := fun _ => rfl, e21 := fun _ => hd.1 }⟩
    · simp only [List.getElem?_toArray, List.getElem?_cons_succ, List.getElem?_cons_zero, Option.some.injEq] at ho
      subst ho
      simp [Region.binds] at hd
      obtain ⟨a21, b19, a0, a1, a2, a3, a4, a5, a6, a7, a8, a9, a10, a11, a12, a13, a14, a15, a16, a17, a18, a19⟩ := hd
      have a20 := h.out.e21 a21
      have d21 := h.out.p21 a21
      have own := h.out.c19 a19 hL
      have nn := h.out.new hL
      have hrp := (Below.block nn rp LRP.out).trans HR1.out
      have hc5 := cells_of hrp 5
      have hz5 := frozen_of hrp 5
      generalize hz : (P.frames.take i).length + (P.frames.drop (i + 1)).length + 1 = z at own
      obtain ⟨vp, vc, rfl⟩ := own_len own
      subst d21
      have HZ := hid hz
      clear hz
      go_simp
      have hz := HZ.out
      clear HZ
      subst hz
      have h22 : ∀ j, j < 22 → L j = true := by
        intro j hj
        have hj2 : j = 0 ∨ j = 1 ∨ j = 2 ∨ j = 3 ∨ j = 4 ∨ j = 5 ∨ j = 6 ∨ j = 7 ∨ j = 8 ∨ j = 9 ∨ j = 10 ∨ j = 11 ∨ j = 12 ∨ j = 13 ∨ j = 14 ∨ j = 15 ∨ j = 16 ∨ j = 17 ∨ j = 18 ∨ j = 19 ∨ j = 20 ∨ j = 21 := by omega
        rcases hj2 with rfl | rfl | rfl | rfl | rfl | rfl | rfl | rfl | rfl | rfl | rfl | rfl | rfl | rfl | rfl | rfl | rfl | rfl | rfl | rfl | rfl | rfl <;> assumption
      exact hK _ _ ⟨_, _, _, _, _, _, _, _, _, _, _, _, _, _, _, _, _, _, _, _, _, _, rfl, hid { h.out with e22 := fun _ j hj => by have := h22 j hj; simp [this], new := fun a => by simp at a, c1 := fun _ a => absurd (a8.symm.trans a) (by decide), c8 := fun _ a => absurd (a16.symm.trans a) (by decide), c16 := fun _ a => absurd (a19.symm.trans a) (by decide), c18 := fun _ a => absurd (a19.symm.trans a) (by decide), c19 := fun _ a => by simp at a, c22 := fun _ => ⟨w', nn, own, rfl⟩ }⟩
end Go.Proofs.YtdccbceaajnajaaGreat
