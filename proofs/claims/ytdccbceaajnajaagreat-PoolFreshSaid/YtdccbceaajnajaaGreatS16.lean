/- A pool and that of the specification, side by side. -/
import Derived.Test.YtdccbceaajnajaaGreatS15
namespace Go.Proofs.YtdccbceaajnajaaGreat
open Go.RowKit
set_option linter.unusedSimpArgs false
set_option linter.unusedVariables false

theorem ref_sys {t : TypeId} (h : refT t) : ¬ sysT t ∧ t ≠ 5 ∧ t ≠ 133 := by
  rcases h with rfl | rfl | rfl | rfl <;> refine ⟨?_, by decide, by decide⟩ <;> simp [sysT]
theorem sys_ref {t : TypeId} (h : sysT t) : ¬ refT t := fun h2 => (ref_sys h2).1 h
theorem typed_not {T : TypeId → Prop} {w : World} {k : Nat} {c : Array Value} {t : TypeId} {fr : Nat × Nat} (hk : w.heap[k]? = some (Obj.cells c t fr)) (ht : ¬ T t) : ¬ ∃ c t fr, w.heap[k]? = some (Obj.cells c t fr) ∧ T t := by
  rintro ⟨c', t', fr', e, h⟩
  rw [hk] at e
  injection e with e
  injection e with _ e _
  exact ht (e ▸ h)
/-- The program's side stands while the specification's moves. -/
theorem Sys.kept {w0 w w' : World} {b tb pb : Nat} {ow ot os : Option Nat} {A : ADisk} {T : ATape} {P : APool} (S : Sys w0 w b ow tb ot pb os A T P) (h : Only refT w w') (hn : New w0 w') : Sys w0 w' b ow tb ot pb os A T P := by
  have ht := h.turn
  have a5 : Apart (fun k => ∃ c t fr, w.heap[k]? = some (Obj.cells c t fr) ∧ refT t) w := fun k c fr hk e => typed_not e (fun h => (ref_sys h).2.1 rfl) hk
  have a90 : Apart90 (fun k => ∃ c t fr, w.heap[k]? = some (Obj.cells c t fr) ∧ refT t) w := fun k c fr hk e => typed_not e (fun h => (ref_sys h).2.2 rfl) hk
  have key : ∀ k, alls b ow tb ot pb os P k → ¬ ∃ c t fr, w.heap[k]? = some (Obj.cells c t fr) ∧ refT t := fun k hk => by
    obtain ⟨c, t, fr, e, hs⟩ := alls_typed S hk
    exact typed_not e (sys_ref hs)
  refine ⟨{ S.log with disk := disk_keep S.log.disk ht (fun k hk => ?_), tape := S.log.tape.turn ht (key _ (.inl (.inr (.inl rfl)))) (fun k hk => key k (.inl (.inr (.inr hk)))) a5 a90, new := hn }, S.pool.turn ht (key _ (.inr (.inl rfl))) (fun k hk => key k (.inr (.inr (.inl hk)))) (fun p hp => key _ (.inr (.inr (.inr ⟨p, hp, rfl⟩)))) a5, S.pp⟩
  obtain ⟨c, t, fr, e, h1⟩ := hk
  obtain ⟨h2, h3, h4⟩ := ref_sys h1
  exact ⟨c, t, fr, e, h3, fun e => h2 (.inl e), fun e => h2 (.inr (.inl e))⟩
/-- The specification's side stands while the program's moves. -/
theorem RSys.kept {w0 w w' : World} {b rp : Nat} {ow fo : Option Nat} {R : ADisk} {T : ATape} {P : APool} (S : RSys w0 w b ow rp fo R T P) (h : Only sysT w w') (hn : New w0 w') : RSys w0 w' b ow rp fo R T P := by
  have ht := h.turn
  have key : ∀ k, refs b ow rp fo k → ¬ ∃ c t fr, w.heap[k]? = some (Obj.cells c t fr) ∧ sysT t := fun k hk => by
    obtain ⟨c, t, fr, e, hs⟩ := S.typed hk
    exact typed_not e (ref_sys hs).1
  obtain ⟨v, e1, e2, e3⟩ := S.pool
  exact { S with disk := S.disk.turn ht (key _ (.inl (.inl rfl))) (fun k hk => key k (.inl (.inr hk))), pool := ⟨v, h.cells e1 (by simp [sysT]), e2, own_only e3 h (by simp [sysT])⟩, new := hn }
/-- Both sides, in one block x. -/
structure Both (w0 w : World) (x b : Nat) (ow : Option Nat) (tb : Nat) (ot : Option Nat) (pb : Nat) (os : Option Nat) (rb : Nat) (rw : Option Nat) (rp : Nat) (fo : Option Nat) (A : ADisk) (T : ATape) (P : APool) : Prop where
  pair : w.heap[x]? = some (.cells #[.pointer (some ⟨b, 0, none⟩), .pointer (some ⟨tb, 0, none⟩), .pointer (some ⟨pb, 0, none⟩), .pointer (some ⟨rp, 0, none⟩)] 43 (0, 0))
  sys : Sys w0 w b ow tb ot pb os A T P
  ref : RSys w0 w rb rw rp fo A T P
theorem Both.newer {w0 w w' : World} {x b tb pb rb rp : Nat} {ow ot os rw fo : Option Nat} {A : ADisk} {T : ATape} {P : APool} (h : Both w0 w x b ow tb ot pb os rb rw rp fo A T P) (hn : New w w') : Both w0 w' x b ow tb ot pb os rb rw rp fo A T P :=
  ⟨(Below.block hn x (Array.getElem?_eq_some_iff.1 h.pair).1).trans h.pair, h.sys.newer hn, h.ref.newer hn⟩

theorem copy_nil (a : Addr) (c : Nat) (w : World) : (Builtin.copy_ #[29, 29] 3 #[.slice (some a) 128 128, .slice none 0 c]).run Tryz.prog w = .ok (.int .i64 0) w := by
  obtain ⟨i0, hi, hz0, hz1, hz2⟩ := info_parts (show (Tryz.prog.info? 5).map (fun i => (i.zero, i.size, i.bytes)) = some (some (.int .u8 0), 1, 1) by kernel_rfl)
  have hu := run_underlying (P := Tryz.prog) Tryz.underlying29
  simp [Builtin.copy_, hu, sizeOf, typeInfo, hi, Builtin.lenOf, Builtin.firstCells, loadCells, loadCellsFrom, storeCells]
  rfl
theorem rep_list : (Array.replicate 128 (Value.int .u8 0)).toList = List.replicate 128 (.int .u8 0) := by kernel_rfl
/-- What filled gives. -/
def fillB (s : ByteArray) : ByteArray := if 128 < s.size then s else bytesOf (s.data.toList ++ List.replicate (128 - s.size) 0)
def Filled (v : Value) (s : ByteArray) (w : World) (e : Ending) (w' : World) : Prop := ∃ u, e = .returned u ∧ New w w' ∧ ((u = v ∧ 128 < s.size) ∨ (s.size ≤ 128 ∧ Content w' u (fillB s)))
theorem filled_row {w : World} {g : Nat} {s : ByteArray} (hs : s.size ≤ 128) (cs : List Value) (hc : cs = byteVals s ++ List.replicate (128 - s.size) (.int .u8 0)) (h : w.heap[g]? = some (.cells cs.toArray 5 (0, 0))) : Content w (.slice (some ⟨g, 0, none⟩) 128 128) (fillB s) := by
  have e : fillB s = bytesOf (s.data.toList ++ List.replicate (128 - s.size) 0) := by unfold fillB; rw [if_neg (by omega)]
  have hb : byteVals (fillB s) = cs := by
    rw [e, hc]
    simp [byteVals, bytesOf, List.map_replicate]
  have hl : cs.length = 128 := by
    rw [hc, List.length_append, List.length_replicate, byteVals_length]
    omega
  refine own_content (base := 0) (n := 128) (xs := cs) ⟨by rw [hl], .inr ⟨g, 128, cs.toArray, rfl, Nat.zero_le _, h, Nat.le_refl _, by decide, by simp [hl], by simp [List.take_of_length_le (Nat.le_of_eq hl)]⟩⟩ ?_ hb
  rw [← byteVals_length, hb, hl]

set_option maxHeartbeats 1600000 in
set_option maxRecDepth 100000 in
theorem filled_any (v : Value) (s : ByteArray) (w : World) (h : Bytes w v s) (hs : s.size ≤ 1000) : Calls Tryz.prog 10 #[v] w (Filled v s w) := by
  have H := hid h
  obtain ⟨p, c, rfl, a1, b1, h3⟩ := h
  unfold maxLen at b1
  by_cases g0 : 128 < s.size
  · have q0 : decide (128 < s.size) = true := by simpa using g0
    have q1 : decide ((128 : Int) < (s.size : Int)) = true := by simp; omega
    have G := hid g0
    clear g0 h3
    go_enter Tryz.func10, Tryz.ntmps10
    go_wp2
    go_ret
    exact ⟨_, rfl, New.refl _, .inl ⟨rfl, G.out⟩⟩
  have q0 : decide (128 < s.size) = false := by simpa using g0
  have q1 : decide ((128 : Int) < (s.size : Int)) = false := by simp; omega
  have hmk := make_zero
  have HLE := hid (show s.size ≤ 128 by omega)
  have NZ := hid ((New.refl w).alloc (Array.replicate 128 (.int .u8 0)) 5)
  have KZ := hid (heap_alloc_new w (.cells (Array.replicate 128 (.int .u8 0)) 5))
  have H3 := hid h3
  clear g0 h3
  cases p with
  | none =>
    have hz : s.size = 0 := by
      rcases Nat.eq_zero_or_pos s.size with h | h
      · exact h
      · obtain ⟨b, o, e, _⟩ := H3.out h
        cases e
    have HZ := hid hz
    have hvv : s = ByteArray.empty := by
      rw [← bytesOf_data s]
      have : s.data.toList = [] := by
        apply List.eq_nil_of_length_eq_zero
        rw [← bytesOf_size s.data.toList, bytesOf_data]
        exact hz
      rw [this]
      rfl
    subst hvv
    clear hz
    have hcp := fun a w => copy_nil a c w
    go_enter Tryz.func10, Tryz.ntmps10
    go_wp2
    go_ret
    refine ⟨_, rfl, NZ.out, .inr ⟨by decide, filled_row (by decide) (List.replicate 128 (.int .u8 0)) rfl ?_⟩⟩
    have e : (List.replicate 128 (Value.int .u8 0)).toArray = Array.replicate 128 (.int .u8 0) := by kernel_rfl
    rw [e]
    exact KZ.out
  | some q =>
    have hcp := run_copy_row (P := Tryz.prog) (w.alloc (.cells (Array.replicate 128 (.int .u8 0)) 5)) 29 29 3 5 w.heap.size 0 128 128 q s.size c (Array.replicate 128 (.int .u8 0)) 5 (byteVals s) Tryz.underlying29 (by kernel_rfl) KZ.out (by rw [byteVals_length]; have := HLE.out; simp [Nat.min_eq_left this]) (fun j u hj => by
      have hj2 := (List.getElem?_eq_some_iff.1 hj).1
      rw [byteVals_length] at hj2
      obtain ⟨b, o, e, hb, hc⟩ := H3.out (by omega)
      injection e with e
      subst e
      rw [add_at]
      have h1 := hc j (by rw [byteVals_length]; exact hj2)
      rw [List.getD_eq_getElem?_getD, hj] at h1
      exact (NZ.out.cell b (o + j) hb).trans h1) (by rw [byteVals_length]; have := HLE.out; simp; omega) (fun u hu => by simp [byteVals] at hu; obtain ⟨x, _, rfl⟩ := hu; rfl)
    have hcl := byteVals_length s
    have HCL := hid hcl
    obtain ⟨W2, hW2⟩ : ∃ W2, W2 = (w.alloc (.cells (Array.replicate 128 (.int .u8 0)) 5)).setRow w.heap.size ((Array.replicate 128 (Value.int .u8 0)).toList.take 0 ++ byteVals s ++ (Array.replicate 128 (Value.int .u8 0)).toList.drop (0 + (byteVals s).length)).toArray := ⟨_, rfl⟩
    rw [← hW2] at hcp
    have HW2 := hid hW2
    clear hW2 hcl
    go_enter Tryz.func10, Tryz.ntmps10
    go_wp2
    go_ret
    have hrow := setRow_heap (w.alloc (.cells (Array.replicate 128 (.int .u8 0)) 5)) w.heap.size _ ((Array.replicate 128 (Value.int .u8 0)).toList.take 0 ++ byteVals s ++ (Array.replicate 128 (Value.int .u8 0)).toList.drop (0 + (byteVals s).length)).toArray 5 (0, 0) KZ.out
    have hnw : New w W2 := by
      rw [HW2.out]
      exact below_setRow NZ.out (Nat.le_refl _) _
    rw [← HW2.out] at hrow
    refine ⟨_, rfl, hnw, .inr ⟨HLE.out, filled_row HLE.out _ ?_ hrow⟩⟩
    rw [HCL.out, rep_list, List.take_zero, List.nil_append, Nat.zero_add, List.drop_replicate]

def refCells : Array Value := (List.replicate 3120 (Value.string ByteArray.empty) ++ [Value.slice none 0 0, .int .i64 0, .bool false, .int .i64 0, .int .i64 0]).toArray
theorem refCells_eq : Tryz.zeroCells64 = refCells := by kernel_rfl
theorem refCells_size : refCells.size = 3125 := by
  unfold refCells
  rw [List.size_toArray, List.length_append, List.length_replicate]
  rfl
def refF (i : Nat) : Value := refCells[i]?.getD undef
theorem refF_safe (i : Nat) (h : i < 3120) : refF i = .string ByteArray.empty := by
  unfold refF refCells
  rw [List.getElem?_toArray, List.getElem?_append_left (by rw [List.length_replicate]; omega), List.getElem?_replicate, if_pos h]
  rfl
theorem refF_tail (k : Nat) : refF (3120 + k) = ([.slice none 0 0, .int .i64 0, .bool false, .int .i64 0, .int .i64 0] : List Value)[k]?.getD undef := by
  unfold refF refCells
  rw [List.getElem?_toArray, List.getElem?_append_right (by rw [List.length_replicate]; omega), List.length_replicate, show 3120 + k - 3120 = k by omega]
theorem refNewAt (w : World) : RefAt (w.alloc (.cells Tryz.zeroCells64 64)) w.heap.size none newA := by
  rw [refCells_eq]
  refine ⟨refF, ⟨refCells, World.alloc_heap_new w _, refCells_size, fun i hi => ?_⟩, ?_⟩
  · unfold refF
    rw [Array.getElem?_eq_getElem (by rw [refCells_size]; exact hi)]
    rfl
  · constructor
    case safe => exact fun i hi => refF_safe i hi
    case own => rw [show refF 3120 = .slice none 0 0 from refF_tail 0]; exact ⟨rfl, .inl ⟨rfl, rfl⟩⟩
    case blk => rw [show refF 3120 = .slice none 0 0 from refF_tail 0]; rfl
    case armed => exact refF_tail 1
    case down => exact refF_tail 2
    case acts => exact refF_tail 3
    case falls => exact refF_tail 4
    case inside => intro p hp; cases hp
    case armed0 => exact zero_armed
    case acts0 => exact Int.le_refl _
    case falls0 => exact Int.le_refl _
/-- What newPair leaves. -/
def Paired (w0 : World) (n : Nat) (w : World) (e : Ending) (w' : World) : Prop :=
  ∃ x b ow tb ot pb rb rp, e = .returned (.tuple #[.pointer (some ⟨x, 0, none⟩), .bool true]) ∧ Both w0 w' x b ow tb ot pb none rb none rp none newA tape0 ⟨n, [], 0⟩
set_option maxHeartbeats 1600000 in
set_option maxRecDepth 100000 in
theorem newPair_any (n : Nat) (w : World) (h1 : 2 ≤ n) (h2 : n ≤ 16) : Calls Tryz.prog 8 #[.int .i64 (n : Int)] w (Paired w n w) := by
  go_enter Tryz.func8, Tryz.ntmps8
  go_wp2_with fail
  refine (new_any _).mono ?_
  rintro e w2 ⟨rfl, rfl⟩
  have M1 := hid (Mine.made w w (New.refl w))
  go_wp2_with fail
  refine (open_any w w.heap.size none newA 0 _ M1.out calm_new (by omega)).mono ?_
  rintro e w3 ⟨ow3, tb, ot3, rfl, hL3, ht3, -, htb3, hot3⟩
  rw [HasLog.new.opened.1, HasLog.new.opened.2] at hL3
  have L3 := hid hL3
  clear hL3 ht3 htb3 hot3 M1
  generalize w.heap.size = b at L3 ⊢
  go_wp2_with fail
  refine (pnew_any b ow3 newA tb (n : Int) _ L3.out.disk (by decide)).mono ?_
  rintro e w4 ⟨hn4, hy, -⟩
  obtain ⟨pb, hpb, rfl, hP4⟩ := hy ⟨by omega, by omega⟩
  have S4 : Hid (Sys w w4 b ow3 tb ot3 pb none newA tape0 ⟨n, [], 0⟩) := hid ⟨L3.out.newer hn4, hP4, fun k hk => by
    have hw : w.heap.size ≤ w3.heap.size := L3.out.new.size
    rcases hk with rfl | hk | ⟨p, hp, _⟩
    · omega
    · cases hk
    · cases hp⟩
  clear hn4 hy hP4 L3
  go_wp2_with fail
  have hz := refNewAt w4
  generalize Tryz.zeroCells64 = Z at *
  have n1 := (New.refl w4).alloc Z 64
  have n2 := (New.refl (w4.alloc (.cells Z 64))).alloc #[.pointer (some ⟨w4.heap.size, 0, none⟩), .int .i64 0, .int .i64 0, .int .i64 (n : Int), .bool false, .slice none 0 0, .int .i64 0] 67
  have k2 := heap_alloc_new (w4.alloc (.cells Z 64)) (.cells #[.pointer (some ⟨w4.heap.size, 0, none⟩), .int .i64 0, .int .i64 0, .int .i64 (n : Int), .bool false, .slice none 0 0, .int .i64 0] 67)
  rw [show (w4.alloc (.cells Z 64)).heap.size = w4.heap.size + 1 by simp] at k2
  generalize hW2 : (w4.alloc (.cells Z 64)).alloc (.cells #[.pointer (some ⟨w4.heap.size, 0, none⟩), .int .i64 0, .int .i64 0, .int .i64 (n : Int), .bool false, .slice none 0 0, .int .i64 0] 67) = W2 at *
  have hs2 : W2.heap.size = w4.heap.size + 1 + 1 := by rw [← hW2]; simp
  have n3 := (New.refl W2).alloc #[.pointer (some ⟨b, 0, none⟩), .pointer (some ⟨tb, 0, none⟩), .pointer (some ⟨pb, 0, none⟩), .pointer (some ⟨w4.heap.size + 1, 0, none⟩)] 43
  have k3 := heap_alloc_new W2 (.cells #[.pointer (some ⟨b, 0, none⟩), .pointer (some ⟨tb, 0, none⟩), .pointer (some ⟨pb, 0, none⟩), .pointer (some ⟨w4.heap.size + 1, 0, none⟩)] 43)
  rw [hs2] at k3
  generalize W2.alloc (.cells #[.pointer (some ⟨b, 0, none⟩), .pointer (some ⟨tb, 0, none⟩), .pointer (some ⟨pb, 0, none⟩), .pointer (some ⟨w4.heap.size + 1, 0, none⟩)] 43) = W3 at *
  have nn := n1.trans (n2.trans n3)
  have nw := S4.out.log.new.trans nn
  have l2 : w4.heap.size + 1 < W2.heap.size := by omega
  go_ret2
  refine ⟨_, b, ow3, tb, ot3, pb, w4.heap.size, w4.heap.size + 1, rfl, ⟨k3, S4.out.newer nn, ?_⟩⟩
  have hw4 : w.heap.size ≤ w4.heap.size := S4.out.log.new.size
  exact ⟨hz.new (n2.trans n3), ⟨.slice none 0 0, (Below.block n3 _ l2).trans k2, rfl, World.ownsRow_nil _ _ _ _⟩, nw, hw4, fun k hk => (by cases hk), Nat.le_succ_of_le hw4, fun k hk => (by cases hk)⟩
end Go.Proofs.YtdccbceaajnajaaGreat
