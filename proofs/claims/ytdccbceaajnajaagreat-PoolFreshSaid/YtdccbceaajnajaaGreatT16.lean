/- What progenyref03.Encode returns for sound records of each kind but marks (printed by renc.py). -/
import Derived.Test.YtdccbceaajnajaaGreatA7
import Derived.Test.YtdccbceaajnajaaGreatT15
import Derived.Deep.RegionHeld3
import Derived.Deep.CutRange
import Derived.Deep.DeepCutAuto
import Derived.Deep.DrawnRows
namespace Go.Proofs.YtdccbceaajnajaaGreat
open Go.RowKit
set_option linter.unusedSimpArgs false
set_option linter.unusedVariables false
attribute [local go_sem ↓] Go.wp_at_zero Go.wp_at_succ
theorem wrap_at (n : Int) (h : 0 ≤ n ∧ n ≤ 127) : IntKind.u8.wrap n = n := by simp [IntKind.wrap, IntKind.bits, IntKind.signed]; omega
theorem enc_back {n : Int} {r : Rec} {S : List UInt8} (hS : S = headB n r ++ restB r) {W W0 w : World} {base : Nat} {v : Value} {us : List (Value × List UInt8)} (st : St W W0 base w v (numB ((S.length : Int) + 4) ++ S) us) : BytesBack (bytesOf (encB n r)) W (.returned (.tuple #[v, .int .i64 0])) w := by
  have e : numB ((S.length : Int) + 4) ++ S = encB n r := by
    unfold encB
    rw [← hS, Int.add_comm]
  rw [e] at st
  exact ⟨_, rfl, own_bytes st.own (by rw [bytesOf_size]) (u8s_bytes _), st.below⟩

set_option maxRecDepth 100000 in
set_option maxHeartbeats 8000000 in
theorem renc_1 (n : Int) (r : Rec) (bv av uv : Value) (w : World) (h : RecAt w r bv av uv) (hk : r.kind = 1) (hv : validB r = true) (h1 : 1 ≤ n) (h2 : n ≤ 1000000) :
    Calls Tryz.prog 64 #[.int .i64 n, .agg (recCells r bv av uv)] w (BytesBack (bytesOf (encB n r)) w) := by
  have hr := h
  obtain ⟨⟨bp, bc, rfl, b1, b2, _⟩, ⟨ap, ac, rfl, a1, a2, _⟩, ⟨up, uc, rfl, l1, l2, l3⟩⟩ := h
  unfold maxLen at a2 b2 l2
  have G3 := hid l3
  clear l3
  have HC : recCells r (Value.slice bp r.before.size bc) (Value.slice ap r.after.size ac) (Value.slice up r.units.length uc) = #[.int .i64 1, .int .i64 r.unit, .int .i64 r.page, .int .i64 r.at_, Value.slice bp r.before.size bc, Value.slice ap r.after.size ac, .int .i64 r.back, .int .i64 r.next, .string r.text, Value.slice up r.units.length uc] := by unfold recCells; rw [hk]
  have RV := refValid_any r _ _ _ _ (hr.new ((New.refl w).alloc (recCells r (Value.slice bp r.before.size bc) (Value.slice ap r.after.size ac) (Value.slice up r.units.length uc)) 70))
  rw [hv, HC] at RV
  rw [HC]
  have RV' := hid RV
  clear RV HC
  have RV := hid RV'.out
  clear RV'
  have hV := valid_bounds_1 hk hv
  have HK := hid hk
  have CB : Hid (∀ w', New w w' → (Go.convert 29 9 (.slice bp r.before.size bc)).run Tryz.prog w' = .ok (.string r.before) w') := hid fun w' hn => (Bytes.renew hr.before hn).convert (P := Tryz.prog) 29 5 9 Tryz.underlying29 Tryz.underlying5 Tryz.underlying9
  have CA : Hid (∀ w', New w w' → (Go.convert 29 9 (.slice ap r.after.size ac)).run Tryz.prog w' = .ok (.string r.after) w') := hid fun w' hn => (Bytes.renew hr.after hn).convert (P := Tryz.prog) 29 5 9 Tryz.underlying29 Tryz.underlying5 Tryz.underlying9
  have HR := hid hr
  clear hk hr
  have q1 : decide (n < 1) = false := by simp; omega
  have q2 : decide ((1000000 : Int) < n) = false := by simp; omega
  go_enter Tryz.func64, Tryz.ntmps64
  go_wp2_with fail
  refine RV.out.mono ?_
  rintro e w1 ⟨rfl, n1⟩
  have B1 : w1.heap[w.heap.size]? = some (Obj.cells #[.int .i64 1, .int .i64 r.unit, .int .i64 r.page, .int .i64 r.at_, Value.slice bp r.before.size bc, Value.slice ap r.after.size ac, .int .i64 r.back, .int .i64 r.next, .string r.text, Value.slice up r.units.length uc] 70 (0, 0)) := by rw [Below.block n1 _ (by simp)]; exact heap_alloc_new w _
  have N1 : New w w1 := ((New.refl w).alloc _ _).trans n1
  have z1 : w.heap.size + 1 ≤ w1.heap.size := by have := n1.size; simp at this; omega
  have ST0 := hid (St.start N1 (Nat.le_succ _) z1)
  have BB := hid B1
  clear B1 N1 n1 RV q1 q2
  go_upto_region 3 with fail
  go_cut [6] (fun v wx => ∃ S : List UInt8, Hid (S = numB n ++ [UInt8.ofNat 1]) ∧ Hid (St w w1 (w.heap.size + 1) wx v S []))
  case first =>
    have st := ST0.out.drew
    clear ST0
    go_region_held3 (fun w' => w'.cell? ⟨w.heap.size, 0, none⟩ = some (.int .i64 1)) (first | exact st.cells BB.out (by decide) 0 | exact (st.build 1 (UInt8.ofNat 1) rfl).cells BB.out (by decide) 0)
      (first
        | (refine step_num_first rfl (.tmp 20) rfl st n rfl (by omega) (by omega) ?_; intro p0 c0 wq0 st)
        | (refine step_num_first rfl (.tmp 20) rfl (st.build 1 (UInt8.ofNat 1) rfl) n rfl (by omega) (by omega) ?_; intro p0 c0 wq0 st)
        | (refine step_chain rfl (.tmp 21) (.tmp 25) rfl st rfl _ ([UInt8.ofNat 1]) rfl (List.Mem.head _) (by simp) (by simp [numB_length, textB] <;> omega) ?_; intro v1 wr1 st)
        | (refine step_chain rfl (.tmp 21) (.tmp 25) rfl st rfl _ ([UInt8.ofNat 1]) rfl (List.Mem.tail _ (List.Mem.head _)) (by simp) (by simp [numB_length, textB] <;> omega) ?_; intro v1 wr1 st)
        | (refine step_chain rfl (.tmp 21) (.tmp 25) rfl (st.build 1 (UInt8.ofNat 1) rfl) rfl _ ([UInt8.ofNat 1]) rfl (List.Mem.head _) (by simp) (by simp [numB_length, textB] <;> omega) ?_; intro v1 wr1 st)
        | (refine step_chain rfl (.tmp 21) (.tmp 25) rfl (st.build 1 (UInt8.ofNat 1) rfl) rfl _ ([UInt8.ofNat 1]) rfl (List.Mem.tail _ (List.Mem.head _)) (by simp) (by simp [numB_length, textB] <;> omega) ?_; intro v1 wr1 st))
    all_goals
      go_wp2_with fail
      go_meet
      exact ⟨_, hid rfl, hid (by simpa using st.drop)⟩
  case rest =>
  obtain ⟨S3, e3, STS3⟩ := hcut
  have lS3 : S3.length = 5 := by rw [e3.out]; simp [numB_length, textB] <;> omega
  have mlS3 := STS3.out.cells BB.out (by decide)
  go_wp2_with fail
  refine (num_any r.unit _ (by omega) (by omega)).mono ?_
  rintro e wq ⟨p4, c4, rfl, ho, hn⟩
  have st4 := STS3.out.call ho hn
  clear ho hn STS3
  go_wp2_with (at_builtin; refine app_chain rfl _ _ rfl st4 rfl (Value.slice p4 (numB r.unit).length c4) (numB r.unit) rfl (List.Mem.head _) (by simp [numB_length, textB]) (by simp [numB_length, textB] <;> omega) ?_)
  intro v4 wr4 sw4
  clear st4
  have mlw := sw4.cells BB.out (by decide)
  clear mlS3
  obtain ⟨S5, e5⟩ : ∃ S5, S5 = S3 ++ numB r.unit := ⟨_, rfl⟩
  rw [← e5] at sw4
  have lS5 : S5.length = 9 := by rw [e5]; simp [numB_length] <;> omega
  have E5 := hid e5
  have STS5 := hid sw4
  clear e5 sw4
  have HAT : Hid (((UInt8.ofNat r.at_.toNat).toNat : Int) = IntKind.u8.wrap r.at_) := hid (by rw [wrap_at r.at_ (by omega)]; simp; omega)
  go_upto_region 7 with fail
  go_cut [6] (fun v wx => ∃ S : List UInt8, Hid (S = S5 ++ numB r.page ++ [UInt8.ofNat r.at_.toNat]) ∧ Hid (St w w1 (w.heap.size + 1) wx v S []))
  case first =>
    have st := STS5.out.drew
    clear STS5
    go_region_held3 (fun w' => w'.cell? ⟨w.heap.size, 2, none⟩ = some (.int .i64 r.page) ∧ w'.cell? ⟨w.heap.size, 3, none⟩ = some (.int .i64 r.at_)) (first | exact ⟨st.cells BB.out (by decide) 2, st.cells BB.out (by decide) 3⟩ | exact ⟨(st.build (IntKind.u8.wrap r.at_) (UInt8.ofNat r.at_.toNat) HAT.out).cells BB.out (by decide) 2, (st.build (IntKind.u8.wrap r.at_) (UInt8.ofNat r.at_.toNat) HAT.out).cells BB.out (by decide) 3⟩)
      (first
        | (refine step_num rfl (.tmp 38) rfl st r.page rfl (by omega) (by omega) ?_; intro p0 c0 wq0 st)
        | (refine step_num rfl (.tmp 38) rfl (st.build (IntKind.u8.wrap r.at_) (UInt8.ofNat r.at_.toNat) HAT.out) r.page rfl (by omega) (by omega) ?_; intro p0 c0 wq0 st)
        | (refine step_chain rfl (.tmp 36) (.tmp 39) rfl st rfl (Value.slice p0 (numB r.page).length c0) (numB r.page) rfl (by simp) (by simp [numB_length, textB]) (by simp [numB_length, textB] <;> omega) ?_; intro v0 wr0 st)
        | (refine step_chain rfl (.tmp 36) (.tmp 39) rfl (st.build (IntKind.u8.wrap r.at_) (UInt8.ofNat r.at_.toNat) HAT.out) rfl (Value.slice p0 (numB r.page).length c0) (numB r.page) rfl (by simp) (by simp [numB_length, textB]) (by simp [numB_length, textB] <;> omega) ?_; intro v0 wr0 st)
        | (refine step_chain rfl (.tmp 40) (.tmp 44) rfl st rfl _ ([UInt8.ofNat r.at_.toNat]) rfl (List.Mem.head _) (by simp) (by simp [numB_length, textB] <;> omega) ?_; intro v1 wr1 st)
        | (refine step_chain rfl (.tmp 40) (.tmp 44) rfl st rfl _ ([UInt8.ofNat r.at_.toNat]) rfl (List.Mem.tail _ (List.Mem.head _)) (by simp) (by simp [numB_length, textB] <;> omega) ?_; intro v1 wr1 st)
        | (refine step_chain rfl (.tmp 40) (.tmp 44) rfl (st.build (IntKind.u8.wrap r.at_) (UInt8.ofNat r.at_.toNat) HAT.out) rfl _ ([UInt8.ofNat r.at_.toNat]) rfl (List.Mem.head _) (by simp) (by simp [numB_length, textB] <;> omega) ?_; intro v1 wr1 st)
        | (refine step_chain rfl (.tmp 40) (.tmp 44) rfl (st.build (IntKind.u8.wrap r.at_) (UInt8.ofNat r.at_.toNat) HAT.out) rfl _ ([UInt8.ofNat r.at_.toNat]) rfl (List.Mem.tail _ (List.Mem.head _)) (by simp) (by simp [numB_length, textB] <;> omega) ?_; intro v1 wr1 st))
    all_goals
      go_wp2_with fail
      go_meet
      exact ⟨_, hid rfl, hid (by simpa using st.drop)⟩
  case rest =>
  obtain ⟨S7, e7, STS7⟩ := hcut
  have lS7 : S7.length = 14 := by rw [e7.out]; simp [numB_length, textB] <;> omega
  go_upto_region 8 with fail
  have st := STS7.out.drew
  clear STS7
  go_region_held3 (fun w' => w'.cell? ⟨w.heap.size, 4, none⟩ = some (.slice bp r.before.size bc) ∧ w'.cell? ⟨w.heap.size, 5, none⟩ = some (.slice ap r.after.size ac) ∧ (Go.convert 29 9 (.slice bp r.before.size bc)).run Tryz.prog w' = .ok (.string r.before) w' ∧ (Go.convert 29 9 (.slice ap r.after.size ac)).run Tryz.prog w' = .ok (.string r.after) w') (first | exact ⟨st.cells BB.out (by decide) 4, st.cells BB.out (by decide) 5, CB.out _ st.below, CA.out _ st.below⟩)
    (first
      | (refine step_txt rfl (.tmp 49) rfl st r.before rfl (by omega) ?_; intro p0 c0 wq0 st)
      | (refine step_txt rfl (.tmp 54) rfl st r.after rfl (by omega) ?_; intro p1 c1 wq1 st)
      | (refine step_chain rfl (.tmp 46) (.tmp 50) rfl st rfl (Value.slice p0 (textB r.before).length c0) (textB r.before) rfl (by simp) (by simp [numB_length, textB]) (by simp [numB_length, textB] <;> omega) ?_; intro v0 wr0 st)
      | (refine step_chain rfl (.tmp 51) (.tmp 55) rfl st rfl (Value.slice p1 (textB r.after).length c1) (textB r.after) rfl (by simp) (by simp [numB_length, textB]) (by simp [numB_length, textB] <;> omega) ?_; intro v1 wr1 st))
  all_goals
    have sw8 := st.drop
    clear st
    have mlw := sw8.cells BB.out (by decide)
    obtain ⟨S9, e9⟩ : ∃ S9, S9 = S7 ++ textB r.before ++ textB r.after := ⟨_, rfl⟩
    rw [← e9] at sw8
    have l9 : S9.length ≤ 2000 ∧ 4 ≤ S9.length := by rw [e9]; (try simp [numB_length, textB]) <;> omega
    have hS9 : Hid (S9 = headB n r ++ restB r) := hid (by rw [e9, e7.out, E5.out, e3.out]; simp [headB, restB, HK.out, smallB, textB])
    clear e9
    obtain ⟨p9, c9, rfl⟩ := sw8.form
    go_wp2_with fail
    refine (num_any _ _ (by omega) (by omega)).mono ?_
    rintro e wq ⟨p10, c10, rfl, ho, hn⟩
    have st10 := sw8.flip ho hn
    clear ho hn sw8
    have l4 : (numB ((S9.length : Int) + 4)).length = 4 := rfl
    go_wp2_with (at_builtin; refine app_chain rfl _ _ rfl st10 rfl (Value.slice p9 S9.length c9) S9 rfl (List.Mem.head _) (by omega) (by omega) ?_)
    intro v10 wr10 sw10
    have SW := hid sw10
    clear sw10 st10
    go_wp2
    go_ret2
    exact enc_back hS9.out SW.out
set_option maxRecDepth 100000 in
set_option maxHeartbeats 8000000 in
theorem renc_2 (n : Int) (r : Rec) (bv av uv : Value) (w : World) (h : RecAt w r bv av uv) (hk : r.kind = 2) (hv : validB r = true) (h1 : 1 ≤ n) (h2 : n ≤ 1000000) :
    Calls Tryz.prog 64 #[.int .i64 n, .agg (recCells r bv av uv)] w (BytesBack (bytesOf (encB n r)) w) := by
  have hr := h
  obtain ⟨⟨bp, bc, rfl, b1, b2, _⟩, ⟨ap, ac, rfl, a1, a2, _⟩, ⟨up, uc, rfl, l1, l2, l3⟩⟩ := h
  unfold maxLen at a2 b2 l2
  have G3 := hid l3
  clear l3
  have HC : recCells r (Value.slice bp r.before.size bc) (Value.slice ap r.after.size ac) (Value.slice up r.units.length uc) = #[.int .i64 2, .int .i64 r.unit, .int .i64 r.page, .int .i64 r.at_, Value.slice bp r.before.size bc, Value.slice ap r.after.size ac, .int .i64 r.back, .int .i64 r.next, .string r.text, Value.slice up r.units.length uc] := by unfold recCells; rw [hk]
  have RV := refValid_any r _ _ _ _ (hr.new ((New.refl w).alloc (recCells r (Value.slice bp r.before.size bc) (Value.slice ap r.after.size ac) (Value.slice up r.units.length uc)) 70))
  rw [hv, HC] at RV
  rw [HC]
  have RV' := hid RV
  clear RV HC
  have RV := hid RV'.out
  clear RV'
  have hV := valid_bounds_2 hk hv
  have HK := hid hk
  have CB : Hid (∀ w', New w w' → (Go.convert 29 9 (.slice bp r.before.size bc)).run Tryz.prog w' = .ok (.string r.before) w') := hid fun w' hn => (Bytes.renew hr.before hn).convert (P := Tryz.prog) 29 5 9 Tryz.underlying29 Tryz.underlying5 Tryz.underlying9
  have CA : Hid (∀ w', New w w' → (Go.convert 29 9 (.slice ap r.after.size ac)).run Tryz.prog w' = .ok (.string r.after) w') := hid fun w' hn => (Bytes.renew hr.after hn).convert (P := Tryz.prog) 29 5 9 Tryz.underlying29 Tryz.underlying5 Tryz.underlying9
  have HR := hid hr
  clear hk hr
  have q1 : decide (n < 1) = false := by simp; omega
  have q2 : decide ((1000000 : Int) < n) = false := by simp; omega
  go_enter Tryz.func64, Tryz.ntmps64
  go_wp2_with fail
  refine RV.out.mono ?_
  rintro e w1 ⟨rfl, n1⟩
  have B1 : w1.heap[w.heap.size]? = some (Obj.cells #[.int .i64 2, .int .i64 r.unit, .int .i64 r.page, .int .i64 r.at_, Value.slice bp r.before.size bc, Value.slice ap r.after.size ac, .int .i64 r.back, .int .i64 r.next, .string r.text, Value.slice up r.units.length uc] 70 (0, 0)) := by rw [Below.block n1 _ (by simp)]; exact heap_alloc_new w _
  have N1 : New w w1 := ((New.refl w).alloc _ _).trans n1
  have z1 : w.heap.size + 1 ≤ w1.heap.size := by have := n1.size; simp at this; omega
  have ST0 := hid (St.start N1 (Nat.le_succ _) z1)
  have BB := hid B1
  clear B1 N1 n1 RV q1 q2
  go_upto_region 3 with fail
  go_cut [6] (fun v wx => ∃ S : List UInt8, Hid (S = numB n ++ [UInt8.ofNat 2]) ∧ Hid (St w w1 (w.heap.size + 1) wx v S []))
  case first =>
    have st := ST0.out.drew
    clear ST0
    go_region_held3 (fun w' => w'.cell? ⟨w.heap.size, 0, none⟩ = some (.int .i64 2)) (first | exact st.cells BB.out (by decide) 0 | exact (st.build 2 (UInt8.ofNat 2) rfl).cells BB.out (by decide) 0)
      (first
        | (refine step_num_first rfl (.tmp 20) rfl st n rfl (by omega) (by omega) ?_; intro p0 c0 wq0 st)
        | (refine step_num_first rfl (.tmp 20) rfl (st.build 2 (UInt8.ofNat 2) rfl) n rfl (by omega) (by omega) ?_; intro p0 c0 wq0 st)
        | (refine step_chain rfl (.tmp 21) (.tmp 25) rfl st rfl _ ([UInt8.ofNat 2]) rfl (List.Mem.head _) (by simp) (by simp [numB_length, textB] <;> omega) ?_; intro v1 wr1 st)
        | (refine step_chain rfl (.tmp 21) (.tmp 25) rfl st rfl _ ([UInt8.ofNat 2]) rfl (List.Mem.tail _ (List.Mem.head _)) (by simp) (by simp [numB_length, textB] <;> omega) ?_; intro v1 wr1 st)
        | (refine step_chain rfl (.tmp 21) (.tmp 25) rfl (st.build 2 (UInt8.ofNat 2) rfl) rfl _ ([UInt8.ofNat 2]) rfl (List.Mem.head _) (by simp) (by simp [numB_length, textB] <;> omega) ?_; intro v1 wr1 st)
        | (refine step_chain rfl (.tmp 21) (.tmp 25) rfl (st.build 2 (UInt8.ofNat 2) rfl) rfl _ ([UInt8.ofNat 2]) rfl (List.Mem.tail _ (List.Mem.head _)) (by simp) (by simp [numB_length, textB] <;> omega) ?_; intro v1 wr1 st))
    all_goals
      go_wp2_with fail
      go_meet
      exact ⟨_, hid rfl, hid (by simpa using st.drop)⟩
  case rest =>
  obtain ⟨S3, e3, STS3⟩ := hcut
  have lS3 : S3.length = 5 := by rw [e3.out]; simp [numB_length, textB] <;> omega
  have mlS3 := STS3.out.cells BB.out (by decide)
  go_wp2_with fail
  refine (num_any r.unit _ (by omega) (by omega)).mono ?_
  rintro e wq ⟨p4, c4, rfl, ho, hn⟩
  have st4 := STS3.out.call ho hn
  clear ho hn STS3
  go_wp2_with (at_builtin; refine app_chain rfl _ _ rfl st4 rfl (Value.slice p4 (numB r.unit).length c4) (numB r.unit) rfl (List.Mem.head _) (by simp [numB_length, textB]) (by simp [numB_length, textB] <;> omega) ?_)
  intro v4 wr4 sw4
  clear st4
  have mlw := sw4.cells BB.out (by decide)
  clear mlS3
  obtain ⟨S5, e5⟩ : ∃ S5, S5 = S3 ++ numB r.unit := ⟨_, rfl⟩
  rw [← e5] at sw4
  have lS5 : S5.length = 9 := by rw [e5]; simp [numB_length] <;> omega
  have E5 := hid e5
  have STS5 := hid sw4
  clear e5 sw4
  have HAT : Hid (((UInt8.ofNat r.at_.toNat).toNat : Int) = IntKind.u8.wrap r.at_) := hid (by rw [wrap_at r.at_ (by omega)]; simp; omega)
  go_upto_region 10 with fail
  go_cut [6] (fun v wx => ∃ S : List UInt8, Hid (S = S5 ++ numB r.page ++ [UInt8.ofNat r.at_.toNat]) ∧ Hid (St w w1 (w.heap.size + 1) wx v S []))
  case first =>
    have st := STS5.out.drew
    clear STS5
    go_region_held3 (fun w' => w'.cell? ⟨w.heap.size, 2, none⟩ = some (.int .i64 r.page) ∧ w'.cell? ⟨w.heap.size, 3, none⟩ = some (.int .i64 r.at_)) (first | exact ⟨st.cells BB.out (by decide) 2, st.cells BB.out (by decide) 3⟩ | exact ⟨(st.build (IntKind.u8.wrap r.at_) (UInt8.ofNat r.at_.toNat) HAT.out).cells BB.out (by decide) 2, (st.build (IntKind.u8.wrap r.at_) (UInt8.ofNat r.at_.toNat) HAT.out).cells BB.out (by decide) 3⟩)
      (first
        | (refine step_num rfl (.tmp 61) rfl st r.page rfl (by omega) (by omega) ?_; intro p0 c0 wq0 st)
        | (refine step_num rfl (.tmp 61) rfl (st.build (IntKind.u8.wrap r.at_) (UInt8.ofNat r.at_.toNat) HAT.out) r.page rfl (by omega) (by omega) ?_; intro p0 c0 wq0 st)
        | (refine step_chain rfl (.tmp 59) (.tmp 62) rfl st rfl (Value.slice p0 (numB r.page).length c0) (numB r.page) rfl (by simp) (by simp [numB_length, textB]) (by simp [numB_length, textB] <;> omega) ?_; intro v0 wr0 st)
        | (refine step_chain rfl (.tmp 59) (.tmp 62) rfl (st.build (IntKind.u8.wrap r.at_) (UInt8.ofNat r.at_.toNat) HAT.out) rfl (Value.slice p0 (numB r.page).length c0) (numB r.page) rfl (by simp) (by simp [numB_length, textB]) (by simp [numB_length, textB] <;> omega) ?_; intro v0 wr0 st)
        | (refine step_chain rfl (.tmp 63) (.tmp 67) rfl st rfl _ ([UInt8.ofNat r.at_.toNat]) rfl (List.Mem.head _) (by simp) (by simp [numB_length, textB] <;> omega) ?_; intro v1 wr1 st)
        | (refine step_chain rfl (.tmp 63) (.tmp 67) rfl st rfl _ ([UInt8.ofNat r.at_.toNat]) rfl (List.Mem.tail _ (List.Mem.head _)) (by simp) (by simp [numB_length, textB] <;> omega) ?_; intro v1 wr1 st)
        | (refine step_chain rfl (.tmp 63) (.tmp 67) rfl (st.build (IntKind.u8.wrap r.at_) (UInt8.ofNat r.at_.toNat) HAT.out) rfl _ ([UInt8.ofNat r.at_.toNat]) rfl (List.Mem.head _) (by simp) (by simp [numB_length, textB] <;> omega) ?_; intro v1 wr1 st)
        | (refine step_chain rfl (.tmp 63) (.tmp 67) rfl (st.build (IntKind.u8.wrap r.at_) (UInt8.ofNat r.at_.toNat) HAT.out) rfl _ ([UInt8.ofNat r.at_.toNat]) rfl (List.Mem.tail _ (List.Mem.head _)) (by simp) (by simp [numB_length, textB] <;> omega) ?_; intro v1 wr1 st))
    all_goals
      go_wp2_with fail
      go_meet
      exact ⟨_, hid rfl, hid (by simpa using st.drop)⟩
  case rest =>
  obtain ⟨S10, e10, STS10⟩ := hcut
  have lS10 : S10.length = 14 := by rw [e10.out]; simp [numB_length, textB] <;> omega
  go_upto_region 11 with fail
  go_cut [6] (fun v wx => ∃ S : List UInt8, Hid (S = S10 ++ textB r.after ++ numB r.back) ∧ Hid (St w w1 (w.heap.size + 1) wx v S []))
  case first =>
    have st := STS10.out.drew
    clear STS10
    go_region_held3 (fun w' => w'.cell? ⟨w.heap.size, 5, none⟩ = some (.slice ap r.after.size ac) ∧ w'.cell? ⟨w.heap.size, 6, none⟩ = some (.int .i64 r.back) ∧ (Go.convert 29 9 (.slice ap r.after.size ac)).run Tryz.prog w' = .ok (.string r.after) w') (first | exact ⟨st.cells BB.out (by decide) 5, st.cells BB.out (by decide) 6, CA.out _ st.below⟩)
      (first
        | (refine step_txt rfl (.tmp 72) rfl st r.after rfl (by omega) ?_; intro p0 c0 wq0 st)
        | (refine step_num rfl (.tmp 76) rfl st r.back rfl (by omega) (by omega) ?_; intro p1 c1 wq1 st)
        | (refine step_chain rfl (.tmp 69) (.tmp 73) rfl st rfl (Value.slice p0 (textB r.after).length c0) (textB r.after) rfl (by simp) (by simp [numB_length, textB]) (by simp [numB_length, textB] <;> omega) ?_; intro v0 wr0 st)
        | (refine step_chain rfl (.tmp 74) (.tmp 77) rfl st rfl (Value.slice p1 (numB r.back).length c1) (numB r.back) rfl (by simp) (by simp [numB_length, textB]) (by simp [numB_length, textB] <;> omega) ?_; intro v1 wr1 st))
    all_goals
      go_wp2_with fail
      go_meet
      exact ⟨_, hid rfl, hid (by simpa using st.drop)⟩
  case rest =>
  obtain ⟨S11, e11, STS11⟩ := hcut
  have lS11 : S11.length ≤ 300 := by rw [e11.out]; simp [numB_length, textB] <;> omega
  have mlS11 := STS11.out.cells BB.out (by decide)
  go_wp2_with fail
  refine (num_any r.next _ (by omega) (by omega)).mono ?_
  rintro e wq ⟨p12, c12, rfl, ho, hn⟩
  have st12 := STS11.out.call ho hn
  clear ho hn STS11
  go_wp2_with (at_builtin; refine app_chain rfl _ _ rfl st12 rfl (Value.slice p12 (numB r.next).length c12) (numB r.next) rfl (List.Mem.head _) (by simp [numB_length, textB]) (by simp [numB_length, textB] <;> omega) ?_)
  intro v12 wr12 sw12
  clear st12
  obtain ⟨S9, e9⟩ : ∃ S9, S9 = S11 ++ numB r.next := ⟨_, rfl⟩
  rw [← e9] at sw12
  have l9 : S9.length ≤ 2000 ∧ 4 ≤ S9.length := by rw [e9]; (try simp [numB_length, textB]) <;> omega
  have hS9 : Hid (S9 = headB n r ++ restB r) := hid (by rw [e9, e11.out, e10.out, E5.out, e3.out]; simp [headB, restB, HK.out, smallB, textB])
  clear e9
  obtain ⟨p9, c9, rfl⟩ := sw12.form
  go_wp2_with fail
  refine (num_any _ _ (by omega) (by omega)).mono ?_
  rintro e wq ⟨p10, c10, rfl, ho, hn⟩
  have st10 := sw12.flip ho hn
  clear ho hn sw12
  have l4 : (numB ((S9.length : Int) + 4)).length = 4 := rfl
  go_wp2_with (at_builtin; refine app_chain rfl _ _ rfl st10 rfl (Value.slice p9 S9.length c9) S9 rfl (List.Mem.head _) (by omega) (by omega) ?_)
  intro v10 wr10 sw10
  have SW := hid sw10
  clear sw10 st10
  go_wp2
  go_ret2
  exact enc_back hS9.out SW.out
set_option maxRecDepth 100000 in
set_option maxHeartbeats 8000000 in
theorem renc_3 (n : Int) (r : Rec) (bv av uv : Value) (w : World) (h : RecAt w r bv av uv) (hk : r.kind = 3) (hv : validB r = true) (h1 : 1 ≤ n) (h2 : n ≤ 1000000) :
    Calls Tryz.prog 64 #[.int .i64 n, .agg (recCells r bv av uv)] w (BytesBack (bytesOf (encB n r)) w) := by
  have hr := h
  obtain ⟨⟨bp, bc, rfl, b1, b2, _⟩, ⟨ap, ac, rfl, a1, a2, _⟩, ⟨up, uc, rfl, l1, l2, l3⟩⟩ := h
  unfold maxLen at a2 b2 l2
  have G3 := hid l3
  clear l3
  have HC : recCells r (Value.slice bp r.before.size bc) (Value.slice ap r.after.size ac) (Value.slice up r.units.length uc) = #[.int .i64 3, .int .i64 r.unit, .int .i64 r.page, .int .i64 r.at_, Value.slice bp r.before.size bc, Value.slice ap r.after.size ac, .int .i64 r.back, .int .i64 r.next, .string r.text, Value.slice up r.units.length uc] := by unfold recCells; rw [hk]
  have RV := refValid_any r _ _ _ _ (hr.new ((New.refl w).alloc (recCells r (Value.slice bp r.before.size bc) (Value.slice ap r.after.size ac) (Value.slice up r.units.length uc)) 70))
  rw [hv, HC] at RV
  rw [HC]
  have RV' := hid RV
  clear RV HC
  have RV := hid RV'.out
  clear RV'
  have hV := valid_bounds_3 hk hv
  have HK := hid hk
  have CB : Hid (∀ w', New w w' → (Go.convert 29 9 (.slice bp r.before.size bc)).run Tryz.prog w' = .ok (.string r.before) w') := hid fun w' hn => (Bytes.renew hr.before hn).convert (P := Tryz.prog) 29 5 9 Tryz.underlying29 Tryz.underlying5 Tryz.underlying9
  have CA : Hid (∀ w', New w w' → (Go.convert 29 9 (.slice ap r.after.size ac)).run Tryz.prog w' = .ok (.string r.after) w') := hid fun w' hn => (Bytes.renew hr.after hn).convert (P := Tryz.prog) 29 5 9 Tryz.underlying29 Tryz.underlying5 Tryz.underlying9
  have HR := hid hr
  clear hk hr
  have q1 : decide (n < 1) = false := by simp; omega
  have q2 : decide ((1000000 : Int) < n) = false := by simp; omega
  go_enter Tryz.func64, Tryz.ntmps64
  go_wp2_with fail
  refine RV.out.mono ?_
  rintro e w1 ⟨rfl, n1⟩
  have B1 : w1.heap[w.heap.size]? = some (Obj.cells #[.int .i64 3, .int .i64 r.unit, .int .i64 r.page, .int .i64 r.at_, Value.slice bp r.before.size bc, Value.slice ap r.after.size ac, .int .i64 r.back, .int .i64 r.next, .string r.text, Value.slice up r.units.length uc] 70 (0, 0)) := by rw [Below.block n1 _ (by simp)]; exact heap_alloc_new w _
  have N1 : New w w1 := ((New.refl w).alloc _ _).trans n1
  have z1 : w.heap.size + 1 ≤ w1.heap.size := by have := n1.size; simp at this; omega
  have ST0 := hid (St.start N1 (Nat.le_succ _) z1)
  have BB := hid B1
  clear B1 N1 n1 RV q1 q2
  go_upto_region 3 with fail
  go_cut [6] (fun v wx => ∃ S : List UInt8, Hid (S = numB n ++ [UInt8.ofNat 3]) ∧ Hid (St w w1 (w.heap.size + 1) wx v S []))
  case first =>
    have st := ST0.out.drew
    clear ST0
    go_region_held3 (fun w' => w'.cell? ⟨w.heap.size, 0, none⟩ = some (.int .i64 3)) (first | exact st.cells BB.out (by decide) 0 | exact (st.build 3 (UInt8.ofNat 3) rfl).cells BB.out (by decide) 0)
      (first
        | (refine step_num_first rfl (.tmp 20) rfl st n rfl (by omega) (by omega) ?_; intro p0 c0 wq0 st)
        | (refine step_num_first rfl (.tmp 20) rfl (st.build 3 (UInt8.ofNat 3) rfl) n rfl (by omega) (by omega) ?_; intro p0 c0 wq0 st)
        | (refine step_chain rfl (.tmp 21) (.tmp 25) rfl st rfl _ ([UInt8.ofNat 3]) rfl (List.Mem.head _) (by simp) (by simp [numB_length, textB] <;> omega) ?_; intro v1 wr1 st)
        | (refine step_chain rfl (.tmp 21) (.tmp 25) rfl st rfl _ ([UInt8.ofNat 3]) rfl (List.Mem.tail _ (List.Mem.head _)) (by simp) (by simp [numB_length, textB] <;> omega) ?_; intro v1 wr1 st)
        | (refine step_chain rfl (.tmp 21) (.tmp 25) rfl (st.build 3 (UInt8.ofNat 3) rfl) rfl _ ([UInt8.ofNat 3]) rfl (List.Mem.head _) (by simp) (by simp [numB_length, textB] <;> omega) ?_; intro v1 wr1 st)
        | (refine step_chain rfl (.tmp 21) (.tmp 25) rfl (st.build 3 (UInt8.ofNat 3) rfl) rfl _ ([UInt8.ofNat 3]) rfl (List.Mem.tail _ (List.Mem.head _)) (by simp) (by simp [numB_length, textB] <;> omega) ?_; intro v1 wr1 st))
    all_goals
      go_wp2_with fail
      go_meet
      exact ⟨_, hid rfl, hid (by simpa using st.drop)⟩
  case rest =>
  obtain ⟨S3, e3, STS3⟩ := hcut
  have lS3 : S3.length = 5 := by rw [e3.out]; simp [numB_length, textB] <;> omega
  have mlS3 := STS3.out.cells BB.out (by decide)
  go_wp2_with fail
  refine (num_any r.unit _ (by omega) (by omega)).mono ?_
  rintro e wq ⟨p4, c4, rfl, ho, hn⟩
  have st4 := STS3.out.call ho hn
  clear ho hn STS3
  go_wp2_with (at_builtin; refine app_chain rfl _ _ rfl st4 rfl (Value.slice p4 (numB r.unit).length c4) (numB r.unit) rfl (List.Mem.head _) (by simp [numB_length, textB]) (by simp [numB_length, textB] <;> omega) ?_)
  intro v4 wr4 sw4
  clear st4
  have mlw := sw4.cells BB.out (by decide)
  clear mlS3
  obtain ⟨S5, e5⟩ : ∃ S5, S5 = S3 ++ numB r.unit := ⟨_, rfl⟩
  rw [← e5] at sw4
  have lS5 : S5.length = 9 := by rw [e5]; simp [numB_length] <;> omega
  have E5 := hid e5
  have STS5 := hid sw4
  clear e5 sw4
  have sw5 := STS5.out
  obtain ⟨S9, e9⟩ : ∃ S9, S9 = S5 := ⟨_, rfl⟩
  rw [← e9] at sw5
  have l9 : S9.length ≤ 2000 ∧ 4 ≤ S9.length := by rw [e9]; (try simp [numB_length, textB]) <;> omega
  have hS9 : Hid (S9 = headB n r ++ restB r) := hid (by rw [e9, E5.out, e3.out]; simp [headB, restB, HK.out, smallB, textB])
  clear e9
  obtain ⟨p9, c9, rfl⟩ := sw5.form
  go_wp2_with fail
  refine (num_any _ _ (by omega) (by omega)).mono ?_
  rintro e wq ⟨p10, c10, rfl, ho, hn⟩
  have st10 := sw5.flip ho hn
  clear ho hn sw5
  have l4 : (numB ((S9.length : Int) + 4)).length = 4 := rfl
  go_wp2_with (at_builtin; refine app_chain rfl _ _ rfl st10 rfl (Value.slice p9 S9.length c9) S9 rfl (List.Mem.head _) (by omega) (by omega) ?_)
  intro v10 wr10 sw10
  have SW := hid sw10
  clear sw10 st10
  go_wp2
  go_ret2
  exact enc_back hS9.out SW.out
set_option maxRecDepth 100000 in
set_option maxHeartbeats 8000000 in
theorem renc_4 (n : Int) (r : Rec) (bv av uv : Value) (w : World) (h : RecAt w r bv av uv) (hk : r.kind = 4) (hv : validB r = true) (h1 : 1 ≤ n) (h2 : n ≤ 1000000) :
    Calls Tryz.prog 64 #[.int .i64 n, .agg (recCells r bv av uv)] w (BytesBack (bytesOf (encB n r)) w) := by
  have hr := h
  obtain ⟨⟨bp, bc, rfl, b1, b2, _⟩, ⟨ap, ac, rfl, a1, a2, _⟩, ⟨up, uc, rfl, l1, l2, l3⟩⟩ := h
  unfold maxLen at a2 b2 l2
  have G3 := hid l3
  clear l3
  have HC : recCells r (Value.slice bp r.before.size bc) (Value.slice ap r.after.size ac) (Value.slice up r.units.length uc) = #[.int .i64 4, .int .i64 r.unit, .int .i64 r.page, .int .i64 r.at_, Value.slice bp r.before.size bc, Value.slice ap r.after.size ac, .int .i64 r.back, .int .i64 r.next, .string r.text, Value.slice up r.units.length uc] := by unfold recCells; rw [hk]
  have RV := refValid_any r _ _ _ _ (hr.new ((New.refl w).alloc (recCells r (Value.slice bp r.before.size bc) (Value.slice ap r.after.size ac) (Value.slice up r.units.length uc)) 70))
  rw [hv, HC] at RV
  rw [HC]
  have RV' := hid RV
  clear RV HC
  have RV := hid RV'.out
  clear RV'
  have hV := valid_bounds_4 hk hv
  have HK := hid hk
  have CB : Hid (∀ w', New w w' → (Go.convert 29 9 (.slice bp r.before.size bc)).run Tryz.prog w' = .ok (.string r.before) w') := hid fun w' hn => (Bytes.renew hr.before hn).convert (P := Tryz.prog) 29 5 9 Tryz.underlying29 Tryz.underlying5 Tryz.underlying9
  have CA : Hid (∀ w', New w w' → (Go.convert 29 9 (.slice ap r.after.size ac)).run Tryz.prog w' = .ok (.string r.after) w') := hid fun w' hn => (Bytes.renew hr.after hn).convert (P := Tryz.prog) 29 5 9 Tryz.underlying29 Tryz.underlying5 Tryz.underlying9
  have HR := hid hr
  clear hk hr
  have q1 : decide (n < 1) = false := by simp; omega
  have q2 : decide ((1000000 : Int) < n) = false := by simp; omega
  go_enter Tryz.func64, Tryz.ntmps64
  go_wp2_with fail
  refine RV.out.mono ?_
  rintro e w1 ⟨rfl, n1⟩
  have B1 : w1.heap[w.heap.size]? = some (Obj.cells #[.int .i64 4, .int .i64 r.unit, .int .i64 r.page, .int .i64 r.at_, Value.slice bp r.before.size bc, Value.slice ap r.after.size ac, .int .i64 r.back, .int .i64 r.next, .string r.text, Value.slice up r.units.length uc] 70 (0, 0)) := by rw [Below.block n1 _ (by simp)]; exact heap_alloc_new w _
  have N1 : New w w1 := ((New.refl w).alloc _ _).trans n1
  have z1 : w.heap.size + 1 ≤ w1.heap.size := by have := n1.size; simp at this; omega
  have ST0 := hid (St.start N1 (Nat.le_succ _) z1)
  have BB := hid B1
  clear B1 N1 n1 RV q1 q2
  go_upto_region 3 with fail
  go_cut [6] (fun v wx => ∃ S : List UInt8, Hid (S = numB n ++ [UInt8.ofNat 4]) ∧ Hid (St w w1 (w.heap.size + 1) wx v S []))
  case first =>
    have st := ST0.out.drew
    clear ST0
    go_region_held3 (fun w' => w'.cell? ⟨w.heap.size, 0, none⟩ = some (.int .i64 4)) (first | exact st.cells BB.out (by decide) 0 | exact (st.build 4 (UInt8.ofNat 4) rfl).cells BB.out (by decide) 0)
      (first
        | (refine step_num_first rfl (.tmp 20) rfl st n rfl (by omega) (by omega) ?_; intro p0 c0 wq0 st)
        | (refine step_num_first rfl (.tmp 20) rfl (st.build 4 (UInt8.ofNat 4) rfl) n rfl (by omega) (by omega) ?_; intro p0 c0 wq0 st)
        | (refine step_chain rfl (.tmp 21) (.tmp 25) rfl st rfl _ ([UInt8.ofNat 4]) rfl (List.Mem.head _) (by simp) (by simp [numB_length, textB] <;> omega) ?_; intro v1 wr1 st)
        | (refine step_chain rfl (.tmp 21) (.tmp 25) rfl st rfl _ ([UInt8.ofNat 4]) rfl (List.Mem.tail _ (List.Mem.head _)) (by simp) (by simp [numB_length, textB] <;> omega) ?_; intro v1 wr1 st)
        | (refine step_chain rfl (.tmp 21) (.tmp 25) rfl (st.build 4 (UInt8.ofNat 4) rfl) rfl _ ([UInt8.ofNat 4]) rfl (List.Mem.head _) (by simp) (by simp [numB_length, textB] <;> omega) ?_; intro v1 wr1 st)
        | (refine step_chain rfl (.tmp 21) (.tmp 25) rfl (st.build 4 (UInt8.ofNat 4) rfl) rfl _ ([UInt8.ofNat 4]) rfl (List.Mem.tail _ (List.Mem.head _)) (by simp) (by simp [numB_length, textB] <;> omega) ?_; intro v1 wr1 st))
    all_goals
      go_wp2_with fail
      go_meet
      exact ⟨_, hid rfl, hid (by simpa using st.drop)⟩
  case rest =>
  obtain ⟨S3, e3, STS3⟩ := hcut
  have lS3 : S3.length = 5 := by rw [e3.out]; simp [numB_length, textB] <;> omega
  have mlS3 := STS3.out.cells BB.out (by decide)
  go_wp2_with fail
  refine (num_any r.unit _ (by omega) (by omega)).mono ?_
  rintro e wq ⟨p4, c4, rfl, ho, hn⟩
  have st4 := STS3.out.call ho hn
  clear ho hn STS3
  go_wp2_with (at_builtin; refine app_chain rfl _ _ rfl st4 rfl (Value.slice p4 (numB r.unit).length c4) (numB r.unit) rfl (List.Mem.head _) (by simp [numB_length, textB]) (by simp [numB_length, textB] <;> omega) ?_)
  intro v4 wr4 sw4
  clear st4
  have mlw := sw4.cells BB.out (by decide)
  clear mlS3
  obtain ⟨S5, e5⟩ : ∃ S5, S5 = S3 ++ numB r.unit := ⟨_, rfl⟩
  rw [← e5] at sw4
  have lS5 : S5.length = 9 := by rw [e5]; simp [numB_length] <;> omega
  have E5 := hid e5
  have STS5 := hid sw4
  clear e5 sw4
  have sw5 := STS5.out
  obtain ⟨S9, e9⟩ : ∃ S9, S9 = S5 := ⟨_, rfl⟩
  rw [← e9] at sw5
  have l9 : S9.length ≤ 2000 ∧ 4 ≤ S9.length := by rw [e9]; (try simp [numB_length, textB]) <;> omega
  have hS9 : Hid (S9 = headB n r ++ restB r) := hid (by rw [e9, E5.out, e3.out]; simp [headB, restB, HK.out, smallB, textB])
  clear e9
  obtain ⟨p9, c9, rfl⟩ := sw5.form
  go_wp2_with fail
  refine (num_any _ _ (by omega) (by omega)).mono ?_
  rintro e wq ⟨p10, c10, rfl, ho, hn⟩
  have st10 := sw5.flip ho hn
  clear ho hn sw5
  have l4 : (numB ((S9.length : Int) + 4)).length = 4 := rfl
  go_wp2_with (at_builtin; refine app_chain rfl _ _ rfl st10 rfl (Value.slice p9 S9.length c9) S9 rfl (List.Mem.head _) (by omega) (by omega) ?_)
  intro v10 wr10 sw10
  have SW := hid sw10
  clear sw10 st10
  go_wp2
  go_ret2
  exact enc_back hS9.out SW.out
set_option maxRecDepth 100000 in
set_option maxHeartbeats 8000000 in
theorem renc_5 (n : Int) (r : Rec) (bv av uv : Value) (w : World) (h : RecAt w r bv av uv) (hk : r.kind = 5) (hv : validB r = true) (h1 : 1 ≤ n) (h2 : n ≤ 1000000) :
    Calls Tryz.prog 64 #[.int .i64 n, .agg (recCells r bv av uv)] w (BytesBack (bytesOf (encB n r)) w) := by
  have hr := h
  obtain ⟨⟨bp, bc, rfl, b1, b2, _⟩, ⟨ap, ac, rfl, a1, a2, _⟩, ⟨up, uc, rfl, l1, l2, l3⟩⟩ := h
  unfold maxLen at a2 b2 l2
  have G3 := hid l3
  clear l3
  have HC : recCells r (Value.slice bp r.before.size bc) (Value.slice ap r.after.size ac) (Value.slice up r.units.length uc) = #[.int .i64 5, .int .i64 r.unit, .int .i64 r.page, .int .i64 r.at_, Value.slice bp r.before.size bc, Value.slice ap r.after.size ac, .int .i64 r.back, .int .i64 r.next, .string r.text, Value.slice up r.units.length uc] := by unfold recCells; rw [hk]
  have RV := refValid_any r _ _ _ _ (hr.new ((New.refl w).alloc (recCells r (Value.slice bp r.before.size bc) (Value.slice ap r.after.size ac) (Value.slice up r.units.length uc)) 70))
  rw [hv, HC] at RV
  rw [HC]
  have RV' := hid RV
  clear RV HC
  have RV := hid RV'.out
  clear RV'
  have hV := valid_bounds_5 hk hv
  have HK := hid hk
  have CB : Hid (∀ w', New w w' → (Go.convert 29 9 (.slice bp r.before.size bc)).run Tryz.prog w' = .ok (.string r.before) w') := hid fun w' hn => (Bytes.renew hr.before hn).convert (P := Tryz.prog) 29 5 9 Tryz.underlying29 Tryz.underlying5 Tryz.underlying9
  have CA : Hid (∀ w', New w w' → (Go.convert 29 9 (.slice ap r.after.size ac)).run Tryz.prog w' = .ok (.string r.after) w') := hid fun w' hn => (Bytes.renew hr.after hn).convert (P := Tryz.prog) 29 5 9 Tryz.underlying29 Tryz.underlying5 Tryz.underlying9
  have HR := hid hr
  clear hk hr
  have q1 : decide (n < 1) = false := by simp; omega
  have q2 : decide ((1000000 : Int) < n) = false := by simp; omega
  go_enter Tryz.func64, Tryz.ntmps64
  go_wp2_with fail
  refine RV.out.mono ?_
  rintro e w1 ⟨rfl, n1⟩
  have B1 : w1.heap[w.heap.size]? = some (Obj.cells #[.int .i64 5, .int .i64 r.unit, .int .i64 r.page, .int .i64 r.at_, Value.slice bp r.before.size bc, Value.slice ap r.after.size ac, .int .i64 r.back, .int .i64 r.next, .string r.text, Value.slice up r.units.length uc] 70 (0, 0)) := by rw [Below.block n1 _ (by simp)]; exact heap_alloc_new w _
  have N1 : New w w1 := ((New.refl w).alloc _ _).trans n1
  have z1 : w.heap.size + 1 ≤ w1.heap.size := by have := n1.size; simp at this; omega
  have ST0 := hid (St.start N1 (Nat.le_succ _) z1)
  have BB := hid B1
  clear B1 N1 n1 RV q1 q2
  go_upto_region 3 with fail
  go_cut [6] (fun v wx => ∃ S : List UInt8, Hid (S = numB n ++ [UInt8.ofNat 5]) ∧ Hid (St w w1 (w.heap.size + 1) wx v S []))
  case first =>
    have st := ST0.out.drew
    clear ST0
    go_region_held3 (fun w' => w'.cell? ⟨w.heap.size, 0, none⟩ = some (.int .i64 5)) (first | exact st.cells BB.out (by decide) 0 | exact (st.build 5 (UInt8.ofNat 5) rfl).cells BB.out (by decide) 0)
      (first
        | (refine step_num_first rfl (.tmp 20) rfl st n rfl (by omega) (by omega) ?_; intro p0 c0 wq0 st)
        | (refine step_num_first rfl (.tmp 20) rfl (st.build 5 (UInt8.ofNat 5) rfl) n rfl (by omega) (by omega) ?_; intro p0 c0 wq0 st)
        | (refine step_chain rfl (.tmp 21) (.tmp 25) rfl st rfl _ ([UInt8.ofNat 5]) rfl (List.Mem.head _) (by simp) (by simp [numB_length, textB] <;> omega) ?_; intro v1 wr1 st)
        | (refine step_chain rfl (.tmp 21) (.tmp 25) rfl st rfl _ ([UInt8.ofNat 5]) rfl (List.Mem.tail _ (List.Mem.head _)) (by simp) (by simp [numB_length, textB] <;> omega) ?_; intro v1 wr1 st)
        | (refine step_chain rfl (.tmp 21) (.tmp 25) rfl (st.build 5 (UInt8.ofNat 5) rfl) rfl _ ([UInt8.ofNat 5]) rfl (List.Mem.head _) (by simp) (by simp [numB_length, textB] <;> omega) ?_; intro v1 wr1 st)
        | (refine step_chain rfl (.tmp 21) (.tmp 25) rfl (st.build 5 (UInt8.ofNat 5) rfl) rfl _ ([UInt8.ofNat 5]) rfl (List.Mem.tail _ (List.Mem.head _)) (by simp) (by simp [numB_length, textB] <;> omega) ?_; intro v1 wr1 st))
    all_goals
      go_wp2_with fail
      go_meet
      exact ⟨_, hid rfl, hid (by simpa using st.drop)⟩
  case rest =>
  obtain ⟨S3, e3, STS3⟩ := hcut
  have lS3 : S3.length = 5 := by rw [e3.out]; simp [numB_length, textB] <;> omega
  have mlS3 := STS3.out.cells BB.out (by decide)
  go_wp2_with fail
  refine (num_any r.unit _ (by omega) (by omega)).mono ?_
  rintro e wq ⟨p4, c4, rfl, ho, hn⟩
  have st4 := STS3.out.call ho hn
  clear ho hn STS3
  go_wp2_with (at_builtin; refine app_chain rfl _ _ rfl st4 rfl (Value.slice p4 (numB r.unit).length c4) (numB r.unit) rfl (List.Mem.head _) (by simp [numB_length, textB]) (by simp [numB_length, textB] <;> omega) ?_)
  intro v4 wr4 sw4
  clear st4
  have mlw := sw4.cells BB.out (by decide)
  clear mlS3
  obtain ⟨S5, e5⟩ : ∃ S5, S5 = S3 ++ numB r.unit := ⟨_, rfl⟩
  rw [← e5] at sw4
  have lS5 : S5.length = 9 := by rw [e5]; simp [numB_length] <;> omega
  have E5 := hid e5
  have STS5 := hid sw4
  clear e5 sw4
  go_wp2_with fail
  refine (text_of_any r.text _ (by omega)).mono ?_
  rintro e wq ⟨p5, c5, rfl, ho, hn⟩
  have st5 := STS5.out.call ho hn
  clear ho hn STS5
  go_wp2_with (at_builtin; refine app_chain rfl _ _ rfl st5 rfl (Value.slice p5 (textB r.text).length c5) (textB r.text) rfl (List.Mem.head _) (by simp [numB_length, textB]) (by simp [numB_length, textB] <;> omega) ?_)
  intro v5 wr5 sw5
  clear st5
  obtain ⟨S9, e9⟩ : ∃ S9, S9 = S5 ++ textB r.text := ⟨_, rfl⟩
  rw [← e9] at sw5
  have l9 : S9.length ≤ 2000 ∧ 4 ≤ S9.length := by rw [e9]; (try simp [numB_length, textB]) <;> omega
  have hS9 : Hid (S9 = headB n r ++ restB r) := hid (by rw [e9, E5.out, e3.out]; simp [headB, restB, HK.out, smallB, textB])
  clear e9
  obtain ⟨p9, c9, rfl⟩ := sw5.form
  go_wp2_with fail
  refine (num_any _ _ (by omega) (by omega)).mono ?_
  rintro e wq ⟨p10, c10, rfl, ho, hn⟩
  have st10 := sw5.flip ho hn
  clear ho hn sw5
  have l4 : (numB ((S9.length : Int) + 4)).length = 4 := rfl
  go_wp2_with (at_builtin; refine app_chain rfl _ _ rfl st10 rfl (Value.slice p9 S9.length c9) S9 rfl (List.Mem.head _) (by omega) (by omega) ?_)
  intro v10 wr10 sw10
  have SW := hid sw10
  clear sw10 st10
  go_wp2
  go_ret2
  exact enc_back hS9.out SW.out
set_option maxRecDepth 100000 in
set_option maxHeartbeats 8000000 in
theorem renc_7 (n : Int) (r : Rec) (bv av uv : Value) (w : World) (h : RecAt w r bv av uv) (hk : r.kind = 7) (hv : validB r = true) (h1 : 1 ≤ n) (h2 : n ≤ 1000000) :
    Calls Tryz.prog 64 #[.int .i64 n, .agg (recCells r bv av uv)] w (BytesBack (bytesOf (encB n r)) w) := by
  have hr := h
  obtain ⟨⟨bp, bc, rfl, b1, b2, _⟩, ⟨ap, ac, rfl, a1, a2, _⟩, ⟨up, uc, rfl, l1, l2, l3⟩⟩ := h
  unfold maxLen at a2 b2 l2
  have G3 := hid l3
  clear l3
  have HC : recCells r (Value.slice bp r.before.size bc) (Value.slice ap r.after.size ac) (Value.slice up r.units.length uc) = #[.int .i64 7, .int .i64 r.unit, .int .i64 r.page, .int .i64 r.at_, Value.slice bp r.before.size bc, Value.slice ap r.after.size ac, .int .i64 r.back, .int .i64 r.next, .string r.text, Value.slice up r.units.length uc] := by unfold recCells; rw [hk]
  have RV := refValid_any r _ _ _ _ (hr.new ((New.refl w).alloc (recCells r (Value.slice bp r.before.size bc) (Value.slice ap r.after.size ac) (Value.slice up r.units.length uc)) 70))
  rw [hv, HC] at RV
  rw [HC]
  have RV' := hid RV
  clear RV HC
  have RV := hid RV'.out
  clear RV'
  have hV := valid_bounds_7 hk hv
  have HK := hid hk
  have CB : Hid (∀ w', New w w' → (Go.convert 29 9 (.slice bp r.before.size bc)).run Tryz.prog w' = .ok (.string r.before) w') := hid fun w' hn => (Bytes.renew hr.before hn).convert (P := Tryz.prog) 29 5 9 Tryz.underlying29 Tryz.underlying5 Tryz.underlying9
  have CA : Hid (∀ w', New w w' → (Go.convert 29 9 (.slice ap r.after.size ac)).run Tryz.prog w' = .ok (.string r.after) w') := hid fun w' hn => (Bytes.renew hr.after hn).convert (P := Tryz.prog) 29 5 9 Tryz.underlying29 Tryz.underlying5 Tryz.underlying9
  have HR := hid hr
  clear hk hr
  have q1 : decide (n < 1) = false := by simp; omega
  have q2 : decide ((1000000 : Int) < n) = false := by simp; omega
  go_enter Tryz.func64, Tryz.ntmps64
  go_wp2_with fail
  refine RV.out.mono ?_
  rintro e w1 ⟨rfl, n1⟩
  have B1 : w1.heap[w.heap.size]? = some (Obj.cells #[.int .i64 7, .int .i64 r.unit, .int .i64 r.page, .int .i64 r.at_, Value.slice bp r.before.size bc, Value.slice ap r.after.size ac, .int .i64 r.back, .int .i64 r.next, .string r.text, Value.slice up r.units.length uc] 70 (0, 0)) := by rw [Below.block n1 _ (by simp)]; exact heap_alloc_new w _
  have N1 : New w w1 := ((New.refl w).alloc _ _).trans n1
  have z1 : w.heap.size + 1 ≤ w1.heap.size := by have := n1.size; simp at this; omega
  have ST0 := hid (St.start N1 (Nat.le_succ _) z1)
  have BB := hid B1
  clear B1 N1 n1 RV q1 q2
  go_upto_region 3 with fail
  go_cut [6] (fun v wx => ∃ S : List UInt8, Hid (S = numB n ++ [UInt8.ofNat 7]) ∧ Hid (St w w1 (w.heap.size + 1) wx v S []))
  case first =>
    have st := ST0.out.drew
    clear ST0
    go_region_held3 (fun w' => w'.cell? ⟨w.heap.size, 0, none⟩ = some (.int .i64 7)) (first | exact st.cells BB.out (by decide) 0 | exact (st.build 7 (UInt8.ofNat 7) rfl).cells BB.out (by decide) 0)
      (first
        | (refine step_num_first rfl (.tmp 20) rfl st n rfl (by omega) (by omega) ?_; intro p0 c0 wq0 st)
        | (refine step_num_first rfl (.tmp 20) rfl (st.build 7 (UInt8.ofNat 7) rfl) n rfl (by omega) (by omega) ?_; intro p0 c0 wq0 st)
        | (refine step_chain rfl (.tmp 21) (.tmp 25) rfl st rfl _ ([UInt8.ofNat 7]) rfl (List.Mem.head _) (by simp) (by simp [numB_length, textB] <;> omega) ?_; intro v1 wr1 st)
        | (refine step_chain rfl (.tmp 21) (.tmp 25) rfl st rfl _ ([UInt8.ofNat 7]) rfl (List.Mem.tail _ (List.Mem.head _)) (by simp) (by simp [numB_length, textB] <;> omega) ?_; intro v1 wr1 st)
        | (refine step_chain rfl (.tmp 21) (.tmp 25) rfl (st.build 7 (UInt8.ofNat 7) rfl) rfl _ ([UInt8.ofNat 7]) rfl (List.Mem.head _) (by simp) (by simp [numB_length, textB] <;> omega) ?_; intro v1 wr1 st)
        | (refine step_chain rfl (.tmp 21) (.tmp 25) rfl (st.build 7 (UInt8.ofNat 7) rfl) rfl _ ([UInt8.ofNat 7]) rfl (List.Mem.tail _ (List.Mem.head _)) (by simp) (by simp [numB_length, textB] <;> omega) ?_; intro v1 wr1 st))
    all_goals
      go_wp2_with fail
      go_meet
      exact ⟨_, hid rfl, hid (by simpa using st.drop)⟩
  case rest =>
  obtain ⟨S3, e3, STS3⟩ := hcut
  have lS3 : S3.length = 5 := by rw [e3.out]; simp [numB_length, textB] <;> omega
  have mlS3 := STS3.out.cells BB.out (by decide)
  go_wp2_with fail
  refine (num_any r.unit _ (by omega) (by omega)).mono ?_
  rintro e wq ⟨p4, c4, rfl, ho, hn⟩
  have st4 := STS3.out.call ho hn
  clear ho hn STS3
  go_wp2_with (at_builtin; refine app_chain rfl _ _ rfl st4 rfl (Value.slice p4 (numB r.unit).length c4) (numB r.unit) rfl (List.Mem.head _) (by simp [numB_length, textB]) (by simp [numB_length, textB] <;> omega) ?_)
  intro v4 wr4 sw4
  clear st4
  have mlw := sw4.cells BB.out (by decide)
  clear mlS3
  obtain ⟨S5, e5⟩ : ∃ S5, S5 = S3 ++ numB r.unit := ⟨_, rfl⟩
  rw [← e5] at sw4
  have lS5 : S5.length = 9 := by rw [e5]; simp [numB_length] <;> omega
  have E5 := hid e5
  have STS5 := hid sw4
  clear e5 sw4
  go_wp2_with fail
  refine (text_of_any r.text _ (by omega)).mono ?_
  rintro e wq ⟨p5, c5, rfl, ho, hn⟩
  have st5 := STS5.out.call ho hn
  clear ho hn STS5
  go_wp2_with (at_builtin; refine app_chain rfl _ _ rfl st5 rfl (Value.slice p5 (textB r.text).length c5) (textB r.text) rfl (List.Mem.head _) (by simp [numB_length, textB]) (by simp [numB_length, textB] <;> omega) ?_)
  intro v5 wr5 sw5
  clear st5
  obtain ⟨S9, e9⟩ : ∃ S9, S9 = S5 ++ textB r.text := ⟨_, rfl⟩
  rw [← e9] at sw5
  have l9 : S9.length ≤ 2000 ∧ 4 ≤ S9.length := by rw [e9]; (try simp [numB_length, textB]) <;> omega
  have hS9 : Hid (S9 = headB n r ++ restB r) := hid (by rw [e9, E5.out, e3.out]; simp [headB, restB, HK.out, smallB, textB])
  clear e9
  obtain ⟨p9, c9, rfl⟩ := sw5.form
  go_wp2_with fail
  refine (num_any _ _ (by omega) (by omega)).mono ?_
  rintro e wq ⟨p10, c10, rfl, ho, hn⟩
  have st10 := sw5.flip ho hn
  clear ho hn sw5
  have l4 : (numB ((S9.length : Int) + 4)).length = 4 := rfl
  go_wp2_with (at_builtin; refine app_chain rfl _ _ rfl st10 rfl (Value.slice p9 S9.length c9) S9 rfl (List.Mem.head _) (by omega) (by omega) ?_)
  intro v10 wr10 sw10
  have SW := hid sw10
  clear sw10 st10
  go_wp2
  go_ret2
  exact enc_back hS9.out SW.out

end Go.Proofs.YtdccbceaajnajaaGreat
