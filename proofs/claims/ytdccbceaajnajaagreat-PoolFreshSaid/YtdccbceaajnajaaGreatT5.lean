/- What progenyref03.Encode returns at a mark, and at each record (printed by renc6.py). disk's functions at a nil disk, and at one that is a zero value. Nil tapes: what each function returns; Open of a nil disk. -/
import Derived.Test.YtdccbceaajnajaaGreatT16
import Derived.Test.YtdccbceaajnajaaGreatD2
import Derived.Laws.ResultCell
import Derived.Laws.Rows
namespace Go.Proofs.YtdccbceaajnajaaGreat
open Go.RowKit
set_option linter.unusedSimpArgs false
set_option linter.unusedVariables false
attribute [local go_sem ↓] Go.wp_at_zero Go.wp_at_succ
theorem St.back {W W0 W1 w : World} {base : Nat} {v : Value} {S : List UInt8} {us : List (Value × List UInt8)} (h : St W W1 base w v S us) (hk : Keep4 W0 W1) : St W W0 base w v S us :=
  ⟨h.own, h.rows, h.below, h.hB, h.hw, hk.trans h.keep⟩
theorem St.same {W W0 w : World} {base : Nat} {v : Value} {S T : List UInt8} {us : List (Value × List UInt8)} (h : St W W0 base w v S us) (e : S = T) : St W W0 base w v T us := e ▸ h

set_option maxRecDepth 100000 in
set_option maxHeartbeats 8000000 in
theorem renc_6 (n : Int) (r : Rec) (bv av uv : Value) (w : World) (h : RecAt w r bv av uv) (hk : r.kind = 6) (hv : validB r = true) (h1 : 1 ≤ n) (h2 : n ≤ 1000000) :
    Calls Tryz.prog 64 #[.int .i64 n, .agg (recCells r bv av uv)] w (BytesBack (bytesOf (encB n r)) w) := by
  have hr := h
  obtain ⟨⟨bp, bc, rfl, b1, b2, _⟩, ⟨ap, ac, rfl, a1, a2, _⟩, ⟨up, uc, rfl, l1, l2, l3⟩⟩ := h
  unfold maxLen at a2 b2 l2
  have G3 := hid l3
  clear l3
  have HC : recCells r (Value.slice bp r.before.size bc) (Value.slice ap r.after.size ac) (Value.slice up r.units.length uc) = #[.int .i64 6, .int .i64 r.unit, .int .i64 r.page, .int .i64 r.at_, Value.slice bp r.before.size bc, Value.slice ap r.after.size ac, .int .i64 r.back, .int .i64 r.next, .string r.text, Value.slice up r.units.length uc] := by unfold recCells; rw [hk]
  have RV := refValid_any r _ _ _ _ (hr.new ((New.refl w).alloc (recCells r (Value.slice bp r.before.size bc) (Value.slice ap r.after.size ac) (Value.slice up r.units.length uc)) 70))
  rw [hv, HC] at RV
  rw [HC]
  have RV' := hid RV
  clear RV HC
  have RV := hid RV'.out
  clear RV'
  have hV := valid_bounds_6 hk hv
  obtain ⟨hU8, hU⟩ := open_units hV.2.2
  have hV := (⟨hV.1, hV.2.1⟩ : 0 ≤ r.unit ∧ r.unit ≤ 1000000)
  have HU := hid hU
  clear hU
  have HK := hid hk
  have CB : Hid (∀ w', New w w' → (Go.convert 29 9 (.slice bp r.before.size bc)).run Tryz.prog w' = .ok (.string r.before) w') := hid fun w' hn => (Bytes.renew hr.before hn).convert (P := Tryz.prog) 29 5 9 Tryz.underlying29 Tryz.underlying5 Tryz.underlying9
  have CA : Hid (∀ w', New w w' → (Go.convert 29 9 (.slice ap r.after.size ac)).run Tryz.prog w' = .ok (.string r.after) w') := hid fun w' hn => (Bytes.renew hr.after hn).convert (P := Tryz.prog) 29 5 9 Tryz.underlying29 Tryz.underlying5 Tryz.underlying9
  have HR := hid hr
  clear hk hr
  have q1 : decide (n < 1) = false := by simp; omega
  have q2 : decide ((1000000 : Int) < n) = false := by simp; omega
  go_enter Tryz.func64, Tryz.ntmps64
  go_wp2_with fail
  refine RV.out.mono ?_
  rintro e w1 ⟨rfl, n1⟩
  have B1 : w1.heap[w.heap.size]? = some (Obj.cells #[.int .i64 6, .int .i64 r.unit, .int .i64 r.page, .int .i64 r.at_, Value.slice bp r.before.size bc, Value.slice ap r.after.size ac, .int .i64 r.back, .int .i64 r.next, .string r.text, Value.slice up r.units.length uc] 70 (0, 0)) := by rw [Below.block n1 _ (by simp)]; exact heap_alloc_new w _
  have N1 : New w w1 := ((New.refl w).alloc _ _).trans n1
  have z1 : w.heap.size + 1 ≤ w1.heap.size := by have := n1.size; simp at this; omega
  have ST0 := hid (St.start N1 (Nat.le_succ _) z1)
  have BB := hid B1
  clear B1 N1 n1 RV q1 q2
  go_upto_region 3 with fail
  go_cut [6] (fun v wx => ∃ S : List UInt8, Hid (S = numB n ++ [UInt8.ofNat 6]) ∧ Hid (St w w1 (w.heap.size + 1) wx v S []))
  case first =>
    have st := ST0.out.drew
    clear ST0
    go_region_held3 (fun w' => w'.cell? ⟨w.heap.size, 0, none⟩ = some (.int .i64 6)) (first | exact st.cells BB.out (by decide) 0 | exact (st.build 6 (UInt8.ofNat 6) rfl).cells BB.out (by decide) 0)
      (first
        | (refine step_num_first rfl (.tmp 20) rfl st n rfl (by omega) (by omega) ?_; intro p0 c0 wq0 st)
        | (refine step_num_first rfl (.tmp 20) rfl (st.build 6 (UInt8.ofNat 6) rfl) n rfl (by omega) (by omega) ?_; intro p0 c0 wq0 st)
        | (refine step_chain rfl (.tmp 21) (.tmp 25) rfl st rfl _ ([UInt8.ofNat 6]) rfl (List.Mem.head _) (by simp) (by simp [numB_length, textB] <;> omega) ?_; intro v1 wr1 st)
        | (refine step_chain rfl (.tmp 21) (.tmp 25) rfl st rfl _ ([UInt8.ofNat 6]) rfl (List.Mem.tail _ (List.Mem.head _)) (by simp) (by simp [numB_length, textB] <;> omega) ?_; intro v1 wr1 st)
        | (refine step_chain rfl (.tmp 21) (.tmp 25) rfl (st.build 6 (UInt8.ofNat 6) rfl) rfl _ ([UInt8.ofNat 6]) rfl (List.Mem.head _) (by simp) (by simp [numB_length, textB] <;> omega) ?_; intro v1 wr1 st)
        | (refine step_chain rfl (.tmp 21) (.tmp 25) rfl (st.build 6 (UInt8.ofNat 6) rfl) rfl _ ([UInt8.ofNat 6]) rfl (List.Mem.tail _ (List.Mem.head _)) (by simp) (by simp [numB_length, textB] <;> omega) ?_; intro v1 wr1 st))
    all_goals
      go_wp2_with fail
      go_meet
      exact ⟨_, hid rfl, hid (by simpa using st.drop)⟩
  case rest =>
  obtain ⟨S3, e3, STS3⟩ := hcut
  have lS3 : S3.length = 5 := by rw [e3.out]; simp [numB_length, textB] <;> omega
  have mlS3 := STS3.out.cells BB.out (by decide)
  go_wp2_with fail
  refine (num_any r.unit _ (by omega) (by omega)).mono ?_
  rintro e wq ⟨p4, c4, rfl, ho, hn⟩
  have st4 := STS3.out.call ho hn
  clear ho hn STS3
  go_wp2_with (at_builtin; refine app_chain rfl _ _ rfl st4 rfl (Value.slice p4 (numB r.unit).length c4) (numB r.unit) rfl (List.Mem.head _) (by simp [numB_length, textB]) (by simp [numB_length, textB] <;> omega) ?_)
  intro v4 wr4 sw4
  clear st4
  have mlw := sw4.cells BB.out (by decide)
  clear mlS3
  obtain ⟨S5, e5⟩ : ∃ S5, S5 = S3 ++ numB r.unit := ⟨_, rfl⟩
  rw [← e5] at sw4
  have lS5 : S5.length = 9 := by rw [e5]; simp [numB_length] <;> omega
  have E5 := hid e5
  have STS5 := hid sw4
  clear e5 sw4
  have HL : Hid (((UInt8.ofNat r.units.length).toNat : Int) = (r.units.length : Int)) := hid (by simp; omega)
  have HML := hid mlw
  have kb := STS5.out.build (r.units.length : Int) (UInt8.ofNat r.units.length) HL.out
  go_wp2_with (at_builtin; refine app_chain rfl _ _ rfl kb rfl _ ([UInt8.ofNat r.units.length]) rfl (List.Mem.head _) (by simp) (by simp <;> omega) ?_)
  intro v6 wr6 sw6
  clear kb mlw
  obtain ⟨S6, e6⟩ : ∃ S6, S6 = S5 ++ [UInt8.ofNat r.units.length] := ⟨_, rfl⟩
  rw [← e6] at sw6
  have lS6 : S6.length = 10 := by rw [e6]; simp <;> omega
  have E6 := hid e6
  have STS6 := hid sw6.drop
  clear e6 sw6
  go_wp2
  clear lS5 HML
  have mlw : True := trivial
  go_loopw [6, 7, 8] (fun v i _ wr => ∃ k : Nat, k ≤ r.units.length ∧ i = .int .i64 k ∧ Hid (St w w1 (w.heap.size + 1) wr v (S6 ++ (r.units.take k).flatMap opnB) [])) (fun _ i _ _ => r.units.length - (intOf i).toNat)
  case atStart => exact ⟨0, Nat.zero_le _, rfl, hid (by simpa using STS6.out)⟩
  case round =>
    obtain ⟨k, hk, rfl, hyp⟩ := hrel
    have ml := hyp.out.cells BB.out (by decide)
    by_cases hlt : k < r.units.length
    · obtain ⟨b, o, rfl, hb, hc⟩ := G3.out (by omega)
      have hnw : New w wr := hyp.out.below
      obtain ⟨c0, c1, c2⟩ := opns_at hc k hlt
      rw [← hnw.cell _ _ hb] at c0 c1 c2
      have hb2 : b < wr.heap.size := Nat.lt_of_lt_of_le hb hnw.size
      have HX := hid (HU.out _ (List.getElem_mem hlt))
      have hSk : (S6 ++ (r.units.take k).flatMap opnB).length ≤ 600 := by
        rw [List.length_append]
        have := opns_length HU.out k
        have h2 : (r.units.take k).length ≤ 8 := by rw [List.length_take]; omega
        omega
      have HE : Hid ((S6 ++ (r.units.take k).flatMap opnB) ++ opnB r.units[k] = S6 ++ (r.units.take (k + 1)).flatMap opnB) := by
        unfold Hid
        rw [List.take_succ_eq_append_getElem hlt, List.flatMap_append]
        simp
      obtain ⟨S1, hS1⟩ : ∃ S1, S1 = S6 ++ (r.units.take k).flatMap opnB := ⟨_, rfl⟩
      rw [← hS1] at hyp hSk HE
      clear hS1 hc G3 hnw
      generalize hx : r.units[k] = x at *
      clear hx
      have HXX := HX.out
      have C90 : (wr.alloc (.cells #[.int .i64 x.unit, .int .i64 x.next, .string x.ready] 133)).heap[wr.heap.size]? = some (Obj.cells #[.int .i64 x.unit, .int .i64 x.next, .string x.ready] 133 (0, 0)) := heap_alloc_new wr _
      have KK := hid ((hyp.out.new ((New.refl wr).alloc #[.int .i64 x.unit, .int .i64 x.next, .string x.ready] 133)).keep)
      have ST9 := hid ((hyp.out.new ((New.refl wr).alloc #[.int .i64 x.unit, .int .i64 x.next, .string x.ready] 133)).again)
      have CC := hid C90
      clear C90
      go_upto_region 22 with fail
      have st := ST9.out.drew
      clear ST9
      clear ml c0 c1 c2
      go_region_held3 (fun w' => w'.cell? ⟨wr.heap.size, 0, none⟩ = some (.int .i64 x.unit) ∧ w'.cell? ⟨wr.heap.size, 1, none⟩ = some (.int .i64 x.next) ∧ w'.cell? ⟨wr.heap.size, 2, none⟩ = some (.string x.ready)) (exact ⟨st.cells CC.out (by decide) 0, st.cells CC.out (by decide) 1, st.cells CC.out (by decide) 2⟩)
        (first
          | (refine step_num rfl (.tmp 115) rfl st x.unit rfl (by omega) (by omega) ?_; intro p0 c0 wq0 st)
          | (refine step_num rfl (.tmp 119) rfl st x.next rfl (by omega) (by omega) ?_; intro p1 c1 wq1 st)
          | (refine step_txt rfl (.tmp 123) rfl st x.ready rfl (by omega) ?_; intro p2 c2 wq2 st)
          | (refine step_chain rfl (.tmp 113) (.tmp 116) rfl st rfl (Value.slice p0 (numB x.unit).length c0) (numB x.unit) rfl (by simp) (by simp [numB_length]) (by simp [numB_length, textB] <;> omega) ?_; intro v0 wr0 st)
          | (refine step_chain rfl (.tmp 117) (.tmp 120) rfl st rfl (Value.slice p1 (numB x.next).length c1) (numB x.next) rfl (by simp) (by simp [numB_length]) (by simp [numB_length, textB] <;> omega) ?_; intro v1 wr1 st)
          | (refine step_chain rfl (.tmp 121) (.tmp 124) rfl st rfl (Value.slice p2 (textB x.ready).length c2) (textB x.ready) rfl (by simp) (by simp [numB_length, textB]) (by simp [numB_length, textB] <;> omega) ?_; intro v2 wr2 st))
      all_goals
        have ST8 := hid ((st.drop.back KK.out).same (T := S6 ++ (r.units.take (k + 1)).flatMap opnB) (by rw [← HE.out]; simp [opnB]))
        clear st
        go_wp2
        go_roundw
        case rel => exact ⟨k + 1, by omega, by simp, ST8⟩
        case measure => simp [intOf]; omega
    · obtain rfl : k = r.units.length := by omega
      have hSk : (S6 ++ (r.units.take r.units.length).flatMap opnB).length ≤ 600 := by
        rw [List.length_append]
        have := opns_length HU.out r.units.length
        have h2 : (r.units.take r.units.length).length ≤ 8 := by rw [List.length_take]; omega
        omega
      rw [List.take_length] at hyp hSk
      have sw8 := hyp.out
      clear hyp
      obtain ⟨S9, e9⟩ : ∃ S9, S9 = S6 ++ r.units.flatMap opnB := ⟨_, rfl⟩
      rw [← e9] at sw8
      have l9 : S9.length ≤ 2000 ∧ 4 ≤ S9.length := by rw [e9]; refine ⟨by omega, ?_⟩; rw [List.length_append]; omega
      have hS9 : Hid (S9 = headB n r ++ restB r) := hid (by rw [e9, E6.out, E5.out, e3.out]; simp [headB, restB, HK.out, smallB, textB])
      clear e9
      obtain ⟨p9, c9, rfl⟩ := sw8.form
      go_wp2_with fail
      refine (num_any _ _ (by omega) (by omega)).mono ?_
      rintro e wq ⟨p10, c10, rfl, ho, hn⟩
      have st10 := sw8.flip ho hn
      clear ho hn sw8
      have l4 : (numB ((S9.length : Int) + 4)).length = 4 := rfl
      go_wp2_with (at_builtin; refine app_chain rfl _ _ rfl st10 rfl (Value.slice p9 S9.length c9) S9 rfl (List.Mem.head _) (by omega) (by omega) ?_)
      intro v10 wr10 sw10
      have SW := hid sw10
      clear sw10 st10
      go_wp2
      go_ret2
      exact enc_back hS9.out SW.out

set_option maxHeartbeats 2000000 in
theorem renc_no (n : Int) (r : Rec) (bv av uv : Value) (w : World) (h : RecAt w r bv av uv) (hv : (validB r && wi 1 n 1000000) = false) :
    Calls Tryz.prog 64 #[.int .i64 n, .agg (recCells r bv av uv)] w (NoBlock w) := by
  have hr := h
  by_cases e1 : n < 1
  · have q1 : decide (n < 1) = true := by simpa using e1
    go_enter Tryz.func64, Tryz.ntmps64
    go_wp2
    go_ret2
    exact ⟨rfl, (New.refl w).alloc _ _⟩
  by_cases e2 : 1000000 < n
  · have q1 : decide (n < 1) = false := by simp; omega
    have q2 : decide ((1000000 : Int) < n) = true := by simpa using e2
    go_enter Tryz.func64, Tryz.ntmps64
    go_wp2
    go_ret2
    exact ⟨rfl, (New.refl w).alloc _ _⟩
  have q1 : decide (n < 1) = false := by simp; omega
  have q2 : decide ((1000000 : Int) < n) = false := by simp; omega
  have e3 : validB r = false := by
    have : wi 1 n 1000000 = true := by rw [wi_iff]; omega
    rw [this] at hv; simpa using hv
  go_enter Tryz.func64, Tryz.ntmps64
  go_wp2_with fail
  refine (refValid_any r _ _ _ _ (hr.new ((New.refl w).alloc _ _))).mono ?_
  rintro e w1 ⟨rfl, n1⟩
  rw [e3]
  have N1 := ((New.refl w).alloc _ _).trans n1
  go_wp2
  go_ret2
  exact ⟨rfl, N1⟩
theorem refEncode_any (n : Int) (r : Rec) (bv av uv : Value) (w : World) (h : RecAt w r bv av uv) :
    Calls Tryz.prog 64 #[.int .i64 n, .agg (recCells r bv av uv)] w fun e w' => if validB r && wi 1 n 1000000 then BytesBack (bytesOf (encB n r)) w e w' else NoBlock w e w' := by
  by_cases hv : (validB r && wi 1 n 1000000) = true
  · simp only [hv, if_true]
    rw [Bool.and_eq_true, wi_iff] at hv
    obtain ⟨hv, h1, h2⟩ := hv
    rcases (valid_kinds hv).1 with h' | h' | h' | h' | h' | h' | h'
    · exact renc_1 n r _ _ _ w h h' hv h1 h2
    · exact renc_2 n r _ _ _ w h h' hv h1 h2
    · exact renc_3 n r _ _ _ w h h' hv h1 h2
    · exact renc_4 n r _ _ _ w h h' hv h1 h2
    · exact renc_5 n r _ _ _ w h h' hv h1 h2
    · exact renc_6 n r _ _ _ w h h' hv h1 h2
    · exact renc_7 n r _ _ _ w h h' hv h1 h2
  · have hv : (validB r && wi 1 n 1000000) = false := by simpa using hv
    simp only [hv, if_false, Bool.false_eq_true]
    exact renc_no n r _ _ _ w h hv

end Go.Proofs.YtdccbceaajnajaaGreat

namespace Go.Proofs.YtdccbceaajnajaaGreat
open Go.RowKit
set_option linter.unusedSimpArgs false
set_option linter.unusedVariables false

/-- A nil disk, or one that was not made. -/
def IsNone (w : World) (v : Value) : Prop := v = .pointer none ∨ ∃ b, v = .pointer (some ⟨b, 0, none⟩) ∧ w.cell? ⟨b, 0, none⟩ = some (.bool false)

set_option maxHeartbeats 400000 in
theorem none_yes (v : Value) (w : World) (h : IsNone w v) : Calls Tryz.prog 37 #[v] w fun e w' => e = .returned (.bool true) ∧ w = w' := by
  rcases h with rfl | ⟨b, rfl, hc⟩
  · go_enter Tryz.func37, Tryz.ntmps37
    go_wp2
    go_ret
    exact ⟨rfl, rfl⟩
  · go_enter Tryz.func37, Tryz.ntmps37
    go_wp2
    go_ret
    exact ⟨rfl, rfl⟩

theorem IsNone.new {w w' : World} {v : Value} (h : IsNone w v) (hn : New w w') (hb : ∀ b, v = .pointer (some ⟨b, 0, none⟩) → b < w.heap.size) : IsNone w' v := by
  rcases h with h | ⟨b, e, hc⟩
  · exact .inl h
  · exact .inr ⟨b, e, (hn.cell b 0 (hb b e)).trans hc⟩
theorem IsNone.alloc {w : World} {v : Value} (h : IsNone w v) (o : Obj) : IsNone (w.alloc o) v := by
  rcases h with h | ⟨b, e, hc⟩
  · exact .inl h
  · have hb : b < w.heap.size := World.block_lt_of_cell? w _ hc
    exact .inr ⟨b, e, by rw [World.cell?_alloc_past _ _ _ hb]; exact hc⟩

set_option maxHeartbeats 400000 in
theorem arm_none (v : Value) (n : Int) (w : World) (h : IsNone w v) : Calls Tryz.prog 35 #[v, .int .i64 n] w fun e w' => e = .returned (.tuple #[]) ∧ w = w' := by
  go_enter Tryz.func35, Tryz.ntmps35
  go_wp2_with fail
  refine (none_yes v w h).mono ?_
  rintro e w' ⟨rfl, rfl⟩
  go_wp2
  go_end0
  exact ⟨rfl, rfl⟩

set_option maxHeartbeats 400000 in
theorem read_none (v : Value) (n : Int) (w : World) (h : IsNone w v) : Calls Tryz.prog 11 #[v, .int .i64 n] w fun e w' => e = .returned (.tuple #[.slice none 0 0, .int .i64 6]) ∧ w = w' := by
  go_enter Tryz.func11, Tryz.ntmps11
  go_wp2_with fail
  refine (none_yes v w h).mono ?_
  rintro e w' ⟨rfl, rfl⟩
  go_wp2
  go_ret2
  exact ⟨rfl, rfl⟩

set_option maxHeartbeats 400000 in
theorem write_none (v : Value) (n : Int) (u : Value) (w : World) (h : IsNone w v) : Calls Tryz.prog 59 #[v, .int .i64 n, u] w fun e w' => e = .returned (.int .i64 6) ∧ w = w' := by
  go_enter Tryz.func59, Tryz.ntmps59
  go_wp2_with fail
  refine (none_yes v w h).mono ?_
  rintro e w' ⟨rfl, rfl⟩
  go_wp2
  go_ret
  exact ⟨rfl, rfl⟩

set_option maxHeartbeats 400000 in
theorem flush_none (v : Value)  (w : World) (h : IsNone w v) : Calls Tryz.prog 45 #[v] w fun e w' => e = .returned (.int .i64 6) ∧ w = w' := by
  go_enter Tryz.func45, Tryz.ntmps45
  go_wp2_with fail
  refine (none_yes v w h).mono ?_
  rintro e w' ⟨rfl, rfl⟩
  go_wp2
  go_ret
  exact ⟨rfl, rfl⟩

set_option maxHeartbeats 400000 in
theorem down_none (v : Value)  (w : World) (h : IsNone w v) : Calls Tryz.prog 49 #[v] w fun e w' => e = .returned (.bool true) ∧ w = w' := by
  go_enter Tryz.func49, Tryz.ntmps49
  go_wp2_with fail
  refine (none_yes v w h).mono ?_
  rintro e w' ⟨rfl, rfl⟩
  go_wp2
  go_ret
  exact ⟨rfl, rfl⟩

set_option maxHeartbeats 400000 in
theorem acts_none (v : Value)  (w : World) (h : IsNone w v) : Calls Tryz.prog 55 #[v] w fun e w' => e = .returned (.int .i64 0) ∧ w = w' := by
  go_enter Tryz.func55, Tryz.ntmps55
  go_wp2_with fail
  refine (none_yes v w h).mono ?_
  rintro e w' ⟨rfl, rfl⟩
  go_wp2
  go_ret
  exact ⟨rfl, rfl⟩

set_option maxHeartbeats 400000 in
theorem copy_none (v : Value)  (w : World) (h : IsNone w v) : Calls Tryz.prog 47 #[v] w fun e w' => e = .returned (.pointer none) ∧ w = w' := by
  go_enter Tryz.func47, Tryz.ntmps47
  go_wp2_with fail
  refine (none_yes v w h).mono ?_
  rintro e w' ⟨rfl, rfl⟩
  go_wp2
  go_ret
  exact ⟨rfl, rfl⟩

end Go.Proofs.YtdccbceaajnajaaGreat

namespace Go.Proofs.YtdccbceaajnajaaGreat
open Go.RowKit
set_option linter.unusedSimpArgs false
set_option linter.unusedVariables false

theorem size25 : (Tryz.prog.info? 70).map (·.size) = some 10 := by kernel_rfl
theorem cell_tmp_res {fn : Func} {p u : Tmp} (h : fn.results = #[.cell p 70, .tmp u]) (tmps : Array Value) (w : World) (g : Nat) (t : TypeId) (cs : Array Value) (fr : Nat × Nat)
    (hp : tmps.getD p undef = .pointer (some ⟨g, 0, none⟩)) (hg : w.heap[g]? = some (.cells cs t fr)) (hi : cs.size = 10) :
    (results fn tmps).run Tryz.prog w = .ok (.tuple #[.agg cs, tmps.getD u undef]) w := by
  have hp' : tmps[p]?.getD undef = .pointer (some ⟨g, 0, none⟩) := by simpa using hp
  rw [results_cell_tmp h]
  simp [hp', asAddr, run_loadVar_row w g t 70 cs fr _ hg Tryz.underlying70 rfl (by rw [hi]; exact size25)]
def rec0 : Rec := ⟨0, 0, 0, 0, ByteArray.empty, ByteArray.empty, 0, 0, ByteArray.empty, []⟩
theorem tnone_nil (w : World) : Calls Tryz.prog 43 #[.pointer none] w fun e w' => e = .returned (.bool true) ∧ w = w' := by
  go_enter Tryz.func43, Tryz.ntmps43
  go_wp2
  go_ret
  exact ⟨rfl, rfl⟩
theorem tforce_nil (w : World) : Calls Tryz.prog 33 #[.pointer none] w fun e w' => e = .returned (.int .i64 6) ∧ New w w' := by
  go_enter Tryz.func33, Tryz.ntmps33
  go_wp2_with fail
  refine (tnone_nil w).mono ?_
  rintro e w' ⟨rfl, rfl⟩
  go_wp2
  go_ret
  exact ⟨rfl, New.refl _⟩
theorem tlast_nil (w : World) : Calls Tryz.prog 54 #[.pointer none] w fun e w' => e = .returned (.int .i64 0) ∧ New w w' := by
  go_enter Tryz.func54, Tryz.ntmps54
  go_wp2_with fail
  refine (tnone_nil w).mono ?_
  rintro e w' ⟨rfl, rfl⟩
  go_wp2
  go_ret
  exact ⟨rfl, New.refl _⟩
theorem tforced_nil (w : World) : Calls Tryz.prog 13 #[.pointer none] w fun e w' => e = .returned (.int .i64 0) ∧ New w w' := by
  go_enter Tryz.func13, Tryz.ntmps13
  go_wp2_with fail
  refine (tnone_nil w).mono ?_
  rintro e w' ⟨rfl, rfl⟩
  go_wp2
  go_ret
  exact ⟨rfl, New.refl _⟩
theorem tfree_nil (w : World) : Calls Tryz.prog 61 #[.pointer none] w fun e w' => e = .returned (.int .i64 0) ∧ New w w' := by
  go_enter Tryz.func61, Tryz.ntmps61
  go_wp2_with fail
  refine (tnone_nil w).mono ?_
  rintro e w' ⟨rfl, rfl⟩
  go_wp2
  go_ret
  exact ⟨rfl, New.refl _⟩
theorem tappend_nil (r : Rec) (bv av uv : Value) (w : World) : Calls Tryz.prog 25 #[.pointer none, .agg (recCells r bv av uv)] w fun e w' => e = .returned (.tuple #[.int .i64 0, .int .i64 6]) ∧ New w w' := by
  go_enter Tryz.func25, Tryz.ntmps25
  go_wp2_with fail
  refine (tnone_nil _).mono ?_
  rintro e w' ⟨rfl, rfl⟩
  go_wp2
  go_ret2
  exact ⟨rfl, (New.refl w).alloc _ _⟩
/-- Open of a nil disk. -/
theorem open_nil (w : World) : Calls Tryz.prog 23 #[.pointer none] w fun e w' => e = .returned (.tuple #[.pointer none, .int .i64 6]) ∧ New w w' := by
  go_enter Tryz.func23, Tryz.ntmps23
  go_wp2
  obtain ⟨w1, hw1⟩ : ∃ w1 : World, w1 = w.alloc (.cells #[.pointer none, .slice none 0 0, .int .i64 0, .bool false] 87) := ⟨_, rfl⟩
  have HN := hid (show New w w1 by rw [hw1]; exact (New.refl w).alloc _ _)
  rw [← hw1]
  clear hw1
  go_loopw [7] (fun i wr => i = .int .i64 1 ∧ w1 = wr) (fun _ _ => 0)
  case atStart => exact ⟨rfl, rfl⟩
  case round =>
    obtain ⟨rfl, rfl⟩ := hrel
    go_wp2_with fail
    refine (read_none _ _ w1 (.inl rfl)).mono ?_
    rintro e w2 ⟨rfl, rfl⟩
    go_wp2
    go_ret2
    exact ⟨rfl, HN.out⟩

end Go.Proofs.YtdccbceaajnajaaGreat
