/- add: a change. -/
import Derived.Test.YtmchbciofdokfaaW13L
namespace Go.Proofs.Ytmchbciofdokfaa
open Go.RowKit
open Go.ChangeMaps (setBlock)
set_option linter.unusedSimpArgs false
set_option linter.unusedVariables false

theorem valid_before {r : Rec} (h : validB r = true) (hk : r.kind = 1) : r.before.size = r.after.size := by
  unfold validB at h
  simp only [hk] at h
  simp at h
  exact h.2.1.1.1.2
theorem ok_change {W : PW} {r : Rec} (hv : validB r = true) (hk : r.kind = 1) (hu : r.unit ≠ 0) (h0 : 0 ≤ (W.unit r.unit).st) : Ok W r ↔ (W.unit r.unit).st = 0 ∧ ¬ Meets W r ∧ partB (W.page r.page.toNat) r.at_.toNat r.before.size = r.before :=
  ⟨fun h => ⟨by have h1 := h.runs; have h2 : ¬ (W.unit r.unit).st = 1 := fun e => (h.ready e).1 hk; omega, h.change hk⟩,
    fun h => ⟨hv, fun e => absurd e hu, by omega, fun e => by omega, fun _ => h.2, fun e => by omega, fun e => by omega, fun e => by omega⟩⟩
theorem next_change {W : PW} {r : Rec} {U : AU} (hk : r.kind = 1) (hU : W.unit r.unit = U) : next W r = { laidW W r with unit := fun n => if n = r.unit then ⟨((laidW W r).unit r.unit).st, ((laidW W r).unit r.unit).left ++ [W.recs.length + 1], ((laidW W r).unit r.unit).text, true⟩ else (laidW W r).unit n, recs := W.recs ++ [r] } := by
  have hl : lays r = true := by rw [lays, hk]; rfl
  unfold next laidW
  simp only [hl, true_and, hk, show ¬ ((1 : Int) = 3) by decide, if_false]
  congr 1
  funext n
  by_cases h : n = r.unit
  · rw [if_pos h, if_pos h, h]
    simp [touch, hk]
  · rw [if_neg h, if_neg h]
/-- A part of a page in memory. -/
theorem page_part {w0 w : World} {wb : Nat} {S : WSh} {W : PW} (h : WorldAt w0 w wb S W) {n b : Nat} (hb : ((n : Int), b) ∈ S.lp) (hz : (W.page n).size = 128) {o k c : Nat} (hk : o + k ≤ 128) (hc : k ≤ c) (hc2 : c ≤ 128) : Bytes w (.slice (some ⟨b, o, none⟩) k c) (partB (W.page n) o k) := by
  have hp := (h.pages.page _ hb).2
  simp only [Int.toNat_natCast] at hp
  have hl : (W.page n).data.toList.length = 128 := by rw [data_len, hz]
  have hsz : (partB (W.page n) o k).size = k := by
    unfold partB
    rw [bytesOf_size, List.length_take, List.length_drop, hl]
    omega
  refine ⟨_, c, by rw [hsz], by rw [hsz]; exact hc, by unfold maxLen; omega, fun _ => ⟨b, o, rfl, (Array.getElem?_eq_some_iff.1 hp).1, fun i hi => ?_⟩⟩
  rw [byteVals_length, hsz] at hi
  rw [cells_of hp (o + i)]
  unfold partB byteVals bytesOf
  rw [List.getD_eq_getElem?_getD, List.getElem?_toArray, List.getElem?_map, List.getElem?_map]
  simp only [List.getElem?_take, List.getElem?_drop, if_pos hi]
  rw [List.getElem?_eq_getElem (by rw [hl]; omega)]
  rfl
theorem page_int (w0 : World) (wb : Nat) (S : WSh) (W : PW) (z : Int) (n : Nat) (hz : z = (n : Int)) (w : World) (h : WorldAt w0 w wb S W) : Calls Try.prog 45 #[.pointer (some ⟨wb, 0, none⟩), .int .i64 z] w (PageIs w0 wb S W n w) := by
  subst hz
  exact page_any w0 wb S W n w h
theorem lay_of (k : Int) (w0 : World) (wb : Nat) (S : WSh) (W : PW) (r : Rec) (bv av uv : Value) (w : World) (hk : r.kind = k) (h : WorldAt w0 w wb S W) (hr : RecAt w0 r bv av uv) (hp : placeB r = true) (hz : ∀ p, (W.page p).size = 128) (hl : W.recs.length ≤ 1000) :
    Calls Try.prog 88 #[.pointer (some ⟨wb, 0, none⟩), .agg #[.int .i64 k, .int .i64 r.unit, .int .i64 r.page, .int .i64 r.at_, bv, av, .int .i64 r.back, .int .i64 r.next, .string r.text, uv]] w (LayIs w0 wb S W r w) := by
  subst hk
  exact lay_any w0 wb S W r bv av uv w h hr hp hz hl
set_option maxRecDepth 100000 in
set_option maxHeartbeats 8000000 in
theorem add_change (w0 : World) (wb : Nat) (S : WSh) (W : PW) (r : Rec) (bv av uv : Value) (w : World) (h : WorldAt w0 w wb S W) (hr : RecAt w0 r bv av uv) (hs : Sane W) (hv : validB r = true) (hk : r.kind = 1) (hun : r.unit ≠ 0) :
    Calls Try.prog 62 #[.pointer (some ⟨wb, 0, none⟩), .agg (recCells r bv av uv)] w (AddIs w0 wb S W r) := by
  have hpl := valid_place hv (by rw [lays, hk]; rfl)
  obtain ⟨p0, p1, p2, p3, p4, p5⟩ := place_bounds hpl
  have hba := valid_before hv hk
  have HPL := hid hpl
  have HK := hid hk
  have HOK := hid (ok_change (W := W) hv hk hun (hs.st _).1)
  have p6 : r.at_ + (r.before.size : Int) ≤ 128 := by rw [hba]; omega
  have hbs : r.before.size ≤ 128 := by omega
  clear hk hpl p4 p5 hba
  obtain ⟨hu0, hu1⟩ := valid_unit hv
  have tu0 : (r.unit == 0) = false := by simpa using hun
  have tu1 : decide (0 < r.unit) = true := by simp; omega
  have hrl := hs.len
  obtain ⟨⟨bp, bc, rfl, b7, b8, b9⟩, ⟨ap, ac, rfl, a7, a8, a9⟩, ⟨up, uc, rfl, u7, u8, u9⟩⟩ := id hr
  have HR := hid hr
  have HV := hid hv
  have HS := hid hs
  have na : New w (w.alloc (.cells (recCells r (.slice bp r.before.size bc) (.slice ap r.after.size ac) (.slice up r.units.length uc)) 36)) := Below.alloc (New.refl w) (Nat.le_refl _) _
  have HQ := hid (alloc_block w (.cells (recCells r (.slice bp r.before.size bc) (.slice ap r.after.size ac) (.slice up r.units.length uc)) 36))
  have H1 := hid (h.newer na)
  have HNW := hid h.new
  have HRL := hid hs.len
  have HUN := hid hun
  clear h b9 a9 u9 hr hv hs hun na
  go_enter Try.func62, Try.ntmps62
  go_wp2_with fail
  refine (valid_any r _ _ _ _ (HR.out.new H1.out.new)).mono ?_
  rintro e w2 ⟨rfl, n2⟩
  rw [HV.out]
  generalize hw1 : w.alloc (.cells (recCells r (.slice bp r.before.size bc) (.slice ap r.after.size ac) (.slice up r.units.length uc)) 36) = w1 at *
  generalize hq0 : w.heap.size = q at *
  clear hw1 hq0
  have H2 := hid (H1.out.newer n2)
  have Q2 := hid ((Below.block n2 q (Array.getElem?_eq_some_iff.1 HQ.out).1).trans HQ.out)
  clear n2 HQ H1
  obtain ⟨mq0, mq1, mq2, mq3, mq4, mq5, mq6, mq7, mq8, mq9⟩ := rec_box Q2.out
  obtain ⟨pr, cr, hrv, -⟩ := H2.out.rows
  obtain ⟨c0, c1, c2, c3, c4⟩ := H2.out.cells
  rw [hrv] at c0
  have HRV := hid hrv
  have hqlt := (Array.getElem?_eq_some_iff.1 Q2.out).1
  have hblt := (Array.getElem?_eq_some_iff.1 H2.out.base).1
  have N3 := hid (Below.alloc (New.refl w2) (Nat.le_refl _) (.cells #[.int .i64 0, .slice none 0 0, .string ⟨#[]⟩, .bool false] 66))
  clear hrv
  have hk' := HK.out
  go_wp2_with fail
  refine (unit_any w0 wb S W r.unit _ (H2.out.newer N3.out)).mono ?_
  rintro e w4 ⟨b, v, lu, rfl, h4, hx, t4, hl1, hl2⟩
  have H4 := hid h4
  have HX := hid hx
  have HL1 := hid hl1
  have HL2 := hid hl2
  have Q4 := hid (block_turn ((Below.block N3.out q hqlt).trans Q2.out) t4 (fun e => imap_not (H2.out.newer N3.out).units.map _ _ _ (e ▸ ((Below.block N3.out q hqlt).trans Q2.out))))
  clear mq0 mq1 mq2 mq3 mq4 mq5 mq6 mq7 mq8 mq9 c0 c1 c2 c3 c4 t4 h4 hx hl1 hl2 hqlt hblt N3 H2 Q2
  obtain ⟨mq0, mq1, mq2, mq3, mq4, mq5, mq6, mq7, mq8, mq9⟩ := rec_box Q4.out
  obtain ⟨hb1, hb2⟩ := H4.out.units.unit _ HX.out
  obtain ⟨lp, lc, hlv⟩ := own_len hb2
  have uc0 : w4.cell? ⟨b, 0, none⟩ = some (.int .i64 (W.unit r.unit).st) := cells_of hb1 0
  have uc1 : w4.cell? ⟨b, 1, none⟩ = some (.slice lp (W.unit r.unit).left.length lc) := by rw [← hlv]; exact cells_of hb1 1
  have uc2 : w4.cell? ⟨b, 2, none⟩ = some (.string (W.unit r.unit).text) := cells_of hb1 2
  have uc3 : w4.cell? ⟨b, 3, none⟩ = some (.bool (W.unit r.unit).seen) := cells_of hb1 3
  have uf : ∀ o, w4.frozen? ⟨b, o, none⟩ = false := frozen_of hb1
  have HB1 := hid hb1
  have HB2 := hid hb2
  have HLV := hid hlv
  clear hb1 hb2 hlv
  obtain ⟨hs0, hs1⟩ := HS.out.st r.unit
  have hll := HS.out.lefts r.unit
  generalize hU : W.unit r.unit = U at *
  have HU := hid hU
  clear hU
  have hqb : q ≠ b := fun e => absurd (kind_cells (e ▸ Q4.out) HB1.out).2 (by decide)
  have hbq : b ≠ q := fun e => hqb e.symm
  have hwbb : wb ≠ b := fun e => absurd (kind_cells (e ▸ H4.out.base) HB1.out).2 (by decide)
  have hbwb : b ≠ wb := fun e => hwbb e.symm
  have hqwb : q ≠ wb := fun e => absurd (kind_cells (e ▸ Q4.out) H4.out.base).2 (by decide)
  have hwbq : wb ≠ q := fun e => hqwb e.symm
  by_cases hst : U.st = 0
  case neg =>
    have HNO : Hid (¬ Ok W r) := hid (fun ho => hst (HOK.out.1 ho).1)
    by_cases hst2 : U.st = 1
    · have t1 : decide (2 ≤ U.st) = false := by simp; omega
      have t2 : (U.st == 1) = true := by simpa using hst2
      clear hst hst2
      go_wp2
      go_ret
      exact .inl ⟨HNO.out, rfl, H4.out.new⟩
    · have t1 : decide (2 ≤ U.st) = true := by simp; omega
      clear hst hst2
      go_wp2
      go_ret
      exact .inl ⟨HNO.out, rfl, H4.out.new⟩
  have t1 : decide (2 ≤ U.st) = false := by simp; omega
  have t2 : (U.st == 1) = false := by simp; omega
  have HST := hid hst
  clear hst hs0 hs1
  go_wp2_with fail
  have HS4 : Hid (Sane W) := HS
  have H4d := hid (H4.out.newer (New.refl w4).drew)
  have Q4d := hid ((Below.block (New.refl w4).drew q (Array.getElem?_eq_some_iff.1 Q4.out).1).trans Q4.out)
  have HR4 := hid (HR.out)
  obtain ⟨pn, hpn, hpn2⟩ : ∃ n : Nat, r.page = (n : Int) ∧ n < 120 := ⟨r.page.toNat, by omega, by omega⟩
  have HPN := hid hpn
  clear hpn
  have HPT : Hid (r.page.toNat = pn) := hid (by have := HPN.out; omega)
  by_cases hM : Meets W r
  · have HM := hid hM
    have HNO : Hid (¬ Ok W r) := hid (fun ho => (HOK.out.1 ho).2.1 hM)
    clear hM hk' uc0 uc1 uc2 uc3 uf
    have hS := rec_box Q4d.out
    refine wp_region_held_drew (S := fun w' : World => w'.cell? ⟨q, 0, none⟩ = some (.int .i64 r.kind) ∧ w'.cell? ⟨q, 1, none⟩ = some (.int .i64 r.unit) ∧ w'.cell? ⟨q, 2, none⟩ = some (.int .i64 r.page) ∧ w'.cell? ⟨q, 3, none⟩ = some (.int .i64 r.at_) ∧ w'.cell? ⟨q, 4, none⟩ = some (.slice bp r.before.size bc) ∧ w'.cell? ⟨q, 5, none⟩ = some (.slice ap r.after.size ac) ∧ w'.cell? ⟨q, 6, none⟩ = some (.int .i64 r.back) ∧ w'.cell? ⟨q, 7, none⟩ = some (.int .i64 r.next) ∧ w'.cell? ⟨q, 8, none⟩ = some (.string r.text) ∧ w'.cell? ⟨q, 9, none⟩ = some (.slice up r.units.length uc)) (by kernel_rfl) hS (fun hHeld => ?_)
    refine wpAnyH_take (i := 0) (oi := { dst := some 73, op := Op.move (Operand.tmp 0), type := 54, pos := "replay.go:123", after := #[], guard := none }) (v := .pointer (some ⟨wb, 0, none⟩)) rfl (by kernel_rfl) (by kernel_rfl) (by kernel_rfl) (fun _ _ _ h => h) (Or.inl ⟨by rfl, ?_⟩) (by assumption) ?_
    · intro w9 hSw; (try dsimp only at hSw); go_simp
    try simp only [Act.put, List.setIfInBounds_toArray, List.set_cons_zero, List.set_cons_succ]
    refine wpAnyH_take (i := 1) (oi := { dst := some 74, op := Op.load 36 (Operand.tmp 3), type := 36, pos := "replay.go:123", after := #[], guard := none }) (v := .agg (recCells r (.slice bp r.before.size bc) (.slice ap r.after.size ac) (.slice up r.units.length uc))) rfl (by kernel_rfl) (by kernel_rfl) (by kernel_rfl) (fun _ _ _ h => h) (Or.inl ⟨by rfl, ?_⟩) (by assumption) ?_
    · intro w9 hSw; (try dsimp only at hSw); go_simp
    try simp only [Act.put, List.setIfInBounds_toArray, List.set_cons_zero, List.set_cons_succ]
    refine wpAnyH_ready (rs := [2]) (by kernel_rfl) (by simp) ?_
    refine AllReadyH.cons (o := { dst := some 75, op := Op.call { callee := Callee.value (Operand.func 86), args := #[Operand.tmp 73, Operand.tmp 74], argTypes := #[54, 36] }, type := 4, pos := "replay.go:123", after := #[{ on := 0, ground := Ground.data }, { on := 1, ground := Ground.data }], guard := none }) rfl (fun K hK => ?_) AllReadyH.nil
    go_simp
    refine (meets_any w0 wb _ W r _ _ _ _ H4d.out HR.out HPL.out HS.out).mono ?_
    rintro e w5 ⟨B, rfl, hB, hn5⟩
    obtain rfl : B = true := hB.2 HM.out
    have HN5 := hid hn5
    have Q5 := hid ((Below.block hn5 q (Array.getElem?_eq_some_iff.1 Q4d.out).1).trans Q4d.out)
    have hS5 := rec_box Q5.out
    clear hB hn5
    go_simp
    refine hK.out _ _ hS5 (fun hHeld => ?_)
    clear hK K hS hS5
    try simp only [Act.put, List.setIfInBounds_toArray, List.set_cons_zero, List.set_cons_succ]
    refine wpAnyH_take (i := 3) (oi := { dst := some 76, op := Op.move (Operand.tmp 75), type := 4, pos := "replay.go:123", after := #[{ on := 2, ground := Ground.data }, { on := 2, ground := Ground.chain }], guard := none }) (v := .bool true) rfl (by kernel_rfl) (by kernel_rfl) (by kernel_rfl) (fun _ _ _ h => h) (Or.inl ⟨by rfl, ?_⟩) (by assumption) ?_
    · intro w9 hSw; (try dsimp only at hSw); go_simp
    try simp only [Act.put, List.setIfInBounds_toArray, List.set_cons_zero, List.set_cons_succ]
    refine wpAnyH_take (i := 4) (oi := { dst := some 77, op := Op.move (Operand.tmp 0), type := 54, pos := "replay.go:123", after := #[{ on := 3, ground := Ground.guard }], guard := some (3, false) }) (v := undef) rfl (by kernel_rfl) (by kernel_rfl) (by kernel_rfl) (fun _ _ _ h => h) (Or.inr ⟨by rfl, rfl⟩) (by assumption) ?_
    try simp only [Act.put, List.setIfInBounds_toArray, List.set_cons_zero, List.set_cons_succ]
    refine wpAnyH_take (i := 5) (oi := { dst := some 78, op := Op.fieldAddr 36 (Operand.tmp 3) 2, type := 0, pos := "replay.go:123", after := #[{ on := 3, ground := Ground.guard }], guard := some (3, false) }) (v := undef) rfl (by kernel_rfl) (by kernel_rfl) (by kernel_rfl) (fun _ _ _ h => h) (Or.inr ⟨by rfl, rfl⟩) (by assumption) ?_
    try simp only [Act.put, List.setIfInBounds_toArray, List.set_cons_zero, List.set_cons_succ]
    refine wpAnyH_take (i := 6) (oi := { dst := some 79, op := Op.load 3 (Operand.tmp 78), type := 3, pos := "replay.go:123", after := #[{ on := 5, ground := Ground.data }, { on := 3, ground := Ground.guard }], guard := some (3, false) }) (v := undef) rfl (by kernel_rfl) (by kernel_rfl) (by kernel_rfl) (fun _ _ _ h => h) (Or.inr ⟨by rfl, rfl⟩) (by assumption) ?_
    try simp only [Act.put, List.setIfInBounds_toArray, List.set_cons_zero, List.set_cons_succ]
    refine wpAnyH_take (i := 7) (oi := { dst := some 80, op := Op.call { callee := Callee.value (Operand.func 45), args := #[Operand.tmp 77, Operand.tmp 79], argTypes := #[54, 3] }, type := 33, pos := "replay.go:123", after := #[{ on := 4, ground := Ground.data }, { on := 6, ground := Ground.data }, { on := 3, ground := Ground.chain }, { on := 3, ground := Ground.guard }], guard := some (3, false) }) (v := undef) rfl (by kernel_rfl) (by kernel_rfl) (by kernel_rfl) (fun _ _ _ h => h) (Or.inr ⟨by rfl, rfl⟩) (by assumption) ?_
    try simp only [Act.put, List.setIfInBounds_toArray, List.set_cons_zero, List.set_cons_succ]
    refine wpAnyH_take (i := 8) (oi := { dst := some 81, op := Op.fieldAddr 36 (Operand.tmp 3) 3, type := 0, pos := "replay.go:123", after := #[{ on := 3, ground := Ground.guard }], guard := some (3, false) }) (v := undef) rfl (by kernel_rfl) (by kernel_rfl) (by kernel_rfl) (fun _ _ _ h => h) (Or.inr ⟨by rfl, rfl⟩) (by assumption) ?_
    try simp only [Act.put, List.setIfInBounds_toArray, List.set_cons_zero, List.set_cons_succ]
    refine wpAnyH_take (i := 9) (oi := { dst := some 82, op := Op.load 3 (Operand.tmp 81), type := 3, pos := "replay.go:123", after := #[{ on := 8, ground := Ground.data }, { on := 3, ground := Ground.guard }], guard := some (3, false) }) (v := undef) rfl (by kernel_rfl) (by kernel_rfl) (by kernel_rfl) (fun _ _ _ h => h) (Or.inr ⟨by rfl, rfl⟩) (by assumption) ?_
    try simp only [Act.put, List.setIfInBounds_toArray, List.set_cons_zero, List.set_cons_succ]
    refine wpAnyH_take (i := 10) (oi := { dst := some 83, op := Op.fieldAddr 36 (Operand.tmp 3) 3, type := 0, pos := "replay.go:123", after := #[{ on := 3, ground := Ground.guard }], guard := some (3, false) }) (v := undef) rfl (by kernel_rfl) (by kernel_rfl) (by kernel_rfl) (fun _ _ _ h => h) (Or.inr ⟨by rfl, rfl⟩) (by assumption) ?_
    try simp only [Act.put, List.setIfInBounds_toArray, List.set_cons_zero, List.set_cons_succ]
    refine wpAnyH_take (i := 11) (oi := { dst := some 84, op := Op.load 3 (Operand.tmp 83), type := 3, pos := "replay.go:123", after := #[{ on := 10, ground := Ground.data }, { on := 3, ground := Ground.guard }], guard := some (3, false) }) (v := undef) rfl (by kernel_rfl) (by kernel_rfl) (by kernel_rfl) (fun _ _ _ h => h) (Or.inr ⟨by rfl, rfl⟩) (by assumption) ?_
    try simp only [Act.put, List.setIfInBounds_toArray, List.set_cons_zero, List.set_cons_succ]
    refine wpAnyH_take (i := 12) (oi := { dst := some 85, op := Op.fieldAddr 36 (Operand.tmp 3) 4, type := 0, pos := "replay.go:123", after := #[{ on := 3, ground := Ground.guard }], guard := some (3, false) }) (v := undef) rfl (by kernel_rfl) (by kernel_rfl) (by kernel_rfl) (fun _ _ _ h => h) (Or.inr ⟨by rfl, rfl⟩) (by assumption) ?_
    try simp only [Act.put, List.setIfInBounds_toArray, List.set_cons_zero, List.set_cons_succ]
    refine wpAnyH_take (i := 13) (oi := { dst := some 86, op := Op.load 33 (Operand.tmp 85), type := 33, pos := "replay.go:123", after := #[{ on := 12, ground := Ground.data }, { on := 3, ground := Ground.guard }], guard := some (3, false) }) (v := undef) rfl (by kernel_rfl) (by kernel_rfl) (by kernel_rfl) (fun _ _ _ h => h) (Or.inr ⟨by rfl, rfl⟩) (by assumption) ?_
    try simp only [Act.put, List.setIfInBounds_toArray, List.set_cons_zero, List.set_cons_succ]
    refine wpAnyH_take (i := 14) (oi := { dst := some 87, op := Op.call { callee := Callee.builtin Builtin.len, args := #[Operand.tmp 86], argTypes := #[33] }, type := 3, pos := "replay.go:123", after := #[{ on := 13, ground := Ground.data }, { on := 3, ground := Ground.guard }], guard := some (3, false) }) (v := undef) rfl (by kernel_rfl) (by kernel_rfl) (by kernel_rfl) (fun _ _ _ h => h) (Or.inr ⟨by rfl, rfl⟩) (by assumption) ?_
    try simp only [Act.put, List.setIfInBounds_toArray, List.set_cons_zero, List.set_cons_succ]
    refine wpAnyH_take (i := 15) (oi := { dst := some 88, op := Op.binOp BinOp.add 3 (Operand.tmp 84) (Operand.tmp 87) 3, type := 3, pos := "replay.go:123", after := #[{ on := 11, ground := Ground.data }, { on := 14, ground := Ground.data }, { on := 3, ground := Ground.guard }], guard := some (3, false) }) (v := undef) rfl (by kernel_rfl) (by kernel_rfl) (by kernel_rfl) (fun _ _ _ h => h) (Or.inr ⟨by rfl, rfl⟩) (by assumption) ?_
    try simp only [Act.put, List.setIfInBounds_toArray, List.set_cons_zero, List.set_cons_succ]
    refine wpAnyH_take (i := 16) (oi := { dst := some 89, op := Op.slice 33 (Operand.tmp 80) (some (Operand.tmp 82)) (some (Operand.tmp 88)) none, type := 33, pos := "replay.go:123", after := #[{ on := 7, ground := Ground.data }, { on := 9, ground := Ground.data }, { on := 15, ground := Ground.data }, { on := 3, ground := Ground.guard }], guard := some (3, false) }) (v := undef) rfl (by kernel_rfl) (by kernel_rfl) (by kernel_rfl) (fun _ _ _ h => h) (Or.inr ⟨by rfl, rfl⟩) (by assumption) ?_
    try simp only [Act.put, List.setIfInBounds_toArray, List.set_cons_zero, List.set_cons_succ]
    refine wpAnyH_take (i := 17) (oi := { dst := some 90, op := Op.fieldAddr 36 (Operand.tmp 3) 4, type := 0, pos := "replay.go:123", after := #[{ on := 3, ground := Ground.guard }], guard := some (3, false) }) (v := undef) rfl (by kernel_rfl) (by kernel_rfl) (by kernel_rfl) (fun _ _ _ h => h) (Or.inr ⟨by rfl, rfl⟩) (by assumption) ?_
    try simp only [Act.put, List.setIfInBounds_toArray, List.set_cons_zero, List.set_cons_succ]
    refine wpAnyH_take (i := 18) (oi := { dst := some 91, op := Op.load 33 (Operand.tmp 90), type := 33, pos := "replay.go:123", after := #[{ on := 17, ground := Ground.data }, { on := 3, ground := Ground.guard }], guard := some (3, false) }) (v := undef) rfl (by kernel_rfl) (by kernel_rfl) (by kernel_rfl) (fun _ _ _ h => h) (Or.inr ⟨by rfl, rfl⟩) (by assumption) ?_
    try simp only [Act.put, List.setIfInBounds_toArray, List.set_cons_zero, List.set_cons_succ]
    refine wpAnyH_take (i := 19) (oi := { dst := some 92, op := Op.call { callee := Callee.value (Operand.func 87), args := #[Operand.tmp 89, Operand.tmp 91], argTypes := #[33, 33] }, type := 4, pos := "replay.go:123", after := #[{ on := 16, ground := Ground.data }, { on := 18, ground := Ground.data }, { on := 7, ground := Ground.chain }, { on := 3, ground := Ground.guard }], guard := some (3, false) }) (v := undef) rfl (by kernel_rfl) (by kernel_rfl) (by kernel_rfl) (fun _ _ _ h => h) (Or.inr ⟨by rfl, rfl⟩) (by assumption) ?_
    try simp only [Act.put, List.setIfInBounds_toArray, List.set_cons_zero, List.set_cons_succ]
    refine wpAnyH_take (i := 20) (oi := { dst := some 93, op := Op.unOp UnOp.not 4 (Operand.tmp 92), type := 4, pos := "replay.go:123", after := #[{ on := 19, ground := Ground.data }, { on := 3, ground := Ground.guard }], guard := some (3, false) }) (v := undef) rfl (by kernel_rfl) (by kernel_rfl) (by kernel_rfl) (fun _ _ _ h => h) (Or.inr ⟨by rfl, rfl⟩) (by assumption) ?_
    try simp only [Act.put, List.setIfInBounds_toArray, List.set_cons_zero, List.set_cons_succ]
    refine wpAnyH_take (i := 21) (oi := { dst := some 94, op := Op.pick (Operand.tmp 76) (Operand.const (Value.bool true)) (Operand.tmp 93), type := 4, pos := "replay.go:123", after := #[{ on := 3, ground := Ground.data }, { on := 20, ground := Ground.data }], guard := none }) (v := .bool true) rfl (by kernel_rfl) (by kernel_rfl) (by kernel_rfl) (fun _ _ _ h => h) (Or.inl ⟨by rfl, ?_⟩) (by assumption) ?_
    · intro w9 hSw; (try dsimp only at hSw); go_simp
    try simp only [Act.put, List.setIfInBounds_toArray, List.set_cons_zero, List.set_cons_succ]
    refine wpAnyH_done (by kernel_rfl) ?_ _
    all_goals
      go_wp2
      go_ret
      exact .inl ⟨HNO.out, rfl, H4d.out.new.trans HN5.out⟩
  have HM := hid hM
  clear hM hk' uc0 uc1 uc2 uc3 uf mq0 mq1 mq2 mq3 mq4 mq5 mq6 mq7 mq8 mq9
  have hS := rec_box Q4d.out
  have hwr : IntKind.i64.wrap (r.at_ + (r.before.size : Int)) = r.at_ + (r.before.size : Int) := IntWalk.i64_in _ (by omega)
  have hsl1 : r.at_ ≤ r.at_ + (r.before.size : Int) := by omega
  have hsl0 : 0 ≤ r.at_ + (r.before.size : Int) := by omega
  have hsl2 : r.at_ ≤ 128 := by omega
  have hne : ¬ (128 = r.at_.toNat) := by omega
  have hke : (r.at_ + (r.before.size : Int)).toNat - r.at_.toNat = r.before.size := by omega
  have HB128 : Hid (r.at_.toNat + r.before.size ≤ 128 ∧ r.before.size ≤ 128 - r.at_.toNat ∧ 128 - r.at_.toNat ≤ 128) := hid ⟨by omega, by omega, by omega⟩
  have HSZ : Hid ((W.page pn).size = 128) := hid (HS.out.size pn)
  go_region_held3 (fun w' : World => w'.cell? ⟨q, 0, none⟩ = some (.int .i64 r.kind) ∧ w'.cell? ⟨q, 1, none⟩ = some (.int .i64 r.unit) ∧ w'.cell? ⟨q, 2, none⟩ = some (.int .i64 r.page) ∧ w'.cell? ⟨q, 3, none⟩ = some (.int .i64 r.at_) ∧ w'.cell? ⟨q, 4, none⟩ = some (.slice bp r.before.size bc) ∧ w'.cell? ⟨q, 5, none⟩ = some (.slice ap r.after.size ac) ∧ w'.cell? ⟨q, 6, none⟩ = some (.int .i64 r.back) ∧ w'.cell? ⟨q, 7, none⟩ = some (.int .i64 r.next) ∧ w'.cell? ⟨q, 8, none⟩ = some (.string r.text) ∧ w'.cell? ⟨q, 9, none⟩ = some (.slice up r.units.length uc)) (first | exact hS | exact hS5 | exact hS6)
    (first
      | (go_at_call 86; refine (meets_any w0 wb _ W r _ _ _ _ H4d.out HR.out HPL.out HS.out).mono ?_; rintro e w5 ⟨B, rfl, hB, hn5⟩; obtain rfl : B = false := (Bool.eq_false_iff.2 fun e => HM.out (hB.1 e)); have HN5 := hid hn5; have H5 := hid (H4d.out.newer hn5); have Q5 := hid ((Below.block hn5 q (Array.getElem?_eq_some_iff.1 Q4d.out).1).trans Q4d.out); have hS5 := rec_box Q5.out; clear hB hn5)
      | (go_at_call 45; refine (page_int w0 wb _ W r.page pn HPN.out _ H5.out).mono ?_; rintro e w6 ⟨b6, lp6, rfl, h6, hbl, t6⟩; have H6 := hid h6; have HBL := hid hbl; have Q6 := hid (block_turn Q5.out t6 (fun e => imap_not H5.out.pages.map _ _ _ (e ▸ Q5.out))); have hS6 := rec_box Q6.out; clear h6 hbl t6)
      | (go_at_call 87; refine (bytesEqual_any _ _ (partB (W.page pn) r.at_.toNat r.before.size) r.before _ (page_part H6.out HBL.out HSZ.out HB128.out.1 HB128.out.2.1 HB128.out.2.2) (HR.out.before.new H6.out.new)).mono ?_; rintro e w7 ⟨rfl, rfl⟩))
  clear hwr hsl1 hsl0 hsl2 hne hke hS hS5 hS6
  obtain ⟨D, hD⟩ : ∃ D, decide (partB (W.page pn) r.at_.toNat r.before.size = r.before) = D := ⟨_, rfl⟩
  have HD := hid hD
  rw [hD]
  clear hD
  cases D
  case false =>
    have HNO : Hid (¬ Ok W r) := hid (fun ho => of_decide_eq_false HD.out (by have := (HOK.out.1 ho).2.2; rwa [HPT.out] at this))
    go_wp2
    go_ret
    exact .inl ⟨HNO.out, rfl, H6.out.new⟩
  have HOK2 : Hid (Ok W r) := hid (HOK.out.2 ⟨by have := HST.out; exact this, HM.out, by rw [HPT.out]; exact of_decide_eq_true HD.out⟩)
  obtain ⟨mq0, mq1, mq2, mq3, mq4, mq5, mq6, mq7, mq8, mq9⟩ := rec_box Q6.out
  have hk' := HK.out
  go_wp2_with fail
  with_reducible refine (lay_of 1 w0 wb _ W r _ _ _ _ HK.out H6.out HR.out HPL.out HS.out.size HRL.out).mono ?_
  rintro e w8 ⟨lp8, ls8, rfl, h8, k8⟩
  have H8 := hid h8
  have Q8 := hid (k8 q _ Q6.out)
  clear h8 k8 mq0 mq1 mq2 mq3 mq4 mq5 mq6 mq7 mq8 mq9 hk'
  have hlv := HLV.out
  subst hlv
  have hb81 : w8.heap[b]? = some (.cells (unitCells U (.slice lp U.left.length lc)) 66 (0, 0)) := by
    have h := (H8.out.units.unit _ HX.out).1
    change w8.heap[b]? = some (.cells (unitCells (W.unit r.unit) (.slice lp U.left.length lc)) 66 (0, 0)) at h
    rw [HU.out] at h
    exact h
  have hb82 : w8.ownsRow 0 3 1 (.slice lp U.left.length lc) U.left.length (natVals U.left) := by
    have h := (H8.out.units.unit _ HX.out).2
    change w8.ownsRow 0 3 1 (.slice lp U.left.length lc) (W.unit r.unit).left.length (natVals (W.unit r.unit).left) at h
    rw [HU.out] at h
    exact h
  have HB81 := hid hb81
  have HB82 := hid hb82
  have uc1 : w8.cell? ⟨b, 1, none⟩ = some (.slice lp U.left.length lc) := cells_of hb81 1
  have uc3 : w8.cell? ⟨b, 3, none⟩ = some (.bool U.seen) := cells_of hb81 3
  have hxlt : b < w8.heap.size := (Array.getElem?_eq_some_iff.1 hb81).1
  have NA := hid (Below.alloc (New.refl w8) (Nat.le_refl _) (.cells #[.int .i64 ((W.recs.length : Int) + 1)] 3))
  have HOB : Hid ((Value.slice lp U.left.length lc).ownBlock ≠ some b) := hid (fun e => by
    obtain ⟨c, hc, _⟩ := own_cells hb82 e
    exact absurd (kind_cells hc hb81).2 (by decide))
  have HVL := hid hb82
  have HOQ : Hid ((Value.slice lp U.left.length lc).ownBlock ≠ some q) := hid (fun e => by
    obtain ⟨c, hc, _⟩ := own_cells hb82 e
    exact absurd (kind_cells hc Q8.out).2 (by decide))
  have E1 := hid (((bcell NA.out).1 b 1 hxlt).trans uc1)
  have E3 := hid (((bcell NA.out).1 b 3 hxlt).trans uc3)
  have F1 := hid ((bcell NA.out).2 b 1 hxlt)
  have F3 := hid ((bcell NA.out).2 b 3 hxlt)
  have L1 := hid (Nat.lt_of_lt_of_le hxlt NA.out.size)
  have UF8 := hid (frozen_of hb81)
  have HLL := hid hll
  clear hb81 hb82 hll
  obtain ⟨mq0, mq1, mq2, mq3, mq4, mq5, mq6, mq7, mq8, mq9⟩ := rec_box Q8.out
  have hk' := HK.out
  go_wp2_with (at_builtin; refine app_num rfl _ _ rfl (.slice lp U.left.length lc) U.left.length _ rfl 0 (own_old HVL.out NA.out) (Nat.zero_le _) w8.heap.size ((W.recs.length : Int) + 1) rfl (cell_made _ _ _ _) (by have := HLL.out; omega) ?_)
  intro v9 w9 own9 grow9 blk9
  obtain ⟨p9, k9, rfl⟩ := own_len own9
  have c91 := (grow9.cell_far ⟨b, 1, none⟩ L1.out (fun e => HOB.out e.symm)).trans E1.out
  have c93 := (grow9.cell_far ⟨b, 3, none⟩ L1.out (fun e => HOB.out e.symm)).trans E3.out
  have z91 := (grow9.frozen_far ⟨b, 1, none⟩ L1.out (fun e => HOB.out e.symm)).trans (F1.out.trans (UF8.out 1))
  have z93 := (grow9.frozen_far ⟨b, 3, none⟩ L1.out (fun e => HOB.out e.symm)).trans (F3.out.trans (UF8.out 3))
  have Q9 := hid ((grow9.block q (Nat.lt_of_lt_of_le (Array.getElem?_eq_some_iff.1 Q8.out).1 NA.out.size) (fun e => HOQ.out e.symm)).trans ((Below.block NA.out q (Array.getElem?_eq_some_iff.1 Q8.out).1).trans Q8.out))
  have LE := hid (H8.out.leftEnd HX.out NA.out (z := U.left.length) (k := W.recs.length + 1) (v8 := .slice p9 (U.left.length + 1) k9) (by show (W.unit r.unit).left.length = _; rw [HU.out]) (by show w9.ownsRow 0 3 1 _ _ (natVals (W.unit r.unit).left ++ [.int .i64 ((W.recs.length + 1 : Nat) : Int)]); rw [HU.out]; exact own9) grow9 (by rw [World.size_alloc]; exact blk9))
  clear own9 grow9 blk9 HVL NA uc1 uc3 hxlt E1 E3 F1 F3 L1
  have T9 : Hid (Turn (fun k => k = b ∨ (Value.slice lp U.left.length lc).ownBlock = some k) w8 ((w9.setCell ⟨b, 1, none⟩ (.slice p9 (U.left.length + 1) k9)).setCell ⟨b, 3, none⟩ (.bool true))) := hid LE.out.2
  have H6 := hid LE.out.1
  have Q6 := hid (block_turn Q8.out T9.out (fun e => e.elim (fun e => hqb e) (fun e => HOQ.out e)))
  clear mq0 mq1 mq2 mq3 mq4 mq5 mq6 mq7 mq8 mq9 hk' LE T9
  obtain ⟨mq0, mq1, mq2, mq3, mq4, mq5, mq6, mq7, mq8, mq9⟩ := rec_box Q9.out
  have hk' := HK.out
  go_wp2_with fail
  all_goals
    clear hk' mq0 mq1 mq2 mq3 mq4 mq5 mq6 mq7 mq8 mq9 c91 c93 z91 z93 Q9
    generalize ((w9.setCell ⟨b, 1, none⟩ (.slice p9 (U.left.length + 1) k9)).setCell ⟨b, 3, none⟩ (.bool true)) = w6 at *
    obtain ⟨xs, hro, hrc⟩ := H6.out.recs
    have HRC := hid hrc
    have HRO : Hid (w6.ownsRow 0 36 10 (.slice pr W.recs.length cr) W.recs.length xs) := hid (by rw [← HRV.out]; exact hro)
    have NX := hid (Below.alloc (New.refl w6) (Nat.le_refl _) (.cells (recCells r (.slice bp r.before.size bc) (.slice ap r.after.size ac) (.slice up r.units.length uc)) 36)).drew
    have HBX : Hid (((w6.alloc (.cells (recCells r (.slice bp r.before.size bc) (.slice ap r.after.size ac) (.slice up r.units.length uc)) 36)).drew).heap[w6.heap.size]? = some (.cells (recCells r (.slice bp r.before.size bc) (.slice ap r.after.size ac) (.slice up r.units.length uc)) 36 (0, 0))) := hid (alloc_block w6 _)
    have hwlt := (Array.getElem?_eq_some_iff.1 H6.out.base).1
    have HWF := hid (frozen_of H6.out.base)
    have c0 : w6.cell? ⟨wb, 0, none⟩ = some (.slice pr W.recs.length cr) := by rw [← HRV.out]; exact H6.out.cells.1
    have z0 : w6.frozen? ⟨wb, 0, none⟩ = false := HWF.out 0
    have HOW : Hid ((Value.slice pr W.recs.length cr).ownBlock ≠ some wb) := hid (fun e => by
      obtain ⟨c, hc, _⟩ := own_cells HRO.out e
      exact absurd (kind_cells hc H6.out.base).2 (by decide))
    obtain ⟨mq0, mq1, mq2, mq3, mq4, mq5, mq6, mq7, mq8, mq9⟩ := rec_box Q6.out
    have HC0 := hid c0
    have HZ0 := hid z0
    have HWLT := hid hwlt
    have HRL2 : Hid (W.recs.length ≤ 1000000) := hid (by omega)
    have E8 : Hid (((w6.alloc (.cells (recCells r (.slice bp r.before.size bc) (.slice ap r.after.size ac) (.slice up r.units.length uc)) 36)).drew).cell? ⟨wb, 0, none⟩ = some (.slice pr W.recs.length cr)) := hid (((bcell NX.out).1 wb 0 hwlt).trans c0)
    have F8 : Hid (((w6.alloc (.cells (recCells r (.slice bp r.before.size bc) (.slice ap r.after.size ac) (.slice up r.units.length uc)) 36)).drew).frozen? ⟨wb, 0, none⟩ = false) := hid (((bcell NX.out).2 wb 0 hwlt).trans z0)
    have L8 : Hid (wb < ((w6.alloc (.cells (recCells r (.slice bp r.before.size bc) (.slice ap r.after.size ac) (.slice up r.units.length uc)) 36)).drew).heap.size) := hid (Nat.lt_of_lt_of_le hwlt NX.out.size)
    clear hro hrc
    go_region_law (first
      | (refine step_rec rfl _ _ rfl (.slice pr W.recs.length cr) W.recs.length xs rfl 0 (own_old HRO.out NX.out) (Nat.zero_le _) w6.heap.size r bp ap up _ bc _ ac _ uc rfl (cells_of HBX.out) HRL2.out ?_; intro g8 k8 w8 own8 grow8 blk8; have c8 := (grow8.cell_far ⟨wb, 0, none⟩ L8.out (fun e => HOW.out e.symm)).trans E8.out; have z8 := (grow8.frozen_far ⟨wb, 0, none⟩ L8.out (fun e => HOW.out e.symm)).trans F8.out))
    all_goals
      have HE := hid (H6.out.recsEnd HRV.out HR.out HRC.out NX.out own8 grow8 blk8)
      clear own8 grow8 blk8
      go_wp2
      go_ret
      exact add_end HOK2.out rfl HE.out (next_change HK.out HU.out) (unit_in HL1.out HL2.out)
end Go.Proofs.Ytmchbciofdokfaa
