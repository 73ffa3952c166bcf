/- What tape.Decode returns (printed by dec.py). -/
import Derived.Test.YtdccbceaajnajaaGreatT13
import Derived.Test.YtdccbceaajnajaaGreatT20
import Derived.Deep.CutRange
namespace Go.Proofs.YtdccbceaajnajaaGreat
open Go.RowKit
set_option linter.unusedSimpArgs false
set_option linter.unusedVariables false

theorem number_at (x : Nat) (s : RS) (n : Int) (s' : RS) (w : World) (e : rdNum s = (n, s')) (h : RdAt w x s) : Calls Tryz.prog 87 #[.pointer (some ⟨x, 0, none⟩)] w (RdBack x (.int .i64 n) s' w) := by
  have := number_any x s w h; rw [e] at this; exact this
theorem small_at (x : Nat) (s : RS) (n : Int) (s' : RS) (w : World) (e : rdSmall s = (n, s')) (h : RdAt w x s) : Calls Tryz.prog 88 #[.pointer (some ⟨x, 0, none⟩)] w (RdBack x (.int .i64 n) s' w) := by
  have := small_any x s w h; rw [e] at this; exact this
theorem text_at (x : Nat) (s : RS) (t : ByteArray) (s' : RS) (w : World) (e : rdText s = (t, s')) (h : RdAt w x s) : Calls Tryz.prog 91 #[.pointer (some ⟨x, 0, none⟩)] w (RdBack x (.string t) s' w) := by
  have := text_any x s w h; rw [e] at this; exact this
theorem txt87_at (t5 x : Nat) (s : RS) (t : ByteArray) (s' : RS) (w : World) (e : rdText s = (t, s')) (hb : w.cell? ⟨t5, 0, none⟩ = some (.pointer (some ⟨x, 0, none⟩))) (h : RdAt w x s) :
    Calls Tryz.prog 90 #[.pointer (some ⟨t5, 0, none⟩)] w fun e w' => e = .returned (.string t) ∧ RdAt w' x s' ∧ Turn (· = x) w w' := by
  have H := hid h
  have E := hid e
  clear h e
  go_enter Tryz.func90, Tryz.ntmps90
  go_wp2_with fail
  refine (text_at x s t s' w E.out H.out).mono ?_
  rintro e w2 ⟨⟨er, rfl⟩, hr, ht⟩
  have HR := hid hr
  have HT := hid ht
  clear hr ht
  go_wp2
  go_ret
  exact ⟨rfl, HR.out, HT.out⟩
theorem rdSmall_lt (s : RS) : 0 ≤ (rdSmall s).1 ∧ (rdSmall s).1 ≤ 255 := by
  unfold rdSmall
  refine ⟨valB_nonneg _, ?_⟩
  cases hq : (rdTake 1 s).1 with
  | none => simp [valB]
  | some a =>
    have h1 := rdTake_len hq
    have h2 := valB_small _ h1
    simp only [Option.getD_some]
    simp at h2
    omega
theorem rdText_size {s : RS} {t : ByteArray} {s' : RS} (e : rdText s = (t, s')) : t.size ≤ 1000000 := by
  have e1 : t = (rdText s).1 := by rw [e]
  rw [e1]
  unfold rdText
  rw [bytesOf_size]
  have := rdSmall_lt s
  cases hq : (rdTake (rdSmall s).1.toNat (rdSmall s).2).1 with
  | none => simp
  | some a =>
    have h1 := rdTake_len hq
    simp only [Option.getD_some]
    omega
/-- What Decode returns. -/
def DecBack (l : List UInt8) (w : World) (e : Ending) (w' : World) : Prop :=
  ∃ bv av uv, RecIn w' (if decOk l then (decRec l).1 else rec0) bv av uv ∧ New w w' ∧ e = .returned (.tuple #[.int .i64 (if decOk l then (decHead l).num else 0), .agg (recCells (if decOk l then (decRec l).1 else rec0) bv av uv), .int .i64 (if decOk l then 0 else 3)])
theorem dec_no_back {l : List UInt8} {w w' : World} (h : decOk l = false) (hn : New w w') : DecBack l w (.returned (.tuple #[.int .i64 0, .agg #[.int .i64 0, .int .i64 0, .int .i64 0, .int .i64 0, .slice none 0 0, .slice none 0 0, .int .i64 0, .int .i64 0, .string ByteArray.empty, .slice none 0 0], .int .i64 3])) w' := by
  refine ⟨.slice none 0 0, .slice none 0 0, .slice none 0 0, ?_, hn, ?_⟩
  · simp only [h, Bool.false_eq_true, if_false]
    exact ⟨Content.nil w', Content.nil w', OpensIn.nil w'⟩
  · simp only [h, Bool.false_eq_true, if_false]; rfl
theorem dec_yes_back {l : List UInt8} {w w' : World} {r : Rec} {n : Int} {s : RS} {bv av uv : Value} (h : decOk l = true) (hr : decRec l = (r, s)) (hm : (decHead l).num = n) (ha : RecIn w' r bv av uv) (hn : New w w') : DecBack l w (.returned (.tuple #[.int .i64 n, .agg (recCells r bv av uv), .int .i64 0])) w' := by
  refine ⟨bv, av, uv, ?_, hn, ?_⟩
  · simp only [h, if_true, hr]; exact ha
  · simp only [h, if_true, hr, hm]

set_option maxRecDepth 100000 in
set_option maxHeartbeats 8000000 in
theorem decode_0 (bv : Value) (l : List UInt8) (w : World) (h : Bytes w bv (bytesOf l)) (hl : l.length ≤ 1000000) (hk : ∀ k : Int, 1 ≤ k → k ≤ 7 → (decHead l).kind ≠ k) : Calls Tryz.prog 58 #[bv] w (DecBack l w) := by
  have HB := hid h
  obtain ⟨bp, bc, rfl, b1, b2, _⟩ := h
  rw [bytesOf_size] at b1 HB ⊢
  obtain ⟨v0, s0, E0⟩ : ∃ v t, rdNum (some l) = (v, t) := ⟨_, _, rfl⟩
  obtain ⟨v1, s1, E1⟩ : ∃ v t, rdNum s0 = (v, t) := ⟨_, _, rfl⟩
  obtain ⟨v2, s2, E2⟩ : ∃ v t, rdSmall s1 = (v, t) := ⟨_, _, rfl⟩
  obtain ⟨v3, s3, E3⟩ : ∃ v t, rdNum s2 = (v, t) := ⟨_, _, rfl⟩
  have hv2 : (decHead l).kind = v2 := by simp [decHead, E0, E1, E2]
  rw [hv2] at hk
  clear hv2
  have k1 : (v2 == 1) = false := by simpa using hk 1 (by decide) (by decide)
  have k2 : (v2 == 2) = false := by simpa using hk 2 (by decide) (by decide)
  have k3 : (v2 == 3) = false := by simpa using hk 3 (by decide) (by decide)
  have k4 : (v2 == 4) = false := by simpa using hk 4 (by decide) (by decide)
  have k5 : (v2 == 5) = false := by simpa using hk 5 (by decide) (by decide)
  have k6 : (v2 == 6) = false := by simpa using hk 6 (by decide) (by decide)
  have k7 : (v2 == 7) = false := by simpa using hk 7 (by decide) (by decide)
  have KK := hid (And.intro (hk 1 (by decide) (by decide)) (And.intro (hk 2 (by decide) (by decide)) (And.intro (hk 5 (by decide) (by decide)) (And.intro (hk 7 (by decide) (by decide)) (hk 6 (by decide) (by decide))))))
  clear hk
  have HH : Hid (decHead l = ⟨v0, v1, v2, v3, s3⟩) := hid (by simp [decHead, E0, E1, E2, E3])
  have E0 := hid E0
  have E1 := hid E1
  have E2 := hid E2
  have E3 := hid E3
  go_enter Tryz.func58, Tryz.ntmps58
  go_wp2_with fail
  refine (newReader_any _ l _ (HB.out.renew ((New.refl w).alloc _ _)) hl).mono ?_
  rintro e wA ⟨x, rfl, hr, hn, hx⟩
  have hx' : w.heap.size ≤ x := by simp at hx; omega
  have D0 := DS.start rdLaw (w0 := w) hn hr hx'
  have nx := type_ne (heap_alloc_new wA (.cells #[.pointer (some ⟨x, 0, none⟩)] 123)) ((D0.newer rdLaw ((New.refl wA).alloc #[.pointer (some ⟨x, 0, none⟩)] 123))).rc (by decide)
  obtain ⟨cx, hcx⟩ := rdLaw.typed (D0.newer rdLaw ((New.refl wA).alloc #[.pointer (some ⟨x, 0, none⟩)] 123)).rd
  have ny := type_ne (heap_alloc_new wA (.cells #[.pointer (some ⟨x, 0, none⟩)] 123)) hcx (by decide)
  have DA := hid ((D0.newer rdLaw ((New.refl wA).alloc #[.pointer (some ⟨x, 0, none⟩)] 123)).more rdLaw (wA.heap.size, #[.pointer (some ⟨x, 0, none⟩)], 123) ⟨heap_alloc_new wA _, nx, ny, by dsimp only; decide⟩)
  clear D0 nx ny hcx hr hn hx hx'
  go_upto_region 2 with fail
  generalize wA.alloc (.cells #[.pointer (some ⟨x, 0, none⟩)] 123) = w0' at DA ⊢
  have ml : ∀ o, w0'.cell? ⟨w.heap.size, o, none⟩ = #[.int .i64 0, .int .i64 0, .int .i64 0, .int .i64 0, .slice none 0 0, .slice none 0 0, .int .i64 0, .int .i64 0, .string ByteArray.empty, .slice none 0 0][o]? := DA.out.cells
  have fz := DA.out.frozen
  have c5 : ∀ o, w0'.cell? ⟨wA.heap.size, o, none⟩ = #[.pointer (some ⟨x, 0, none⟩)][o]? := DA.out.other (wA.heap.size, #[.pointer (some ⟨x, 0, none⟩)], 123) (by simp)
  go_wp2_with fail
  refine (number_at x _ _ _ _ E0.out DA.out.rd).mono ?_
  rintro e wr0 ⟨⟨er, rfl⟩, hr, ht⟩
  clear ml fz c5
  have D0a := hid (DA.out.read rdLaw hr ht)
  clear hr ht DA
  have ml : ∀ o, wr0.cell? ⟨w.heap.size, o, none⟩ = #[.int .i64 0, .int .i64 0, .int .i64 0, .int .i64 0, .slice none 0 0, .slice none 0 0, .int .i64 0, .int .i64 0, .string ByteArray.empty, .slice none 0 0][o]? := D0a.out.cells
  have fz := D0a.out.frozen
  have c5 : ∀ o, wr0.cell? ⟨wA.heap.size, o, none⟩ = #[.pointer (some ⟨x, 0, none⟩)][o]? := D0a.out.other (wA.heap.size, #[.pointer (some ⟨x, 0, none⟩)], 123) (by simp)
  go_wp2_with fail
  refine (number_at x _ _ _ _ E1.out D0a.out.rd).mono ?_
  rintro e wr1 ⟨⟨er, rfl⟩, hr, ht⟩
  clear ml fz c5
  have D1a := hid (D0a.out.read rdLaw hr ht)
  clear hr ht D0a
  have ml : ∀ o, wr1.cell? ⟨w.heap.size, o, none⟩ = #[.int .i64 0, .int .i64 0, .int .i64 0, .int .i64 0, .slice none 0 0, .slice none 0 0, .int .i64 0, .int .i64 0, .string ByteArray.empty, .slice none 0 0][o]? := D1a.out.cells
  have fz := D1a.out.frozen
  have c5 : ∀ o, wr1.cell? ⟨wA.heap.size, o, none⟩ = #[.pointer (some ⟨x, 0, none⟩)][o]? := D1a.out.other (wA.heap.size, #[.pointer (some ⟨x, 0, none⟩)], 123) (by simp)
  go_wp2_with fail
  refine (small_at x _ _ _ _ E2.out D1a.out.rd).mono ?_
  rintro e wr2 ⟨⟨er, rfl⟩, hr, ht⟩
  clear ml fz c5
  have D2a := hid (D1a.out.read rdLaw hr ht)
  clear hr ht D1a
  have ml : ∀ o, wr2.cell? ⟨w.heap.size, o, none⟩ = #[.int .i64 0, .int .i64 0, .int .i64 0, .int .i64 0, .slice none 0 0, .slice none 0 0, .int .i64 0, .int .i64 0, .string ByteArray.empty, .slice none 0 0][o]? := D2a.out.cells
  have fz := D2a.out.frozen
  have c5 : ∀ o, wr2.cell? ⟨wA.heap.size, o, none⟩ = #[.pointer (some ⟨x, 0, none⟩)][o]? := D2a.out.other (wA.heap.size, #[.pointer (some ⟨x, 0, none⟩)], 123) (by simp)
  go_upto_region 5 with fail
  clear ml fz c5
  have D2b := hid (D2a.out.kind rdLaw v2)
  clear D2a
  generalize wr2.setCell ⟨w.heap.size, 0, none⟩ (.int .i64 v2) = wx2 at D2b ⊢
  have ml : ∀ o, wx2.cell? ⟨w.heap.size, o, none⟩ = #[.int .i64 v2, .int .i64 0, .int .i64 0, .int .i64 0, .slice none 0 0, .slice none 0 0, .int .i64 0, .int .i64 0, .string ByteArray.empty, .slice none 0 0][o]? := D2b.out.cells
  have fz := D2b.out.frozen
  have c5 : ∀ o, wx2.cell? ⟨wA.heap.size, o, none⟩ = #[.pointer (some ⟨x, 0, none⟩)][o]? := D2b.out.other (wA.heap.size, #[.pointer (some ⟨x, 0, none⟩)], 123) (by simp)
  go_wp2_with fail
  refine (number_at x _ _ _ _ E3.out D2b.out.rd).mono ?_
  rintro e wr3 ⟨⟨er, rfl⟩, hr, ht⟩
  clear ml fz c5
  have D3a := hid (D2b.out.read rdLaw hr ht)
  clear hr ht D2b
  have ml : ∀ o, wr3.cell? ⟨w.heap.size, o, none⟩ = #[.int .i64 v2, .int .i64 0, .int .i64 0, .int .i64 0, .slice none 0 0, .slice none 0 0, .int .i64 0, .int .i64 0, .string ByteArray.empty, .slice none 0 0][o]? := D3a.out.cells
  have fz := D3a.out.frozen
  have c5 : ∀ o, wr3.cell? ⟨wA.heap.size, o, none⟩ = #[.pointer (some ⟨x, 0, none⟩)][o]? := D3a.out.other (wA.heap.size, #[.pointer (some ⟨x, 0, none⟩)], 123) (by simp)
  go_upto_region 6 with fail
  clear ml fz c5
  have D3b := hid (D3a.out.unit rdLaw v3)
  clear D3a
  generalize wr3.setCell ⟨w.heap.size, 1, none⟩ (.int .i64 v3) = wx3 at D3b ⊢
  have ml : ∀ o, wx3.cell? ⟨w.heap.size, o, none⟩ = #[.int .i64 v2, .int .i64 v3, .int .i64 0, .int .i64 0, .slice none 0 0, .slice none 0 0, .int .i64 0, .int .i64 0, .string ByteArray.empty, .slice none 0 0][o]? := D3b.out.cells
  have fz := D3b.out.frozen
  have c5 : ∀ o, wx3.cell? ⟨wA.heap.size, o, none⟩ = #[.pointer (some ⟨x, 0, none⟩)][o]? := D3b.out.other (wA.heap.size, #[.pointer (some ⟨x, 0, none⟩)], 123) (by simp)
  go_wp2_with fail
  refine (forms_no v2 _ k1 k2 k3 k4 k5 k6 k7).mono ?_
  rintro e wB ⟨rfl, nB⟩
  clear ml fz c5
  have DB0 := D3b.out.newer rdLaw (nB.alloc #[.bool false, .bool false, .bool false, .bool false, .bool false] 126)
  have nx := type_ne (heap_alloc_new wB (.cells #[.bool false, .bool false, .bool false, .bool false, .bool false] 126)) DB0.rc (by decide)
  obtain ⟨cx, hcx⟩ := rdLaw.typed DB0.rd
  have ny := type_ne (heap_alloc_new wB (.cells #[.bool false, .bool false, .bool false, .bool false, .bool false] 126)) hcx (by decide)
  have DB := hid (DB0.more rdLaw (wB.heap.size, #[.bool false, .bool false, .bool false, .bool false, .bool false], 126) ⟨heap_alloc_new wB _, nx, ny, by dsimp only; decide⟩)
  clear DB0 nx ny hcx nB D3b
  go_upto_region 7 with fail
  generalize wB.alloc (.cells #[.bool false, .bool false, .bool false, .bool false, .bool false] 126) = wb' at DB ⊢
  have ml : ∀ o, wb'.cell? ⟨w.heap.size, o, none⟩ = #[.int .i64 v2, .int .i64 v3, .int .i64 0, .int .i64 0, .slice none 0 0, .slice none 0 0, .int .i64 0, .int .i64 0, .string ByteArray.empty, .slice none 0 0][o]? := DB.out.cells
  have fz := DB.out.frozen
  have c5 : ∀ o, wb'.cell? ⟨wA.heap.size, o, none⟩ = #[.pointer (some ⟨x, 0, none⟩)][o]? := DB.out.other (wA.heap.size, #[.pointer (some ⟨x, 0, none⟩)], 123) (by simp)
  have c8 : ∀ o, wb'.cell? ⟨wB.heap.size, o, none⟩ = #[.bool false, .bool false, .bool false, .bool false, .bool false][o]? := DB.out.other (wB.heap.size, #[.bool false, .bool false, .bool false, .bool false, .bool false], 126) (by simp)
  have HR : Hid (decRec l = ((⟨v2, v3, 0, 0, ByteArray.empty, ByteArray.empty, 0, 0, ByteArray.empty, []⟩ : Rec), s3)) := hid (by simp [decRec, HH.out, decRest, recK, KK.out])
  have HA := hid (show RecAt wb' (⟨v2, v3, 0, 0, ByteArray.empty, ByteArray.empty, 0, 0, ByteArray.empty, []⟩ : Rec) (.slice none 0 0) (.slice none 0 0) (.slice none 0 0) from DB.out.at)
  clear E0 E1 E2 E3
  have fin := fun (h : decOk l = false) => h
  clear fin
  have OK : Hid (decOk l = (decide (s3 = some []) && decide (v0 = (l.length : Int)) && wi 1 v1 1000000 && validB (⟨v2, v3, 0, 0, ByteArray.empty, ByteArray.empty, 0, 0, ByteArray.empty, []⟩ : Rec))) := hid (by simp [decOk, HR.out, HH.out])
  by_cases f1 : s3 = some []
  case neg =>
    have g1 : decide (s3 = some []) = false := decide_eq_false f1
    have NO : Hid (decOk l = false) := hid (by rw [OK.out, g1]; rfl)
    clear f1
    go_wp2_with fail
    refine (done_any x _ _ DB.out.rd).mono ?_
    rintro e w' ⟨rfl, rfl⟩
    rw [g1]
    clear HA HR HH OK g1
    go_upto_region 31 with fail
    clear ml fz c5 c8
    have ml : ∀ o, wb'.cell? ⟨w.heap.size, o, none⟩ = #[.int .i64 v2, .int .i64 v3, .int .i64 0, .int .i64 0, .slice none 0 0, .slice none 0 0, .int .i64 0, .int .i64 0, .string ByteArray.empty, .slice none 0 0][o]? := DB.out.cells
    have fz := DB.out.frozen
    go_wp2
    have hs := set10 DB.out.rc (.int .i64 0) (.int .i64 0) (.int .i64 0) (.int .i64 0) (.slice none 0 0) (.slice none 0 0) (.int .i64 0) (.int .i64 0) (.string ⟨#[]⟩) (.slice none 0 0)
    generalize hW : World.setCell _ _ _ = W
    rw [hW] at hs
    clear hW
    (try simp only [Exit.inBlock, Exit.then])
    refine bodyPost_ret (tmp_cell_tmp_res rfl _ _ w.heap.size 70 _ (0, 0) rfl hs.1 rfl) rfl ?_
    exact dec_no_back NO.out (DB.out.last hs.2).2
  have g1 : decide (s3 = some []) = true := decide_eq_true f1
  clear f1
  by_cases f2 : v0 = (l.length : Int)
  case neg =>
    have g2 : (v0 == (l.length : Int)) = false := by simpa using f2
    have g2b : (v0 != (l.length : Int)) = true := by simpa using f2
    have g2c : decide (v0 = (l.length : Int)) = false := decide_eq_false f2
    have NO : Hid (decOk l = false) := hid (by rw [OK.out, decide_eq_false f2]; simp)
    clear f2
    go_wp2_with fail
    refine (done_any x _ _ DB.out.rd).mono ?_
    rintro e w' ⟨rfl, rfl⟩
    rw [g1]
    clear HA HR HH OK g1
    go_upto_region 31 with fail
    clear ml fz c5 c8
    have ml : ∀ o, wb'.cell? ⟨w.heap.size, o, none⟩ = #[.int .i64 v2, .int .i64 v3, .int .i64 0, .int .i64 0, .slice none 0 0, .slice none 0 0, .int .i64 0, .int .i64 0, .string ByteArray.empty, .slice none 0 0][o]? := DB.out.cells
    have fz := DB.out.frozen
    go_wp2
    have hs := set10 DB.out.rc (.int .i64 0) (.int .i64 0) (.int .i64 0) (.int .i64 0) (.slice none 0 0) (.slice none 0 0) (.int .i64 0) (.int .i64 0) (.string ⟨#[]⟩) (.slice none 0 0)
    generalize hW : World.setCell _ _ _ = W
    rw [hW] at hs
    clear hW
    (try simp only [Exit.inBlock, Exit.then])
    refine bodyPost_ret (tmp_cell_tmp_res rfl _ _ w.heap.size 70 _ (0, 0) rfl hs.1 rfl) rfl ?_
    exact dec_no_back NO.out (DB.out.last hs.2).2
  have F2 := hid f2
  have g2 : (v0 == (l.length : Int)) = true := by simpa using f2
  have g2b : (v0 != (l.length : Int)) = false := by simpa using f2
  clear f2
  by_cases g3 : wi 1 v1 1000000 = true
  case neg =>
    have g3 : wi 1 v1 1000000 = false := by simpa using g3
    have NO : Hid (decOk l = false) := hid (by rw [OK.out, g3]; simp)
    go_wp2_with fail
    refine (done_any x _ _ DB.out.rd).mono ?_
    rintro e w' ⟨rfl, rfl⟩
    rw [g1]
    go_wp2_with fail
    refine (within_any _ _ _ _).mono ?_
    rintro e w' ⟨rfl, rfl⟩
    rw [g3]
    clear HA HR HH OK g1 g2 g3
    go_upto_region 31 with fail
    clear ml fz c5 c8
    have ml : ∀ o, wb'.cell? ⟨w.heap.size, o, none⟩ = #[.int .i64 v2, .int .i64 v3, .int .i64 0, .int .i64 0, .slice none 0 0, .slice none 0 0, .int .i64 0, .int .i64 0, .string ByteArray.empty, .slice none 0 0][o]? := DB.out.cells
    have fz := DB.out.frozen
    go_wp2
    have hs := set10 DB.out.rc (.int .i64 0) (.int .i64 0) (.int .i64 0) (.int .i64 0) (.slice none 0 0) (.slice none 0 0) (.int .i64 0) (.int .i64 0) (.string ⟨#[]⟩) (.slice none 0 0)
    generalize hW : World.setCell _ _ _ = W
    rw [hW] at hs
    clear hW
    (try simp only [Exit.inBlock, Exit.then])
    refine bodyPost_ret (tmp_cell_tmp_res rfl _ _ w.heap.size 70 _ (0, 0) rfl hs.1 rfl) rfl ?_
    exact dec_no_back NO.out (DB.out.last hs.2).2
  by_cases g4 : validB (⟨v2, v3, 0, 0, ByteArray.empty, ByteArray.empty, 0, 0, ByteArray.empty, []⟩ : Rec) = true
  case neg =>
    have g4 : validB (⟨v2, v3, 0, 0, ByteArray.empty, ByteArray.empty, 0, 0, ByteArray.empty, []⟩ : Rec) = false := by simpa using g4
    have NO : Hid (decOk l = false) := hid (by rw [OK.out, g4]; simp)
    go_wp2_with fail
    refine (done_any x _ _ DB.out.rd).mono ?_
    rintro e w' ⟨rfl, rfl⟩
    rw [g1]
    go_wp2_with fail
    refine (within_any _ _ _ _).mono ?_
    rintro e w' ⟨rfl, rfl⟩
    rw [g3]
    go_wp2_with fail
    refine (valid_any _ _ _ _ _ HA.out).mono ?_
    rintro e wv ⟨rfl, nv⟩
    rw [g4]
    have DV := hid (DB.out.newer rdLaw nv)
    clear nv
    clear HA HR HH OK g1 g2 g3 g4
    go_upto_region 31 with fail
    clear ml fz c5 c8
    have ml : ∀ o, wv.cell? ⟨w.heap.size, o, none⟩ = #[.int .i64 v2, .int .i64 v3, .int .i64 0, .int .i64 0, .slice none 0 0, .slice none 0 0, .int .i64 0, .int .i64 0, .string ByteArray.empty, .slice none 0 0][o]? := DV.out.cells
    have fz := DV.out.frozen
    go_wp2
    have hs := set10 DV.out.rc (.int .i64 0) (.int .i64 0) (.int .i64 0) (.int .i64 0) (.slice none 0 0) (.slice none 0 0) (.int .i64 0) (.int .i64 0) (.string ⟨#[]⟩) (.slice none 0 0)
    generalize hW : World.setCell _ _ _ = W
    rw [hW] at hs
    clear hW
    (try simp only [Exit.inBlock, Exit.then])
    refine bodyPost_ret (tmp_cell_tmp_res rfl _ _ w.heap.size 70 _ (0, 0) rfl hs.1 rfl) rfl ?_
    exact dec_no_back NO.out (DV.out.last hs.2).2
  have YES : Hid (decOk l = true) := hid (by rw [OK.out, g1, decide_eq_true F2.out, g3, g4]; rfl)
  go_wp2_with fail
  refine (done_any x _ _ DB.out.rd).mono ?_
  rintro e w' ⟨rfl, rfl⟩
  rw [g1]
  go_wp2_with fail
  refine (within_any _ _ _ _).mono ?_
  rintro e w' ⟨rfl, rfl⟩
  rw [g3]
  go_wp2_with fail
  refine (valid_any _ _ _ _ _ HA.out).mono ?_
  rintro e wv ⟨rfl, nv⟩
  rw [g4]
  have DV := hid (DB.out.newer rdLaw nv)
  clear nv ml fz c5 c8 g1 g2 g2b g3 g4
  have ml : ∀ o, wv.cell? ⟨w.heap.size, o, none⟩ = #[.int .i64 v2, .int .i64 v3, .int .i64 0, .int .i64 0, .slice none 0 0, .slice none 0 0, .int .i64 0, .int .i64 0, .string ByteArray.empty, .slice none 0 0][o]? := DV.out.cells
  have fz := DV.out.frozen
  go_upto_region 32 with fail
  go_region
  go_wp2
  have hs := set10 DV.out.rc (.int .i64 v2) (.int .i64 v3) (.int .i64 0) (.int .i64 0) (.slice none 0 0) (.slice none 0 0) (.int .i64 0) (.int .i64 0) (.string ByteArray.empty) (.slice none 0 0)
  generalize hW : World.setCell _ _ _ = W
  rw [hW] at hs
  clear hW
  (try simp only [Exit.inBlock, Exit.then])
  refine bodyPost_ret (tmp_cell_tmp_res rfl _ _ w.heap.size 70 _ (0, 0) rfl hs.1 rfl) rfl ?_
  exact dec_yes_back YES.out HR.out (by rw [HH.out]) ((DV.out.last hs.2).1.new (New.refl W).drew) (DV.out.last hs.2).2.drew
set_option maxRecDepth 100000 in
set_option maxHeartbeats 8000000 in
theorem decode_1 (bv : Value) (l : List UInt8) (w : World) (h : Bytes w bv (bytesOf l)) (hl : l.length ≤ 1000000) (hk : (decHead l).kind = 1) : Calls Tryz.prog 58 #[bv] w (DecBack l w) := by
  have HB := hid h
  obtain ⟨bp, bc, rfl, b1, b2, _⟩ := h
  rw [bytesOf_size] at b1 HB ⊢
  obtain ⟨v0, s0, E0⟩ : ∃ v t, rdNum (some l) = (v, t) := ⟨_, _, rfl⟩
  obtain ⟨v1, s1, E1⟩ : ∃ v t, rdNum s0 = (v, t) := ⟨_, _, rfl⟩
  obtain ⟨v2, s2, E2⟩ : ∃ v t, rdSmall s1 = (v, t) := ⟨_, _, rfl⟩
  obtain ⟨v3, s3, E3⟩ : ∃ v t, rdNum s2 = (v, t) := ⟨_, _, rfl⟩
  obtain ⟨v4, s4, E4⟩ : ∃ v t, rdNum s3 = (v, t) := ⟨_, _, rfl⟩
  obtain ⟨v5, s5, E5⟩ : ∃ v t, rdSmall s4 = (v, t) := ⟨_, _, rfl⟩
  obtain ⟨v6, s6, E6⟩ : ∃ v t, rdText s5 = (v, t) := ⟨_, _, rfl⟩
  obtain ⟨v7, s7, E7⟩ : ∃ v t, rdText s6 = (v, t) := ⟨_, _, rfl⟩
  have hv2 : v2 = 1 := by simpa [decHead, E0, E1, E2] using hk
  subst hv2
  clear hk
  have HH : Hid (decHead l = ⟨v0, v1, 1, v3, s3⟩) := hid (by simp [decHead, E0, E1, E2, E3])
  have E0 := hid E0
  have E1 := hid E1
  have E2 := hid E2
  have E3 := hid E3
  have E4 := hid E4
  have E5 := hid E5
  have E6 := hid E6
  have T6 : Hid (v6.size ≤ 1000000) := hid (rdText_size E6.out)
  have E7 := hid E7
  have T7 : Hid (v7.size ≤ 1000000) := hid (rdText_size E7.out)
  go_enter Tryz.func58, Tryz.ntmps58
  go_wp2_with fail
  refine (newReader_any _ l _ (HB.out.renew ((New.refl w).alloc _ _)) hl).mono ?_
  rintro e wA ⟨x, rfl, hr, hn, hx⟩
  have hx' : w.heap.size ≤ x := by simp at hx; omega
  have D0 := DS.start rdLaw (w0 := w) hn hr hx'
  have nx := type_ne (heap_alloc_new wA (.cells #[.pointer (some ⟨x, 0, none⟩)] 123)) ((D0.newer rdLaw ((New.refl wA).alloc #[.pointer (some ⟨x, 0, none⟩)] 123))).rc (by decide)
  obtain ⟨cx, hcx⟩ := rdLaw.typed (D0.newer rdLaw ((New.refl wA).alloc #[.pointer (some ⟨x, 0, none⟩)] 123)).rd
  have ny := type_ne (heap_alloc_new wA (.cells #[.pointer (some ⟨x, 0, none⟩)] 123)) hcx (by decide)
  have DA := hid ((D0.newer rdLaw ((New.refl wA).alloc #[.pointer (some ⟨x, 0, none⟩)] 123)).more rdLaw (wA.heap.size, #[.pointer (some ⟨x, 0, none⟩)], 123) ⟨heap_alloc_new wA _, nx, ny, by dsimp only; decide⟩)
  clear D0 nx ny hcx hr hn hx hx'
  go_upto_region 2 with fail
  generalize wA.alloc (.cells #[.pointer (some ⟨x, 0, none⟩)] 123) = w0' at DA ⊢
  have ml : ∀ o, w0'.cell? ⟨w.heap.size, o, none⟩ = #[.int .i64 0, .int .i64 0, .int .i64 0, .int .i64 0, .slice none 0 0, .slice none 0 0, .int .i64 0, .int .i64 0, .string ByteArray.empty, .slice none 0 0][o]? := DA.out.cells
  have fz := DA.out.frozen
  have c5 : ∀ o, w0'.cell? ⟨wA.heap.size, o, none⟩ = #[.pointer (some ⟨x, 0, none⟩)][o]? := DA.out.other (wA.heap.size, #[.pointer (some ⟨x, 0, none⟩)], 123) (by simp)
  go_wp2_with fail
  refine (number_at x _ _ _ _ E0.out DA.out.rd).mono ?_
  rintro e wr0 ⟨⟨er, rfl⟩, hr, ht⟩
  clear ml fz c5
  have D0a := hid (DA.out.read rdLaw hr ht)
  clear hr ht DA
  have ml : ∀ o, wr0.cell? ⟨w.heap.size, o, none⟩ = #[.int .i64 0, .int .i64 0, .int .i64 0, .int .i64 0, .slice none 0 0, .slice none 0 0, .int .i64 0, .int .i64 0, .string ByteArray.empty, .slice none 0 0][o]? := D0a.out.cells
  have fz := D0a.out.frozen
  have c5 : ∀ o, wr0.cell? ⟨wA.heap.size, o, none⟩ = #[.pointer (some ⟨x, 0, none⟩)][o]? := D0a.out.other (wA.heap.size, #[.pointer (some ⟨x, 0, none⟩)], 123) (by simp)
  go_wp2_with fail
  refine (number_at x _ _ _ _ E1.out D0a.out.rd).mono ?_
  rintro e wr1 ⟨⟨er, rfl⟩, hr, ht⟩
  clear ml fz c5
  have D1a := hid (D0a.out.read rdLaw hr ht)
  clear hr ht D0a
  have ml : ∀ o, wr1.cell? ⟨w.heap.size, o, none⟩ = #[.int .i64 0, .int .i64 0, .int .i64 0, .int .i64 0, .slice none 0 0, .slice none 0 0, .int .i64 0, .int .i64 0, .string ByteArray.empty, .slice none 0 0][o]? := D1a.out.cells
  have fz := D1a.out.frozen
  have c5 : ∀ o, wr1.cell? ⟨wA.heap.size, o, none⟩ = #[.pointer (some ⟨x, 0, none⟩)][o]? := D1a.out.other (wA.heap.size, #[.pointer (some ⟨x, 0, none⟩)], 123) (by simp)
  go_wp2_with fail
  refine (small_at x _ _ _ _ E2.out D1a.out.rd).mono ?_
  rintro e wr2 ⟨⟨er, rfl⟩, hr, ht⟩
  clear ml fz c5
  have D2a := hid (D1a.out.read rdLaw hr ht)
  clear hr ht D1a
  have ml : ∀ o, wr2.cell? ⟨w.heap.size, o, none⟩ = #[.int .i64 0, .int .i64 0, .int .i64 0, .int .i64 0, .slice none 0 0, .slice none 0 0, .int .i64 0, .int .i64 0, .string ByteArray.empty, .slice none 0 0][o]? := D2a.out.cells
  have fz := D2a.out.frozen
  have c5 : ∀ o, wr2.cell? ⟨wA.heap.size, o, none⟩ = #[.pointer (some ⟨x, 0, none⟩)][o]? := D2a.out.other (wA.heap.size, #[.pointer (some ⟨x, 0, none⟩)], 123) (by simp)
  go_upto_region 5 with fail
  clear ml fz c5
  have D2b := hid (D2a.out.kind rdLaw 1)
  clear D2a
  generalize wr2.setCell ⟨w.heap.size, 0, none⟩ (.int .i64 1) = wx2 at D2b ⊢
  have ml : ∀ o, wx2.cell? ⟨w.heap.size, o, none⟩ = #[.int .i64 1, .int .i64 0, .int .i64 0, .int .i64 0, .slice none 0 0, .slice none 0 0, .int .i64 0, .int .i64 0, .string ByteArray.empty, .slice none 0 0][o]? := D2b.out.cells
  have fz := D2b.out.frozen
  have c5 : ∀ o, wx2.cell? ⟨wA.heap.size, o, none⟩ = #[.pointer (some ⟨x, 0, none⟩)][o]? := D2b.out.other (wA.heap.size, #[.pointer (some ⟨x, 0, none⟩)], 123) (by simp)
  go_wp2_with fail
  refine (number_at x _ _ _ _ E3.out D2b.out.rd).mono ?_
  rintro e wr3 ⟨⟨er, rfl⟩, hr, ht⟩
  clear ml fz c5
  have D3a := hid (D2b.out.read rdLaw hr ht)
  clear hr ht D2b
  have ml : ∀ o, wr3.cell? ⟨w.heap.size, o, none⟩ = #[.int .i64 1, .int .i64 0, .int .i64 0, .int .i64 0, .slice none 0 0, .slice none 0 0, .int .i64 0, .int .i64 0, .string ByteArray.empty, .slice none 0 0][o]? := D3a.out.cells
  have fz := D3a.out.frozen
  have c5 : ∀ o, wr3.cell? ⟨wA.heap.size, o, none⟩ = #[.pointer (some ⟨x, 0, none⟩)][o]? := D3a.out.other (wA.heap.size, #[.pointer (some ⟨x, 0, none⟩)], 123) (by simp)
  go_upto_region 6 with fail
  clear ml fz c5
  have D3b := hid (D3a.out.unit rdLaw v3)
  clear D3a
  generalize wr3.setCell ⟨w.heap.size, 1, none⟩ (.int .i64 v3) = wx3 at D3b ⊢
  have ml : ∀ o, wx3.cell? ⟨w.heap.size, o, none⟩ = #[.int .i64 1, .int .i64 v3, .int .i64 0, .int .i64 0, .slice none 0 0, .slice none 0 0, .int .i64 0, .int .i64 0, .string ByteArray.empty, .slice none 0 0][o]? := D3b.out.cells
  have fz := D3b.out.frozen
  have c5 : ∀ o, wx3.cell? ⟨wA.heap.size, o, none⟩ = #[.pointer (some ⟨x, 0, none⟩)][o]? := D3b.out.other (wA.heap.size, #[.pointer (some ⟨x, 0, none⟩)], 123) (by simp)
  go_wp2_with fail
  refine (forms_1 _).mono ?_
  rintro e wB ⟨rfl, nB⟩
  clear ml fz c5
  have DB0 := D3b.out.newer rdLaw (nB.alloc #[.bool true, .bool true, .bool false, .bool false, .bool false] 126)
  have nx := type_ne (heap_alloc_new wB (.cells #[.bool true, .bool true, .bool false, .bool false, .bool false] 126)) DB0.rc (by decide)
  obtain ⟨cx, hcx⟩ := rdLaw.typed DB0.rd
  have ny := type_ne (heap_alloc_new wB (.cells #[.bool true, .bool true, .bool false, .bool false, .bool false] 126)) hcx (by decide)
  have DB := hid (DB0.more rdLaw (wB.heap.size, #[.bool true, .bool true, .bool false, .bool false, .bool false], 126) ⟨heap_alloc_new wB _, nx, ny, by dsimp only; decide⟩)
  clear DB0 nx ny hcx nB D3b
  go_upto_region 7 with fail
  generalize wB.alloc (.cells #[.bool true, .bool true, .bool false, .bool false, .bool false] 126) = wb' at DB ⊢
  have ml : ∀ o, wb'.cell? ⟨w.heap.size, o, none⟩ = #[.int .i64 1, .int .i64 v3, .int .i64 0, .int .i64 0, .slice none 0 0, .slice none 0 0, .int .i64 0, .int .i64 0, .string ByteArray.empty, .slice none 0 0][o]? := DB.out.cells
  have fz := DB.out.frozen
  have c5 : ∀ o, wb'.cell? ⟨wA.heap.size, o, none⟩ = #[.pointer (some ⟨x, 0, none⟩)][o]? := DB.out.other (wA.heap.size, #[.pointer (some ⟨x, 0, none⟩)], 123) (by simp)
  have c8 : ∀ o, wb'.cell? ⟨wB.heap.size, o, none⟩ = #[.bool true, .bool true, .bool false, .bool false, .bool false][o]? := DB.out.other (wB.heap.size, #[.bool true, .bool true, .bool false, .bool false, .bool false], 126) (by simp)
  go_wp2_with fail
  refine (number_at x _ _ _ _ E4.out DB.out.rd).mono ?_
  rintro e wr4 ⟨⟨er, rfl⟩, hr, ht⟩
  clear ml fz c5 c8
  have D4a := hid (DB.out.read rdLaw hr ht)
  clear hr ht DB
  have ml : ∀ o, wr4.cell? ⟨w.heap.size, o, none⟩ = #[.int .i64 1, .int .i64 v3, .int .i64 0, .int .i64 0, .slice none 0 0, .slice none 0 0, .int .i64 0, .int .i64 0, .string ByteArray.empty, .slice none 0 0][o]? := D4a.out.cells
  have fz := D4a.out.frozen
  have c5 : ∀ o, wr4.cell? ⟨wA.heap.size, o, none⟩ = #[.pointer (some ⟨x, 0, none⟩)][o]? := D4a.out.other (wA.heap.size, #[.pointer (some ⟨x, 0, none⟩)], 123) (by simp)
  have c8 : ∀ o, wr4.cell? ⟨wB.heap.size, o, none⟩ = #[.bool true, .bool true, .bool false, .bool false, .bool false][o]? := D4a.out.other (wB.heap.size, #[.bool true, .bool true, .bool false, .bool false, .bool false], 126) (by simp)
  go_upto_region 10 with fail
  clear ml fz c5 c8
  have D4b := hid (D4a.out.page rdLaw v4)
  clear D4a
  generalize wr4.setCell ⟨w.heap.size, 2, none⟩ (.int .i64 v4) = wx4 at D4b ⊢
  have ml : ∀ o, wx4.cell? ⟨w.heap.size, o, none⟩ = #[.int .i64 1, .int .i64 v3, .int .i64 v4, .int .i64 0, .slice none 0 0, .slice none 0 0, .int .i64 0, .int .i64 0, .string ByteArray.empty, .slice none 0 0][o]? := D4b.out.cells
  have fz := D4b.out.frozen
  have c5 : ∀ o, wx4.cell? ⟨wA.heap.size, o, none⟩ = #[.pointer (some ⟨x, 0, none⟩)][o]? := D4b.out.other (wA.heap.size, #[.pointer (some ⟨x, 0, none⟩)], 123) (by simp)
  have c8 : ∀ o, wx4.cell? ⟨wB.heap.size, o, none⟩ = #[.bool true, .bool true, .bool false, .bool false, .bool false][o]? := D4b.out.other (wB.heap.size, #[.bool true, .bool true, .bool false, .bool false, .bool false], 126) (by simp)
  go_wp2_with fail
  refine (small_at x _ _ _ _ E5.out D4b.out.rd).mono ?_
  rintro e wr5 ⟨⟨er, rfl⟩, hr, ht⟩
  clear ml fz c5 c8
  have D5a := hid (D4b.out.read rdLaw hr ht)
  clear hr ht D4b
  have ml : ∀ o, wr5.cell? ⟨w.heap.size, o, none⟩ = #[.int .i64 1, .int .i64 v3, .int .i64 v4, .int .i64 0, .slice none 0 0, .slice none 0 0, .int .i64 0, .int .i64 0, .string ByteArray.empty, .slice none 0 0][o]? := D5a.out.cells
  have fz := D5a.out.frozen
  have c5 : ∀ o, wr5.cell? ⟨wA.heap.size, o, none⟩ = #[.pointer (some ⟨x, 0, none⟩)][o]? := D5a.out.other (wA.heap.size, #[.pointer (some ⟨x, 0, none⟩)], 123) (by simp)
  have c8 : ∀ o, wr5.cell? ⟨wB.heap.size, o, none⟩ = #[.bool true, .bool true, .bool false, .bool false, .bool false][o]? := D5a.out.other (wB.heap.size, #[.bool true, .bool true, .bool false, .bool false, .bool false], 126) (by simp)
  go_upto_region 11 with fail
  clear ml fz c5 c8
  have D5b := hid (D5a.out.at_ rdLaw v5)
  clear D5a
  generalize wr5.setCell ⟨w.heap.size, 3, none⟩ (.int .i64 v5) = wx5 at D5b ⊢
  have ml : ∀ o, wx5.cell? ⟨w.heap.size, o, none⟩ = #[.int .i64 1, .int .i64 v3, .int .i64 v4, .int .i64 v5, .slice none 0 0, .slice none 0 0, .int .i64 0, .int .i64 0, .string ByteArray.empty, .slice none 0 0][o]? := D5b.out.cells
  have fz := D5b.out.frozen
  have c5 : ∀ o, wx5.cell? ⟨wA.heap.size, o, none⟩ = #[.pointer (some ⟨x, 0, none⟩)][o]? := D5b.out.other (wA.heap.size, #[.pointer (some ⟨x, 0, none⟩)], 123) (by simp)
  have c8 : ∀ o, wx5.cell? ⟨wB.heap.size, o, none⟩ = #[.bool true, .bool true, .bool false, .bool false, .bool false][o]? := D5b.out.other (wB.heap.size, #[.bool true, .bool true, .bool false, .bool false, .bool false], 126) (by simp)
  go_wp2_with fail
  refine (txt87_at _ x _ _ _ _ E6.out (c5 0) D5b.out.rd).mono ?_
  rintro e wr6 ⟨rfl, hr, ht⟩
  clear ml fz c5 c8
  have D6a := hid (D5b.out.read rdLaw hr ht)
  clear hr ht D5b
  have ml : ∀ o, wr6.cell? ⟨w.heap.size, o, none⟩ = #[.int .i64 1, .int .i64 v3, .int .i64 v4, .int .i64 v5, .slice none 0 0, .slice none 0 0, .int .i64 0, .int .i64 0, .string ByteArray.empty, .slice none 0 0][o]? := D6a.out.cells
  have fz := D6a.out.frozen
  have c5 : ∀ o, wr6.cell? ⟨wA.heap.size, o, none⟩ = #[.pointer (some ⟨x, 0, none⟩)][o]? := D6a.out.other (wA.heap.size, #[.pointer (some ⟨x, 0, none⟩)], 123) (by simp)
  have c8 : ∀ o, wr6.cell? ⟨wB.heap.size, o, none⟩ = #[.bool true, .bool true, .bool false, .bool false, .bool false][o]? := D6a.out.other (wB.heap.size, #[.bool true, .bool true, .bool false, .bool false, .bool false], 126) (by simp)
  obtain ⟨p6, m6, q6, wc6, kc, hc, hn⟩ := conv_made wr6 v6 T6.out
  have HC := hid hc
  have HN := hid hn
  clear hc hn
  have mlc : ∀ o, wc6.cell? ⟨w.heap.size, o, none⟩ = #[.int .i64 1, .int .i64 v3, .int .i64 v4, .int .i64 v5, .slice none 0 0, .slice none 0 0, .int .i64 0, .int .i64 0, .string ByteArray.empty, .slice none 0 0][o]? := (D6a.out.newer rdLaw HN.out).cells
  have fzc := (D6a.out.newer rdLaw HN.out).frozen
  go_upto_region 13 with fail
  clear kc mlc fzc
  clear ml fz c5 c8
  have D6b := hid ((D6a.out.newer rdLaw HN.out).before rdLaw (.slice p6 m6 q6) v6 HC.out)
  clear D6a HN HC
  generalize wc6.setCell ⟨w.heap.size, 4, none⟩ (.slice p6 m6 q6) = wx6 at D6b ⊢
  have ml : ∀ o, wx6.cell? ⟨w.heap.size, o, none⟩ = #[.int .i64 1, .int .i64 v3, .int .i64 v4, .int .i64 v5, .slice p6 m6 q6, .slice none 0 0, .int .i64 0, .int .i64 0, .string ByteArray.empty, .slice none 0 0][o]? := D6b.out.cells
  have fz := D6b.out.frozen
  have c5 : ∀ o, wx6.cell? ⟨wA.heap.size, o, none⟩ = #[.pointer (some ⟨x, 0, none⟩)][o]? := D6b.out.other (wA.heap.size, #[.pointer (some ⟨x, 0, none⟩)], 123) (by simp)
  have c8 : ∀ o, wx6.cell? ⟨wB.heap.size, o, none⟩ = #[.bool true, .bool true, .bool false, .bool false, .bool false][o]? := D6b.out.other (wB.heap.size, #[.bool true, .bool true, .bool false, .bool false, .bool false], 126) (by simp)
  go_wp2_with fail
  refine (txt87_at _ x _ _ _ _ E7.out (c5 0) D6b.out.rd).mono ?_
  rintro e wr7 ⟨rfl, hr, ht⟩
  clear ml fz c5 c8
  have D7a := hid (D6b.out.read rdLaw hr ht)
  clear hr ht D6b
  have ml : ∀ o, wr7.cell? ⟨w.heap.size, o, none⟩ = #[.int .i64 1, .int .i64 v3, .int .i64 v4, .int .i64 v5, .slice p6 m6 q6, .slice none 0 0, .int .i64 0, .int .i64 0, .string ByteArray.empty, .slice none 0 0][o]? := D7a.out.cells
  have fz := D7a.out.frozen
  have c5 : ∀ o, wr7.cell? ⟨wA.heap.size, o, none⟩ = #[.pointer (some ⟨x, 0, none⟩)][o]? := D7a.out.other (wA.heap.size, #[.pointer (some ⟨x, 0, none⟩)], 123) (by simp)
  have c8 : ∀ o, wr7.cell? ⟨wB.heap.size, o, none⟩ = #[.bool true, .bool true, .bool false, .bool false, .bool false][o]? := D7a.out.other (wB.heap.size, #[.bool true, .bool true, .bool false, .bool false, .bool false], 126) (by simp)
  obtain ⟨p7, m7, q7, wc7, kc, hc, hn⟩ := conv_made wr7 v7 T7.out
  have HC := hid hc
  have HN := hid hn
  clear hc hn
  have mlc : ∀ o, wc7.cell? ⟨w.heap.size, o, none⟩ = #[.int .i64 1, .int .i64 v3, .int .i64 v4, .int .i64 v5, .slice p6 m6 q6, .slice none 0 0, .int .i64 0, .int .i64 0, .string ByteArray.empty, .slice none 0 0][o]? := (D7a.out.newer rdLaw HN.out).cells
  have fzc := (D7a.out.newer rdLaw HN.out).frozen
  go_upto_region 15 with fail
  clear kc mlc fzc
  clear ml fz c5 c8
  have D7b := hid ((D7a.out.newer rdLaw HN.out).after rdLaw (.slice p7 m7 q7) v7 HC.out)
  clear D7a HN HC
  generalize wc7.setCell ⟨w.heap.size, 5, none⟩ (.slice p7 m7 q7) = wx7 at D7b ⊢
  have ml : ∀ o, wx7.cell? ⟨w.heap.size, o, none⟩ = #[.int .i64 1, .int .i64 v3, .int .i64 v4, .int .i64 v5, .slice p6 m6 q6, .slice p7 m7 q7, .int .i64 0, .int .i64 0, .string ByteArray.empty, .slice none 0 0][o]? := D7b.out.cells
  have fz := D7b.out.frozen
  have c5 : ∀ o, wx7.cell? ⟨wA.heap.size, o, none⟩ = #[.pointer (some ⟨x, 0, none⟩)][o]? := D7b.out.other (wA.heap.size, #[.pointer (some ⟨x, 0, none⟩)], 123) (by simp)
  have c8 : ∀ o, wx7.cell? ⟨wB.heap.size, o, none⟩ = #[.bool true, .bool true, .bool false, .bool false, .bool false][o]? := D7b.out.other (wB.heap.size, #[.bool true, .bool true, .bool false, .bool false, .bool false], 126) (by simp)
  have HR : Hid (decRec l = ((⟨1, v3, v4, v5, v6, v7, 0, 0, ByteArray.empty, []⟩ : Rec), s7)) := hid (by simp [decRec, HH.out, decRest, recK, E4.out, E5.out, E6.out, E7.out])
  have HA := hid (show RecAt wx7 (⟨1, v3, v4, v5, v6, v7, 0, 0, ByteArray.empty, []⟩ : Rec) (.slice p6 m6 q6) (.slice p7 m7 q7) (.slice none 0 0) from D7b.out.at)
  clear E0 E1 E2 E3 E4 E5 E6 E7
  have fin := fun (h : decOk l = false) => h
  clear fin
  have OK : Hid (decOk l = (decide (s7 = some []) && decide (v0 = (l.length : Int)) && wi 1 v1 1000000 && validB (⟨1, v3, v4, v5, v6, v7, 0, 0, ByteArray.empty, []⟩ : Rec))) := hid (by simp [decOk, HR.out, HH.out])
  by_cases f1 : s7 = some []
  case neg =>
    have g1 : decide (s7 = some []) = false := decide_eq_false f1
    have NO : Hid (decOk l = false) := hid (by rw [OK.out, g1]; rfl)
    clear f1
    go_wp2_with fail
    refine (done_any x _ _ D7b.out.rd).mono ?_
    rintro e w' ⟨rfl, rfl⟩
    rw [g1]
    clear HA HR HH OK g1
    go_upto_region 31 with fail
    clear ml fz c5 c8
    have ml : ∀ o, wx7.cell? ⟨w.heap.size, o, none⟩ = #[.int .i64 1, .int .i64 v3, .int .i64 v4, .int .i64 v5, .slice p6 m6 q6, .slice p7 m7 q7, .int .i64 0, .int .i64 0, .string ByteArray.empty, .slice none 0 0][o]? := D7b.out.cells
    have fz := D7b.out.frozen
    go_wp2
    have hs := set10 D7b.out.rc (.int .i64 0) (.int .i64 0) (.int .i64 0) (.int .i64 0) (.slice none 0 0) (.slice none 0 0) (.int .i64 0) (.int .i64 0) (.string ⟨#[]⟩) (.slice none 0 0)
    generalize hW : World.setCell _ _ _ = W
    rw [hW] at hs
    clear hW
    (try simp only [Exit.inBlock, Exit.then])
    refine bodyPost_ret (tmp_cell_tmp_res rfl _ _ w.heap.size 70 _ (0, 0) rfl hs.1 rfl) rfl ?_
    exact dec_no_back NO.out (D7b.out.last hs.2).2
  have g1 : decide (s7 = some []) = true := decide_eq_true f1
  clear f1
  by_cases f2 : v0 = (l.length : Int)
  case neg =>
    have g2 : (v0 == (l.length : Int)) = false := by simpa using f2
    have g2b : (v0 != (l.length : Int)) = true := by simpa using f2
    have g2c : decide (v0 = (l.length : Int)) = false := decide_eq_false f2
    have NO : Hid (decOk l = false) := hid (by rw [OK.out, decide_eq_false f2]; simp)
    clear f2
    go_wp2_with fail
    refine (done_any x _ _ D7b.out.rd).mono ?_
    rintro e w' ⟨rfl, rfl⟩
    rw [g1]
    clear HA HR HH OK g1
    go_upto_region 31 with fail
    clear ml fz c5 c8
    have ml : ∀ o, wx7.cell? ⟨w.heap.size, o, none⟩ = #[.int .i64 1, .int .i64 v3, .int .i64 v4, .int .i64 v5, .slice p6 m6 q6, .slice p7 m7 q7, .int .i64 0, .int .i64 0, .string ByteArray.empty, .slice none 0 0][o]? := D7b.out.cells
    have fz := D7b.out.frozen
    go_wp2
    have hs := set10 D7b.out.rc (.int .i64 0) (.int .i64 0) (.int .i64 0) (.int .i64 0) (.slice none 0 0) (.slice none 0 0) (.int .i64 0) (.int .i64 0) (.string ⟨#[]⟩) (.slice none 0 0)
    generalize hW : World.setCell _ _ _ = W
    rw [hW] at hs
    clear hW
    (try simp only [Exit.inBlock, Exit.then])
    refine bodyPost_ret (tmp_cell_tmp_res rfl _ _ w.heap.size 70 _ (0, 0) rfl hs.1 rfl) rfl ?_
    exact dec_no_back NO.out (D7b.out.last hs.2).2
  have F2 := hid f2
  have g2 : (v0 == (l.length : Int)) = true := by simpa using f2
  have g2b : (v0 != (l.length : Int)) = false := by simpa using f2
  clear f2
  by_cases g3 : wi 1 v1 1000000 = true
  case neg =>
    have g3 : wi 1 v1 1000000 = false := by simpa using g3
    have NO : Hid (decOk l = false) := hid (by rw [OK.out, g3]; simp)
    go_wp2_with fail
    refine (done_any x _ _ D7b.out.rd).mono ?_
    rintro e w' ⟨rfl, rfl⟩
    rw [g1]
    go_wp2_with fail
    refine (within_any _ _ _ _).mono ?_
    rintro e w' ⟨rfl, rfl⟩
    rw [g3]
    clear HA HR HH OK g1 g2 g3
    go_upto_region 31 with fail
    clear ml fz c5 c8
    have ml : ∀ o, wx7.cell? ⟨w.heap.size, o, none⟩ = #[.int .i64 1, .int .i64 v3, .int .i64 v4, .int .i64 v5, .slice p6 m6 q6, .slice p7 m7 q7, .int .i64 0, .int .i64 0, .string ByteArray.empty, .slice none 0 0][o]? := D7b.out.cells
    have fz := D7b.out.frozen
    go_wp2
    have hs := set10 D7b.out.rc (.int .i64 0) (.int .i64 0) (.int .i64 0) (.int .i64 0) (.slice none 0 0) (.slice none 0 0) (.int .i64 0) (.int .i64 0) (.string ⟨#[]⟩) (.slice none 0 0)
    generalize hW : World.setCell _ _ _ = W
    rw [hW] at hs
    clear hW
    (try simp only [Exit.inBlock, Exit.then])
    refine bodyPost_ret (tmp_cell_tmp_res rfl _ _ w.heap.size 70 _ (0, 0) rfl hs.1 rfl) rfl ?_
    exact dec_no_back NO.out (D7b.out.last hs.2).2
  by_cases g4 : validB (⟨1, v3, v4, v5, v6, v7, 0, 0, ByteArray.empty, []⟩ : Rec) = true
  case neg =>
    have g4 : validB (⟨1, v3, v4, v5, v6, v7, 0, 0, ByteArray.empty, []⟩ : Rec) = false := by simpa using g4
    have NO : Hid (decOk l = false) := hid (by rw [OK.out, g4]; simp)
    go_wp2_with fail
    refine (done_any x _ _ D7b.out.rd).mono ?_
    rintro e w' ⟨rfl, rfl⟩
    rw [g1]
    go_wp2_with fail
    refine (within_any _ _ _ _).mono ?_
    rintro e w' ⟨rfl, rfl⟩
    rw [g3]
    go_wp2_with fail
    refine (valid_any _ _ _ _ _ HA.out).mono ?_
    rintro e wv ⟨rfl, nv⟩
    rw [g4]
    have DV := hid (D7b.out.newer rdLaw nv)
    clear nv
    clear HA HR HH OK g1 g2 g3 g4
    go_upto_region 31 with fail
    clear ml fz c5 c8
    have ml : ∀ o, wv.cell? ⟨w.heap.size, o, none⟩ = #[.int .i64 1, .int .i64 v3, .int .i64 v4, .int .i64 v5, .slice p6 m6 q6, .slice p7 m7 q7, .int .i64 0, .int .i64 0, .string ByteArray.empty, .slice none 0 0][o]? := DV.out.cells
    have fz := DV.out.frozen
    go_wp2
    have hs := set10 DV.out.rc (.int .i64 0) (.int .i64 0) (.int .i64 0) (.int .i64 0) (.slice none 0 0) (.slice none 0 0) (.int .i64 0) (.int .i64 0) (.string ⟨#[]⟩) (.slice none 0 0)
    generalize hW : World.setCell _ _ _ = W
    rw [hW] at hs
    clear hW
    (try simp only [Exit.inBlock, Exit.then])
    refine bodyPost_ret (tmp_cell_tmp_res rfl _ _ w.heap.size 70 _ (0, 0) rfl hs.1 rfl) rfl ?_
    exact dec_no_back NO.out (DV.out.last hs.2).2
  have YES : Hid (decOk l = true) := hid (by rw [OK.out, g1, decide_eq_true F2.out, g3, g4]; rfl)
  go_wp2_with fail
  refine (done_any x _ _ D7b.out.rd).mono ?_
  rintro e w' ⟨rfl, rfl⟩
  rw [g1]
  go_wp2_with fail
  refine (within_any _ _ _ _).mono ?_
  rintro e w' ⟨rfl, rfl⟩
  rw [g3]
  go_wp2_with fail
  refine (valid_any _ _ _ _ _ HA.out).mono ?_
  rintro e wv ⟨rfl, nv⟩
  rw [g4]
  have DV := hid (D7b.out.newer rdLaw nv)
  clear nv ml fz c5 c8 g1 g2 g2b g3 g4
  have ml : ∀ o, wv.cell? ⟨w.heap.size, o, none⟩ = #[.int .i64 1, .int .i64 v3, .int .i64 v4, .int .i64 v5, .slice p6 m6 q6, .slice p7 m7 q7, .int .i64 0, .int .i64 0, .string ByteArray.empty, .slice none 0 0][o]? := DV.out.cells
  have fz := DV.out.frozen
  go_upto_region 32 with fail
  go_region
  go_wp2
  have hs := set10 DV.out.rc (.int .i64 1) (.int .i64 v3) (.int .i64 v4) (.int .i64 v5) (.slice p6 m6 q6) (.slice p7 m7 q7) (.int .i64 0) (.int .i64 0) (.string ByteArray.empty) (.slice none 0 0)
  generalize hW : World.setCell _ _ _ = W
  rw [hW] at hs
  clear hW
  (try simp only [Exit.inBlock, Exit.then])
  refine bodyPost_ret (tmp_cell_tmp_res rfl _ _ w.heap.size 70 _ (0, 0) rfl hs.1 rfl) rfl ?_
  exact dec_yes_back YES.out HR.out (by rw [HH.out]) ((DV.out.last hs.2).1.new (New.refl W).drew) (DV.out.last hs.2).2.drew
set_option maxRecDepth 100000 in
set_option maxHeartbeats 8000000 in
theorem decode_2 (bv : Value) (l : List UInt8) (w : World) (h : Bytes w bv (bytesOf l)) (hl : l.length ≤ 1000000) (hk : (decHead l).kind = 2) : Calls Tryz.prog 58 #[bv] w (DecBack l w) := by
  have HB := hid h
  obtain ⟨bp, bc, rfl, b1, b2, _⟩ := h
  rw [bytesOf_size] at b1 HB ⊢
  obtain ⟨v0, s0, E0⟩ : ∃ v t, rdNum (some l) = (v, t) := ⟨_, _, rfl⟩
  obtain ⟨v1, s1, E1⟩ : ∃ v t, rdNum s0 = (v, t) := ⟨_, _, rfl⟩
  obtain ⟨v2, s2, E2⟩ : ∃ v t, rdSmall s1 = (v, t) := ⟨_, _, rfl⟩
  obtain ⟨v3, s3, E3⟩ : ∃ v t, rdNum s2 = (v, t) := ⟨_, _, rfl⟩
  obtain ⟨v4, s4, E4⟩ : ∃ v t, rdNum s3 = (v, t) := ⟨_, _, rfl⟩
  obtain ⟨v5, s5, E5⟩ : ∃ v t, rdSmall s4 = (v, t) := ⟨_, _, rfl⟩
  obtain ⟨v6, s6, E6⟩ : ∃ v t, rdText s5 = (v, t) := ⟨_, _, rfl⟩
  obtain ⟨v7, s7, E7⟩ : ∃ v t, rdNum s6 = (v, t) := ⟨_, _, rfl⟩
  obtain ⟨v8, s8, E8⟩ : ∃ v t, rdNum s7 = (v, t) := ⟨_, _, rfl⟩
  have hv2 : v2 = 2 := by simpa [decHead, E0, E1, E2] using hk
  subst hv2
  clear hk
  have HH : Hid (decHead l = ⟨v0, v1, 2, v3, s3⟩) := hid (by simp [decHead, E0, E1, E2, E3])
  have E0 := hid E0
  have E1 := hid E1
  have E2 := hid E2
  have E3 := hid E3
  have E4 := hid E4
  have E5 := hid E5
  have E6 := hid E6
  have T6 : Hid (v6.size ≤ 1000000) := hid (rdText_size E6.out)
  have E7 := hid E7
  have E8 := hid E8
  go_enter Tryz.func58, Tryz.ntmps58
  go_wp2_with fail
  refine (newReader_any _ l _ (HB.out.renew ((New.refl w).alloc _ _)) hl).mono ?_
  rintro e wA ⟨x, rfl, hr, hn, hx⟩
  have hx' : w.heap.size ≤ x := by simp at hx; omega
  have D0 := DS.start rdLaw (w0 := w) hn hr hx'
  have nx := type_ne (heap_alloc_new wA (.cells #[.pointer (some ⟨x, 0, none⟩)] 123)) ((D0.newer rdLaw ((New.refl wA).alloc #[.pointer (some ⟨x, 0, none⟩)] 123))).rc (by decide)
  obtain ⟨cx, hcx⟩ := rdLaw.typed (D0.newer rdLaw ((New.refl wA).alloc #[.pointer (some ⟨x, 0, none⟩)] 123)).rd
  have ny := type_ne (heap_alloc_new wA (.cells #[.pointer (some ⟨x, 0, none⟩)] 123)) hcx (by decide)
  have DA := hid ((D0.newer rdLaw ((New.refl wA).alloc #[.pointer (some ⟨x, 0, none⟩)] 123)).more rdLaw (wA.heap.size, #[.pointer (some ⟨x, 0, none⟩)], 123) ⟨heap_alloc_new wA _, nx, ny, by dsimp only; decide⟩)
  clear D0 nx ny hcx hr hn hx hx'
  go_upto_region 2 with fail
  generalize wA.alloc (.cells #[.pointer (some ⟨x, 0, none⟩)] 123) = w0' at DA ⊢
  have ml : ∀ o, w0'.cell? ⟨w.heap.size, o, none⟩ = #[.int .i64 0, .int .i64 0, .int .i64 0, .int .i64 0, .slice none 0 0, .slice none 0 0, .int .i64 0, .int .i64 0, .string ByteArray.empty, .slice none 0 0][o]? := DA.out.cells
  have fz := DA.out.frozen
  have c5 : ∀ o, w0'.cell? ⟨wA.heap.size, o, none⟩ = #[.pointer (some ⟨x, 0, none⟩)][o]? := DA.out.other (wA.heap.size, #[.pointer (some ⟨x, 0, none⟩)], 123) (by simp)
  go_wp2_with fail
  refine (number_at x _ _ _ _ E0.out DA.out.rd).mono ?_
  rintro e wr0 ⟨⟨er, rfl⟩, hr, ht⟩
  clear ml fz c5
  have D0a := hid (DA.out.read rdLaw hr ht)
  clear hr ht DA
  have ml : ∀ o, wr0.cell? ⟨w.heap.size, o, none⟩ = #[.int .i64 0, .int .i64 0, .int .i64 0, .int .i64 0, .slice none 0 0, .slice none 0 0, .int .i64 0, .int .i64 0, .string ByteArray.empty, .slice none 0 0][o]? := D0a.out.cells
  have fz := D0a.out.frozen
  have c5 : ∀ o, wr0.cell? ⟨wA.heap.size, o, none⟩ = #[.pointer (some ⟨x, 0, none⟩)][o]? := D0a.out.other (wA.heap.size, #[.pointer (some ⟨x, 0, none⟩)], 123) (by simp)
  go_wp2_with fail
  refine (number_at x _ _ _ _ E1.out D0a.out.rd).mono ?_
  rintro e wr1 ⟨⟨er, rfl⟩, hr, ht⟩
  clear ml fz c5
  have D1a := hid (D0a.out.read rdLaw hr ht)
  clear hr ht D0a
  have ml : ∀ o, wr1.cell? ⟨w.heap.size, o, none⟩ = #[.int .i64 0, .int .i64 0, .int .i64 0, .int .i64 0, .slice none 0 0, .slice none 0 0, .int .i64 0, .int .i64 0, .string ByteArray.empty, .slice none 0 0][o]? := D1a.out.cells
  have fz := D1a.out.frozen
  have c5 : ∀ o, wr1.cell? ⟨wA.heap.size, o, none⟩ = #[.pointer (some ⟨x, 0, none⟩)][o]? := D1a.out.other (wA.heap.size, #[.pointer (some ⟨x, 0, none⟩)], 123) (by simp)
  go_wp2_with fail
  refine (small_at x _ _ _ _ E2.out D1a.out.rd).mono ?_
  rintro e wr2 ⟨⟨er, rfl⟩, hr, ht⟩
  clear ml fz c5
  have D2a := hid (D1a.out.read rdLaw hr ht)
  clear hr ht D1a
  have ml : ∀ o, wr2.cell? ⟨w.heap.size, o, none⟩ = #[.int .i64 0, .int .i64 0, .int .i64 0, .int .i64 0, .slice none 0 0, .slice none 0 0, .int .i64 0, .int .i64 0, .string ByteArray.empty, .slice none 0 0][o]? := D2a.out.cells
  have fz := D2a.out.frozen
  have c5 : ∀ o, wr2.cell? ⟨wA.heap.size, o, none⟩ = #[.pointer (some ⟨x, 0, none⟩)][o]? := D2a.out.other (wA.heap.size, #[.pointer (some ⟨x, 0, none⟩)], 123) (by simp)
  go_upto_region 5 with fail
  clear ml fz c5
  have D2b := hid (D2a.out.kind rdLaw 2)
  clear D2a
  generalize wr2.setCell ⟨w.heap.size, 0, none⟩ (.int .i64 2) = wx2 at D2b ⊢
  have ml : ∀ o, wx2.cell? ⟨w.heap.size, o, none⟩ = #[.int .i64 2, .int .i64 0, .int .i64 0, .int .i64 0, .slice none 0 0, .slice none 0 0, .int .i64 0, .int .i64 0, .string ByteArray.empty, .slice none 0 0][o]? := D2b.out.cells
  have fz := D2b.out.frozen
  have c5 : ∀ o, wx2.cell? ⟨wA.heap.size, o, none⟩ = #[.pointer (some ⟨x, 0, none⟩)][o]? := D2b.out.other (wA.heap.size, #[.pointer (some ⟨x, 0, none⟩)], 123) (by simp)
  go_wp2_with fail
  refine (number_at x _ _ _ _ E3.out D2b.out.rd).mono ?_
  rintro e wr3 ⟨⟨er, rfl⟩, hr, ht⟩
  clear ml fz c5
  have D3a := hid (D2b.out.read rdLaw hr ht)
  clear hr ht D2b
  have ml : ∀ o, wr3.cell? ⟨w.heap.size, o, none⟩ = #[.int .i64 2, .int .i64 0, .int .i64 0, .int .i64 0, .slice none 0 0, .slice none 0 0, .int .i64 0, .int .i64 0, .string ByteArray.empty, .slice none 0 0][o]? := D3a.out.cells
  have fz := D3a.out.frozen
  have c5 : ∀ o, wr3.cell? ⟨wA.heap.size, o, none⟩ = #[.pointer (some ⟨x, 0, none⟩)][o]? := D3a.out.other (wA.heap.size, #[.pointer (some ⟨x, 0, none⟩)], 123) (by simp)
  go_upto_region 6 with fail
  clear ml fz c5
  have D3b := hid (D3a.out.unit rdLaw v3)
  clear D3a
  generalize wr3.setCell ⟨w.heap.size, 1, none⟩ (.int .i64 v3) = wx3 at D3b ⊢
  have ml : ∀ o, wx3.cell? ⟨w.heap.size, o, none⟩ = #[.int .i64 2, .int .i64 v3, .int .i64 0, .int .i64 0, .slice none 0 0, .slice none 0 0, .int .i64 0, .int .i64 0, .string ByteArray.empty, .slice none 0 0][o]? := D3b.out.cells
  have fz := D3b.out.frozen
  have c5 : ∀ o, wx3.cell? ⟨wA.heap.size, o, none⟩ = #[.pointer (some ⟨x, 0, none⟩)][o]? := D3b.out.other (wA.heap.size, #[.pointer (some ⟨x, 0, none⟩)], 123) (by simp)
  go_wp2_with fail
  refine (forms_2 _).mono ?_
  rintro e wB ⟨rfl, nB⟩
  clear ml fz c5
  have DB0 := D3b.out.newer rdLaw (nB.alloc #[.bool true, .bool false, .bool true, .bool false, .bool false] 126)
  have nx := type_ne (heap_alloc_new wB (.cells #[.bool true, .bool false, .bool true, .bool false, .bool false] 126)) DB0.rc (by decide)
  obtain ⟨cx, hcx⟩ := rdLaw.typed DB0.rd
  have ny := type_ne (heap_alloc_new wB (.cells #[.bool true, .bool false, .bool true, .bool false, .bool false] 126)) hcx (by decide)
  have DB := hid (DB0.more rdLaw (wB.heap.size, #[.bool true, .bool false, .bool true, .bool false, .bool false], 126) ⟨heap_alloc_new wB _, nx, ny, by dsimp only; decide⟩)
  clear DB0 nx ny hcx nB D3b
  go_upto_region 7 with fail
  generalize wB.alloc (.cells #[.bool true, .bool false, .bool true, .bool false, .bool false] 126) = wb' at DB ⊢
  have ml : ∀ o, wb'.cell? ⟨w.heap.size, o, none⟩ = #[.int .i64 2, .int .i64 v3, .int .i64 0, .int .i64 0, .slice none 0 0, .slice none 0 0, .int .i64 0, .int .i64 0, .string ByteArray.empty, .slice none 0 0][o]? := DB.out.cells
  have fz := DB.out.frozen
  have c5 : ∀ o, wb'.cell? ⟨wA.heap.size, o, none⟩ = #[.pointer (some ⟨x, 0, none⟩)][o]? := DB.out.other (wA.heap.size, #[.pointer (some ⟨x, 0, none⟩)], 123) (by simp)
  have c8 : ∀ o, wb'.cell? ⟨wB.heap.size, o, none⟩ = #[.bool true, .bool false, .bool true, .bool false, .bool false][o]? := DB.out.other (wB.heap.size, #[.bool true, .bool false, .bool true, .bool false, .bool false], 126) (by simp)
  go_wp2_with fail
  refine (number_at x _ _ _ _ E4.out DB.out.rd).mono ?_
  rintro e wr4 ⟨⟨er, rfl⟩, hr, ht⟩
  clear ml fz c5 c8
  have D4a := hid (DB.out.read rdLaw hr ht)
  clear hr ht DB
  have ml : ∀ o, wr4.cell? ⟨w.heap.size, o, none⟩ = #[.int .i64 2, .int .i64 v3, .int .i64 0, .int .i64 0, .slice none 0 0, .slice none 0 0, .int .i64 0, .int .i64 0, .string ByteArray.empty, .slice none 0 0][o]? := D4a.out.cells
  have fz := D4a.out.frozen
  have c5 : ∀ o, wr4.cell? ⟨wA.heap.size, o, none⟩ = #[.pointer (some ⟨x, 0, none⟩)][o]? := D4a.out.other (wA.heap.size, #[.pointer (some ⟨x, 0, none⟩)], 123) (by simp)
  have c8 : ∀ o, wr4.cell? ⟨wB.heap.size, o, none⟩ = #[.bool true, .bool false, .bool true, .bool false, .bool false][o]? := D4a.out.other (wB.heap.size, #[.bool true, .bool false, .bool true, .bool false, .bool false], 126) (by simp)
  go_upto_region 10 with fail
  clear ml fz c5 c8
  have D4b := hid (D4a.out.page rdLaw v4)
  clear D4a
  generalize wr4.setCell ⟨w.heap.size, 2, none⟩ (.int .i64 v4) = wx4 at D4b ⊢
  have ml : ∀ o, wx4.cell? ⟨w.heap.size, o, none⟩ = #[.int .i64 2, .int .i64 v3, .int .i64 v4, .int .i64 0, .slice none 0 0, .slice none 0 0, .int .i64 0, .int .i64 0, .string ByteArray.empty, .slice none 0 0][o]? := D4b.out.cells
  have fz := D4b.out.frozen
  have c5 : ∀ o, wx4.cell? ⟨wA.heap.size, o, none⟩ = #[.pointer (some ⟨x, 0, none⟩)][o]? := D4b.out.other (wA.heap.size, #[.pointer (some ⟨x, 0, none⟩)], 123) (by simp)
  have c8 : ∀ o, wx4.cell? ⟨wB.heap.size, o, none⟩ = #[.bool true, .bool false, .bool true, .bool false, .bool false][o]? := D4b.out.other (wB.heap.size, #[.bool true, .bool false, .bool true, .bool false, .bool false], 126) (by simp)
  go_wp2_with fail
  refine (small_at x _ _ _ _ E5.out D4b.out.rd).mono ?_
  rintro e wr5 ⟨⟨er, rfl⟩, hr, ht⟩
  clear ml fz c5 c8
  have D5a := hid (D4b.out.read rdLaw hr ht)
  clear hr ht D4b
  have ml : ∀ o, wr5.cell? ⟨w.heap.size, o, none⟩ = #[.int .i64 2, .int .i64 v3, .int .i64 v4, .int .i64 0, .slice none 0 0, .slice none 0 0, .int .i64 0, .int .i64 0, .string ByteArray.empty, .slice none 0 0][o]? := D5a.out.cells
  have fz := D5a.out.frozen
  have c5 : ∀ o, wr5.cell? ⟨wA.heap.size, o, none⟩ = #[.pointer (some ⟨x, 0, none⟩)][o]? := D5a.out.other (wA.heap.size, #[.pointer (some ⟨x, 0, none⟩)], 123) (by simp)
  have c8 : ∀ o, wr5.cell? ⟨wB.heap.size, o, none⟩ = #[.bool true, .bool false, .bool true, .bool false, .bool false][o]? := D5a.out.other (wB.heap.size, #[.bool true, .bool false, .bool true, .bool false, .bool false], 126) (by simp)
  go_upto_region 11 with fail
  clear ml fz c5 c8
  have D5b := hid (D5a.out.at_ rdLaw v5)
  clear D5a
  generalize wr5.setCell ⟨w.heap.size, 3, none⟩ (.int .i64 v5) = wx5 at D5b ⊢
  have ml : ∀ o, wx5.cell? ⟨w.heap.size, o, none⟩ = #[.int .i64 2, .int .i64 v3, .int .i64 v4, .int .i64 v5, .slice none 0 0, .slice none 0 0, .int .i64 0, .int .i64 0, .string ByteArray.empty, .slice none 0 0][o]? := D5b.out.cells
  have fz := D5b.out.frozen
  have c5 : ∀ o, wx5.cell? ⟨wA.heap.size, o, none⟩ = #[.pointer (some ⟨x, 0, none⟩)][o]? := D5b.out.other (wA.heap.size, #[.pointer (some ⟨x, 0, none⟩)], 123) (by simp)
  have c8 : ∀ o, wx5.cell? ⟨wB.heap.size, o, none⟩ = #[.bool true, .bool false, .bool true, .bool false, .bool false][o]? := D5b.out.other (wB.heap.size, #[.bool true, .bool false, .bool true, .bool false, .bool false], 126) (by simp)
  go_wp2_with fail
  refine (txt87_at _ x _ _ _ _ E6.out (c5 0) D5b.out.rd).mono ?_
  rintro e wr6 ⟨rfl, hr, ht⟩
  clear ml fz c5 c8
  have D6a := hid (D5b.out.read rdLaw hr ht)
  clear hr ht D5b
  have ml : ∀ o, wr6.cell? ⟨w.heap.size, o, none⟩ = #[.int .i64 2, .int .i64 v3, .int .i64 v4, .int .i64 v5, .slice none 0 0, .slice none 0 0, .int .i64 0, .int .i64 0, .string ByteArray.empty, .slice none 0 0][o]? := D6a.out.cells
  have fz := D6a.out.frozen
  have c5 : ∀ o, wr6.cell? ⟨wA.heap.size, o, none⟩ = #[.pointer (some ⟨x, 0, none⟩)][o]? := D6a.out.other (wA.heap.size, #[.pointer (some ⟨x, 0, none⟩)], 123) (by simp)
  have c8 : ∀ o, wr6.cell? ⟨wB.heap.size, o, none⟩ = #[.bool true, .bool false, .bool true, .bool false, .bool false][o]? := D6a.out.other (wB.heap.size, #[.bool true, .bool false, .bool true, .bool false, .bool false], 126) (by simp)
  obtain ⟨p6, m6, q6, wc6, kc, hc, hn⟩ := conv_made wr6 v6 T6.out
  have HC := hid hc
  have HN := hid hn
  clear hc hn
  have mlc : ∀ o, wc6.cell? ⟨w.heap.size, o, none⟩ = #[.int .i64 2, .int .i64 v3, .int .i64 v4, .int .i64 v5, .slice none 0 0, .slice none 0 0, .int .i64 0, .int .i64 0, .string ByteArray.empty, .slice none 0 0][o]? := (D6a.out.newer rdLaw HN.out).cells
  have fzc := (D6a.out.newer rdLaw HN.out).frozen
  go_upto_region 15 with fail
  clear kc mlc fzc
  clear ml fz c5 c8
  have D6b := hid ((D6a.out.newer rdLaw HN.out).after rdLaw (.slice p6 m6 q6) v6 HC.out)
  clear D6a HN HC
  generalize wc6.setCell ⟨w.heap.size, 5, none⟩ (.slice p6 m6 q6) = wx6 at D6b ⊢
  have ml : ∀ o, wx6.cell? ⟨w.heap.size, o, none⟩ = #[.int .i64 2, .int .i64 v3, .int .i64 v4, .int .i64 v5, .slice none 0 0, .slice p6 m6 q6, .int .i64 0, .int .i64 0, .string ByteArray.empty, .slice none 0 0][o]? := D6b.out.cells
  have fz := D6b.out.frozen
  have c5 : ∀ o, wx6.cell? ⟨wA.heap.size, o, none⟩ = #[.pointer (some ⟨x, 0, none⟩)][o]? := D6b.out.other (wA.heap.size, #[.pointer (some ⟨x, 0, none⟩)], 123) (by simp)
  have c8 : ∀ o, wx6.cell? ⟨wB.heap.size, o, none⟩ = #[.bool true, .bool false, .bool true, .bool false, .bool false][o]? := D6b.out.other (wB.heap.size, #[.bool true, .bool false, .bool true, .bool false, .bool false], 126) (by simp)
  go_wp2_with fail
  refine (number_at x _ _ _ _ E7.out D6b.out.rd).mono ?_
  rintro e wr7 ⟨⟨er, rfl⟩, hr, ht⟩
  clear ml fz c5 c8
  have D7a := hid (D6b.out.read rdLaw hr ht)
  clear hr ht D6b
  have ml : ∀ o, wr7.cell? ⟨w.heap.size, o, none⟩ = #[.int .i64 2, .int .i64 v3, .int .i64 v4, .int .i64 v5, .slice none 0 0, .slice p6 m6 q6, .int .i64 0, .int .i64 0, .string ByteArray.empty, .slice none 0 0][o]? := D7a.out.cells
  have fz := D7a.out.frozen
  have c5 : ∀ o, wr7.cell? ⟨wA.heap.size, o, none⟩ = #[.pointer (some ⟨x, 0, none⟩)][o]? := D7a.out.other (wA.heap.size, #[.pointer (some ⟨x, 0, none⟩)], 123) (by simp)
  have c8 : ∀ o, wr7.cell? ⟨wB.heap.size, o, none⟩ = #[.bool true, .bool false, .bool true, .bool false, .bool false][o]? := D7a.out.other (wB.heap.size, #[.bool true, .bool false, .bool true, .bool false, .bool false], 126) (by simp)
  go_upto_region 17 with fail
  clear ml fz c5 c8
  have D7b := hid (D7a.out.back rdLaw v7)
  clear D7a
  generalize wr7.setCell ⟨w.heap.size, 6, none⟩ (.int .i64 v7) = wx7 at D7b ⊢
  have ml : ∀ o, wx7.cell? ⟨w.heap.size, o, none⟩ = #[.int .i64 2, .int .i64 v3, .int .i64 v4, .int .i64 v5, .slice none 0 0, .slice p6 m6 q6, .int .i64 v7, .int .i64 0, .string ByteArray.empty, .slice none 0 0][o]? := D7b.out.cells
  have fz := D7b.out.frozen
  have c5 : ∀ o, wx7.cell? ⟨wA.heap.size, o, none⟩ = #[.pointer (some ⟨x, 0, none⟩)][o]? := D7b.out.other (wA.heap.size, #[.pointer (some ⟨x, 0, none⟩)], 123) (by simp)
  have c8 : ∀ o, wx7.cell? ⟨wB.heap.size, o, none⟩ = #[.bool true, .bool false, .bool true, .bool false, .bool false][o]? := D7b.out.other (wB.heap.size, #[.bool true, .bool false, .bool true, .bool false, .bool false], 126) (by simp)
  go_wp2_with fail
  refine (number_at x _ _ _ _ E8.out D7b.out.rd).mono ?_
  rintro e wr8 ⟨⟨er, rfl⟩, hr, ht⟩
  clear ml fz c5 c8
  have D8a := hid (D7b.out.read rdLaw hr ht)
  clear hr ht D7b
  have ml : ∀ o, wr8.cell? ⟨w.heap.size, o, none⟩ = #[.int .i64 2, .int .i64 v3, .int .i64 v4, .int .i64 v5, .slice none 0 0, .slice p6 m6 q6, .int .i64 v7, .int .i64 0, .string ByteArray.empty, .slice none 0 0][o]? := D8a.out.cells
  have fz := D8a.out.frozen
  have c5 : ∀ o, wr8.cell? ⟨wA.heap.size, o, none⟩ = #[.pointer (some ⟨x, 0, none⟩)][o]? := D8a.out.other (wA.heap.size, #[.pointer (some ⟨x, 0, none⟩)], 123) (by simp)
  have c8 : ∀ o, wr8.cell? ⟨wB.heap.size, o, none⟩ = #[.bool true, .bool false, .bool true, .bool false, .bool false][o]? := D8a.out.other (wB.heap.size, #[.bool true, .bool false, .bool true, .bool false, .bool false], 126) (by simp)
  go_upto_region 18 with fail
  clear ml fz c5 c8
  have D8b := hid (D8a.out.next rdLaw v8)
  clear D8a
  generalize wr8.setCell ⟨w.heap.size, 7, none⟩ (.int .i64 v8) = wx8 at D8b ⊢
  have ml : ∀ o, wx8.cell? ⟨w.heap.size, o, none⟩ = #[.int .i64 2, .int .i64 v3, .int .i64 v4, .int .i64 v5, .slice none 0 0, .slice p6 m6 q6, .int .i64 v7, .int .i64 v8, .string ByteArray.empty, .slice none 0 0][o]? := D8b.out.cells
  have fz := D8b.out.frozen
  have c5 : ∀ o, wx8.cell? ⟨wA.heap.size, o, none⟩ = #[.pointer (some ⟨x, 0, none⟩)][o]? := D8b.out.other (wA.heap.size, #[.pointer (some ⟨x, 0, none⟩)], 123) (by simp)
  have c8 : ∀ o, wx8.cell? ⟨wB.heap.size, o, none⟩ = #[.bool true, .bool false, .bool true, .bool false, .bool false][o]? := D8b.out.other (wB.heap.size, #[.bool true, .bool false, .bool true, .bool false, .bool false], 126) (by simp)
  have HR : Hid (decRec l = ((⟨2, v3, v4, v5, ByteArray.empty, v6, v7, v8, ByteArray.empty, []⟩ : Rec), s8)) := hid (by simp [decRec, HH.out, decRest, recK, E4.out, E5.out, E6.out, E7.out, E8.out])
  have HA := hid (show RecAt wx8 (⟨2, v3, v4, v5, ByteArray.empty, v6, v7, v8, ByteArray.empty, []⟩ : Rec) (.slice none 0 0) (.slice p6 m6 q6) (.slice none 0 0) from D8b.out.at)
  clear E0 E1 E2 E3 E4 E5 E6 E7 E8
  have fin := fun (h : decOk l = false) => h
  clear fin
  have OK : Hid (decOk l = (decide (s8 = some []) && decide (v0 = (l.length : Int)) && wi 1 v1 1000000 && validB (⟨2, v3, v4, v5, ByteArray.empty, v6, v7, v8, ByteArray.empty, []⟩ : Rec))) := hid (by simp [decOk, HR.out, HH.out])
  by_cases f1 : s8 = some []
  case neg =>
    have g1 : decide (s8 = some []) = false := decide_eq_false f1
    have NO : Hid (decOk l = false) := hid (by rw [OK.out, g1]; rfl)
    clear f1
    go_wp2_with fail
    refine (done_any x _ _ D8b.out.rd).mono ?_
    rintro e w' ⟨rfl, rfl⟩
    rw [g1]
    clear HA HR HH OK g1
    go_upto_region 31 with fail
    clear ml fz c5 c8
    have ml : ∀ o, wx8.cell? ⟨w.heap.size, o, none⟩ = #[.int .i64 2, .int .i64 v3, .int .i64 v4, .int .i64 v5, .slice none 0 0, .slice p6 m6 q6, .int .i64 v7, .int .i64 v8, .string ByteArray.empty, .slice none 0 0][o]? := D8b.out.cells
    have fz := D8b.out.frozen
    go_wp2
    have hs := set10 D8b.out.rc (.int .i64 0) (.int .i64 0) (.int .i64 0) (.int .i64 0) (.slice none 0 0) (.slice none 0 0) (.int .i64 0) (.int .i64 0) (.string ⟨#[]⟩) (.slice none 0 0)
    generalize hW : World.setCell _ _ _ = W
    rw [hW] at hs
    clear hW
    (try simp only [Exit.inBlock, Exit.then])
    refine bodyPost_ret (tmp_cell_tmp_res rfl _ _ w.heap.size 70 _ (0, 0) rfl hs.1 rfl) rfl ?_
    exact dec_no_back NO.out (D8b.out.last hs.2).2
  have g1 : decide (s8 = some []) = true := decide_eq_true f1
  clear f1
  by_cases f2 : v0 = (l.length : Int)
  case neg =>
    have g2 : (v0 == (l.length : Int)) = false := by simpa using f2
    have g2b : (v0 != (l.length : Int)) = true := by simpa using f2
    have g2c : decide (v0 = (l.length : Int)) = false := decide_eq_false f2
    have NO : Hid (decOk l = false) := hid (by rw [OK.out, decide_eq_false f2]; simp)
    clear f2
    go_wp2_with fail
    refine (done_any x _ _ D8b.out.rd).mono ?_
    rintro e w' ⟨rfl, rfl⟩
    rw [g1]
    clear HA HR HH OK g1
    go_upto_region 31 with fail
    clear ml fz c5 c8
    have ml : ∀ o, wx8.cell? ⟨w.heap.size, o, none⟩ = #[.int .i64 2, .int .i64 v3, .int .i64 v4, .int .i64 v5, .slice none 0 0, .slice p6 m6 q6, .int .i64 v7, .int .i64 v8, .string ByteArray.empty, .slice none 0 0][o]? := D8b.out.cells
    have fz := D8b.out.frozen
    go_wp2
    have hs := set10 D8b.out.rc (.int .i64 0) (.int .i64 0) (.int .i64 0) (.int .i64 0) (.slice none 0 0) (.slice none 0 0) (.int .i64 0) (.int .i64 0) (.string ⟨#[]⟩) (.slice none 0 0)
    generalize hW : World.setCell _ _ _ = W
    rw [hW] at hs
    clear hW
    (try simp only [Exit.inBlock, Exit.then])
    refine bodyPost_ret (tmp_cell_tmp_res rfl _ _ w.heap.size 70 _ (0, 0) rfl hs.1 rfl) rfl ?_
    exact dec_no_back NO.out (D8b.out.last hs.2).2
  have F2 := hid f2
  have g2 : (v0 == (l.length : Int)) = true := by simpa using f2
  have g2b : (v0 != (l.length : Int)) = false := by simpa using f2
  clear f2
  by_cases g3 : wi 1 v1 1000000 = true
  case neg =>
    have g3 : wi 1 v1 1000000 = false := by simpa using g3
    have NO : Hid (decOk l = false) := hid (by rw [OK.out, g3]; simp)
    go_wp2_with fail
    refine (done_any x _ _ D8b.out.rd).mono ?_
    rintro e w' ⟨rfl, rfl⟩
    rw [g1]
    go_wp2_with fail
    refine (within_any _ _ _ _).mono ?_
    rintro e w' ⟨rfl, rfl⟩
    rw [g3]
    clear HA HR HH OK g1 g2 g3
    go_upto_region 31 with fail
    clear ml fz c5 c8
    have ml : ∀ o, wx8.cell? ⟨w.heap.size, o, none⟩ = #[.int .i64 2, .int .i64 v3, .int .i64 v4, .int .i64 v5, .slice none 0 0, .slice p6 m6 q6, .int .i64 v7, .int .i64 v8, .string ByteArray.empty, .slice none 0 0][o]? := D8b.out.cells
    have fz := D8b.out.frozen
    go_wp2
    have hs := set10 D8b.out.rc (.int .i64 0) (.int .i64 0) (.int .i64 0) (.int .i64 0) (.slice none 0 0) (.slice none 0 0) (.int .i64 0) (.int .i64 0) (.string ⟨#[]⟩) (.slice none 0 0)
    generalize hW : World.setCell _ _ _ = W
    rw [hW] at hs
    clear hW
    (try simp only [Exit.inBlock, Exit.then])
    refine bodyPost_ret (tmp_cell_tmp_res rfl _ _ w.heap.size 70 _ (0, 0) rfl hs.1 rfl) rfl ?_
    exact dec_no_back NO.out (D8b.out.last hs.2).2
  by_cases g4 : validB (⟨2, v3, v4, v5, ByteArray.empty, v6, v7, v8, ByteArray.empty, []⟩ : Rec) = true
  case neg =>
    have g4 : validB (⟨2, v3, v4, v5, ByteArray.empty, v6, v7, v8, ByteArray.empty, []⟩ : Rec) = false := by simpa using g4
    have NO : Hid (decOk l = false) := hid (by rw [OK.out, g4]; simp)
    go_wp2_with fail
    refine (done_any x _ _ D8b.out.rd).mono ?_
    rintro e w' ⟨rfl, rfl⟩
    rw [g1]
    go_wp2_with fail
    refine (within_any _ _ _ _).mono ?_
    rintro e w' ⟨rfl, rfl⟩
    rw [g3]
    go_wp2_with fail
    refine (valid_any _ _ _ _ _ HA.out).mono ?_
    rintro e wv ⟨rfl, nv⟩
    rw [g4]
    have DV := hid (D8b.out.newer rdLaw nv)
    clear nv
    clear HA HR HH OK g1 g2 g3 g4
    go_upto_region 31 with fail
    clear ml fz c5 c8
    have ml : ∀ o, wv.cell? ⟨w.heap.size, o, none⟩ = #[.int .i64 2, .int .i64 v3, .int .i64 v4, .int .i64 v5, .slice none 0 0, .slice p6 m6 q6, .int .i64 v7, .int .i64 v8, .string ByteArray.empty, .slice none 0 0][o]? := DV.out.cells
    have fz := DV.out.frozen
    go_wp2
    have hs := set10 DV.out.rc (.int .i64 0) (.int .i64 0) (.int .i64 0) (.int .i64 0) (.slice none 0 0) (.slice none 0 0) (.int .i64 0) (.int .i64 0) (.string ⟨#[]⟩) (.slice none 0 0)
    generalize hW : World.setCell _ _ _ = W
    rw [hW] at hs
    clear hW
    (try simp only [Exit.inBlock, Exit.then])
    refine bodyPost_ret (tmp_cell_tmp_res rfl _ _ w.heap.size 70 _ (0, 0) rfl hs.1 rfl) rfl ?_
    exact dec_no_back NO.out (DV.out.last hs.2).2
  have YES : Hid (decOk l = true) := hid (by rw [OK.out, g1, decide_eq_true F2.out, g3, g4]; rfl)
  go_wp2_with fail
  refine (done_any x _ _ D8b.out.rd).mono ?_
  rintro e w' ⟨rfl, rfl⟩
  rw [g1]
  go_wp2_with fail
  refine (within_any _ _ _ _).mono ?_
  rintro e w' ⟨rfl, rfl⟩
  rw [g3]
  go_wp2_with fail
  refine (valid_any _ _ _ _ _ HA.out).mono ?_
  rintro e wv ⟨rfl, nv⟩
  rw [g4]
  have DV := hid (D8b.out.newer rdLaw nv)
  clear nv ml fz c5 c8 g1 g2 g2b g3 g4
  have ml : ∀ o, wv.cell? ⟨w.heap.size, o, none⟩ = #[.int .i64 2, .int .i64 v3, .int .i64 v4, .int .i64 v5, .slice none 0 0, .slice p6 m6 q6, .int .i64 v7, .int .i64 v8, .string ByteArray.empty, .slice none 0 0][o]? := DV.out.cells
  have fz := DV.out.frozen
  go_upto_region 32 with fail
  go_region
  go_wp2
  have hs := set10 DV.out.rc (.int .i64 2) (.int .i64 v3) (.int .i64 v4) (.int .i64 v5) (.slice none 0 0) (.slice p6 m6 q6) (.int .i64 v7) (.int .i64 v8) (.string ByteArray.empty) (.slice none 0 0)
  generalize hW : World.setCell _ _ _ = W
  rw [hW] at hs
  clear hW
  (try simp only [Exit.inBlock, Exit.then])
  refine bodyPost_ret (tmp_cell_tmp_res rfl _ _ w.heap.size 70 _ (0, 0) rfl hs.1 rfl) rfl ?_
  exact dec_yes_back YES.out HR.out (by rw [HH.out]) ((DV.out.last hs.2).1.new (New.refl W).drew) (DV.out.last hs.2).2.drew
set_option maxRecDepth 100000 in
set_option maxHeartbeats 8000000 in
theorem decode_3 (bv : Value) (l : List UInt8) (w : World) (h : Bytes w bv (bytesOf l)) (hl : l.length ≤ 1000000) (hk : (decHead l).kind = 3) : Calls Tryz.prog 58 #[bv] w (DecBack l w) := by
  have HB := hid h
  obtain ⟨bp, bc, rfl, b1, b2, _⟩ := h
  rw [bytesOf_size] at b1 HB ⊢
  obtain ⟨v0, s0, E0⟩ : ∃ v t, rdNum (some l) = (v, t) := ⟨_, _, rfl⟩
  obtain ⟨v1, s1, E1⟩ : ∃ v t, rdNum s0 = (v, t) := ⟨_, _, rfl⟩
  obtain ⟨v2, s2, E2⟩ : ∃ v t, rdSmall s1 = (v, t) := ⟨_, _, rfl⟩
  obtain ⟨v3, s3, E3⟩ : ∃ v t, rdNum s2 = (v, t) := ⟨_, _, rfl⟩
  have hv2 : v2 = 3 := by simpa [decHead, E0, E1, E2] using hk
  subst hv2
  clear hk
  have HH : Hid (decHead l = ⟨v0, v1, 3, v3, s3⟩) := hid (by simp [decHead, E0, E1, E2, E3])
  have E0 := hid E0
  have E1 := hid E1
  have E2 := hid E2
  have E3 := hid E3
  go_enter Tryz.func58, Tryz.ntmps58
  go_wp2_with fail
  refine (newReader_any _ l _ (HB.out.renew ((New.refl w).alloc _ _)) hl).mono ?_
  rintro e wA ⟨x, rfl, hr, hn, hx⟩
  have hx' : w.heap.size ≤ x := by simp at hx; omega
  have D0 := DS.start rdLaw (w0 := w) hn hr hx'
  have nx := type_ne (heap_alloc_new wA (.cells #[.pointer (some ⟨x, 0, none⟩)] 123)) ((D0.newer rdLaw ((New.refl wA).alloc #[.pointer (some ⟨x, 0, none⟩)] 123))).rc (by decide)
  obtain ⟨cx, hcx⟩ := rdLaw.typed (D0.newer rdLaw ((New.refl wA).alloc #[.pointer (some ⟨x, 0, none⟩)] 123)).rd
  have ny := type_ne (heap_alloc_new wA (.cells #[.pointer (some ⟨x, 0, none⟩)] 123)) hcx (by decide)
  have DA := hid ((D0.newer rdLaw ((New.refl wA).alloc #[.pointer (some ⟨x, 0, none⟩)] 123)).more rdLaw (wA.heap.size, #[.pointer (some ⟨x, 0, none⟩)], 123) ⟨heap_alloc_new wA _, nx, ny, by dsimp only; decide⟩)
  clear D0 nx ny hcx hr hn hx hx'
  go_upto_region 2 with fail
  generalize wA.alloc (.cells #[.pointer (some ⟨x, 0, none⟩)] 123) = w0' at DA ⊢
  have ml : ∀ o, w0'.cell? ⟨w.heap.size, o, none⟩ = #[.int .i64 0, .int .i64 0, .int .i64 0, .int .i64 0, .slice none 0 0, .slice none 0 0, .int .i64 0, .int .i64 0, .string ByteArray.empty, .slice none 0 0][o]? := DA.out.cells
  have fz := DA.out.frozen
  have c5 : ∀ o, w0'.cell? ⟨wA.heap.size, o, none⟩ = #[.pointer (some ⟨x, 0, none⟩)][o]? := DA.out.other (wA.heap.size, #[.pointer (some ⟨x, 0, none⟩)], 123) (by simp)
  go_wp2_with fail
  refine (number_at x _ _ _ _ E0.out DA.out.rd).mono ?_
  rintro e wr0 ⟨⟨er, rfl⟩, hr, ht⟩
  clear ml fz c5
  have D0a := hid (DA.out.read rdLaw hr ht)
  clear hr ht DA
  have ml : ∀ o, wr0.cell? ⟨w.heap.size, o, none⟩ = #[.int .i64 0, .int .i64 0, .int .i64 0, .int .i64 0, .slice none 0 0, .slice none 0 0, .int .i64 0, .int .i64 0, .string ByteArray.empty, .slice none 0 0][o]? := D0a.out.cells
  have fz := D0a.out.frozen
  have c5 : ∀ o, wr0.cell? ⟨wA.heap.size, o, none⟩ = #[.pointer (some ⟨x, 0, none⟩)][o]? := D0a.out.other (wA.heap.size, #[.pointer (some ⟨x, 0, none⟩)], 123) (by simp)
  go_wp2_with fail
  refine (number_at x _ _ _ _ E1.out D0a.out.rd).mono ?_
  rintro e wr1 ⟨⟨er, rfl⟩, hr, ht⟩
  clear ml fz c5
  have D1a := hid (D0a.out.read rdLaw hr ht)
  clear hr ht D0a
  have ml : ∀ o, wr1.cell? ⟨w.heap.size, o, none⟩ = #[.int .i64 0, .int .i64 0, .int .i64 0, .int .i64 0, .slice none 0 0, .slice none 0 0, .int .i64 0, .int .i64 0, .string ByteArray.empty, .slice none 0 0][o]? := D1a.out.cells
  have fz := D1a.out.frozen
  have c5 : ∀ o, wr1.cell? ⟨wA.heap.size, o, none⟩ = #[.pointer (some ⟨x, 0, none⟩)][o]? := D1a.out.other (wA.heap.size, #[.pointer (some ⟨x, 0, none⟩)], 123) (by simp)
  go_wp2_with fail
  refine (small_at x _ _ _ _ E2.out D1a.out.rd).mono ?_
  rintro e wr2 ⟨⟨er, rfl⟩, hr, ht⟩
  clear ml fz c5
  have D2a := hid (D1a.out.read rdLaw hr ht)
  clear hr ht D1a
  have ml : ∀ o, wr2.cell? ⟨w.heap.size, o, none⟩ = #[.int .i64 0, .int .i64 0, .int .i64 0, .int .i64 0, .slice none 0 0, .slice none 0 0, .int .i64 0, .int .i64 0, .string ByteArray.empty, .slice none 0 0][o]? := D2a.out.cells
  have fz := D2a.out.frozen
  have c5 : ∀ o, wr2.cell? ⟨wA.heap.size, o, none⟩ = #[.pointer (some ⟨x, 0, none⟩)][o]? := D2a.out.other (wA.heap.size, #[.pointer (some ⟨x, 0, none⟩)], 123) (by simp)
  go_upto_region 5 with fail
  clear ml fz c5
  have D2b := hid (D2a.out.kind rdLaw 3)
  clear D2a
  generalize wr2.setCell ⟨w.heap.size, 0, none⟩ (.int .i64 3) = wx2 at D2b ⊢
  have ml : ∀ o, wx2.cell? ⟨w.heap.size, o, none⟩ = #[.int .i64 3, .int .i64 0, .int .i64 0, .int .i64 0, .slice none 0 0, .slice none 0 0, .int .i64 0, .int .i64 0, .string ByteArray.empty, .slice none 0 0][o]? := D2b.out.cells
  have fz := D2b.out.frozen
  have c5 : ∀ o, wx2.cell? ⟨wA.heap.size, o, none⟩ = #[.pointer (some ⟨x, 0, none⟩)][o]? := D2b.out.other (wA.heap.size, #[.pointer (some ⟨x, 0, none⟩)], 123) (by simp)
  go_wp2_with fail
  refine (number_at x _ _ _ _ E3.out D2b.out.rd).mono ?_
  rintro e wr3 ⟨⟨er, rfl⟩, hr, ht⟩
  clear ml fz c5
  have D3a := hid (D2b.out.read rdLaw hr ht)
  clear hr ht D2b
  have ml : ∀ o, wr3.cell? ⟨w.heap.size, o, none⟩ = #[.int .i64 3, .int .i64 0, .int .i64 0, .int .i64 0, .slice none 0 0, .slice none 0 0, .int .i64 0, .int .i64 0, .string ByteArray.empty, .slice none 0 0][o]? := D3a.out.cells
  have fz := D3a.out.frozen
  have c5 : ∀ o, wr3.cell? ⟨wA.heap.size, o, none⟩ = #[.pointer (some ⟨x, 0, none⟩)][o]? := D3a.out.other (wA.heap.size, #[.pointer (some ⟨x, 0, none⟩)], 123) (by simp)
  go_upto_region 6 with fail
  clear ml fz c5
  have D3b := hid (D3a.out.unit rdLaw v3)
  clear D3a
  generalize wr3.setCell ⟨w.heap.size, 1, none⟩ (.int .i64 v3) = wx3 at D3b ⊢
  have ml : ∀ o, wx3.cell? ⟨w.heap.size, o, none⟩ = #[.int .i64 3, .int .i64 v3, .int .i64 0, .int .i64 0, .slice none 0 0, .slice none 0 0, .int .i64 0, .int .i64 0, .string ByteArray.empty, .slice none 0 0][o]? := D3b.out.cells
  have fz := D3b.out.frozen
  have c5 : ∀ o, wx3.cell? ⟨wA.heap.size, o, none⟩ = #[.pointer (some ⟨x, 0, none⟩)][o]? := D3b.out.other (wA.heap.size, #[.pointer (some ⟨x, 0, none⟩)], 123) (by simp)
  go_wp2_with fail
  refine (forms_3 _).mono ?_
  rintro e wB ⟨rfl, nB⟩
  clear ml fz c5
  have DB0 := D3b.out.newer rdLaw (nB.alloc #[.bool false, .bool false, .bool false, .bool false, .bool false] 126)
  have nx := type_ne (heap_alloc_new wB (.cells #[.bool false, .bool false, .bool false, .bool false, .bool false] 126)) DB0.rc (by decide)
  obtain ⟨cx, hcx⟩ := rdLaw.typed DB0.rd
  have ny := type_ne (heap_alloc_new wB (.cells #[.bool false, .bool false, .bool false, .bool false, .bool false] 126)) hcx (by decide)
  have DB := hid (DB0.more rdLaw (wB.heap.size, #[.bool false, .bool false, .bool false, .bool false, .bool false], 126) ⟨heap_alloc_new wB _, nx, ny, by dsimp only; decide⟩)
  clear DB0 nx ny hcx nB D3b
  go_upto_region 7 with fail
  generalize wB.alloc (.cells #[.bool false, .bool false, .bool false, .bool false, .bool false] 126) = wb' at DB ⊢
  have ml : ∀ o, wb'.cell? ⟨w.heap.size, o, none⟩ = #[.int .i64 3, .int .i64 v3, .int .i64 0, .int .i64 0, .slice none 0 0, .slice none 0 0, .int .i64 0, .int .i64 0, .string ByteArray.empty, .slice none 0 0][o]? := DB.out.cells
  have fz := DB.out.frozen
  have c5 : ∀ o, wb'.cell? ⟨wA.heap.size, o, none⟩ = #[.pointer (some ⟨x, 0, none⟩)][o]? := DB.out.other (wA.heap.size, #[.pointer (some ⟨x, 0, none⟩)], 123) (by simp)
  have c8 : ∀ o, wb'.cell? ⟨wB.heap.size, o, none⟩ = #[.bool false, .bool false, .bool false, .bool false, .bool false][o]? := DB.out.other (wB.heap.size, #[.bool false, .bool false, .bool false, .bool false, .bool false], 126) (by simp)
  have HR : Hid (decRec l = ((⟨3, v3, 0, 0, ByteArray.empty, ByteArray.empty, 0, 0, ByteArray.empty, []⟩ : Rec), s3)) := hid (by simp [decRec, HH.out, decRest, recK])
  have HA := hid (show RecAt wb' (⟨3, v3, 0, 0, ByteArray.empty, ByteArray.empty, 0, 0, ByteArray.empty, []⟩ : Rec) (.slice none 0 0) (.slice none 0 0) (.slice none 0 0) from DB.out.at)
  clear E0 E1 E2 E3
  have fin := fun (h : decOk l = false) => h
  clear fin
  have OK : Hid (decOk l = (decide (s3 = some []) && decide (v0 = (l.length : Int)) && wi 1 v1 1000000 && validB (⟨3, v3, 0, 0, ByteArray.empty, ByteArray.empty, 0, 0, ByteArray.empty, []⟩ : Rec))) := hid (by simp [decOk, HR.out, HH.out])
  by_cases f1 : s3 = some []
  case neg =>
    have g1 : decide (s3 = some []) = false := decide_eq_false f1
    have NO : Hid (decOk l = false) := hid (by rw [OK.out, g1]; rfl)
    clear f1
    go_wp2_with fail
    refine (done_any x _ _ DB.out.rd).mono ?_
    rintro e w' ⟨rfl, rfl⟩
    rw [g1]
    clear HA HR HH OK g1
    go_upto_region 31 with fail
    clear ml fz c5 c8
    have ml : ∀ o, wb'.cell? ⟨w.heap.size, o, none⟩ = #[.int .i64 3, .int .i64 v3, .int .i64 0, .int .i64 0, .slice none 0 0, .slice none 0 0, .int .i64 0, .int .i64 0, .string ByteArray.empty, .slice none 0 0][o]? := DB.out.cells
    have fz := DB.out.frozen
    go_wp2
    have hs := set10 DB.out.rc (.int .i64 0) (.int .i64 0) (.int .i64 0) (.int .i64 0) (.slice none 0 0) (.slice none 0 0) (.int .i64 0) (.int .i64 0) (.string ⟨#[]⟩) (.slice none 0 0)
    generalize hW : World.setCell _ _ _ = W
    rw [hW] at hs
    clear hW
    (try simp only [Exit.inBlock, Exit.then])
    refine bodyPost_ret (tmp_cell_tmp_res rfl _ _ w.heap.size 70 _ (0, 0) rfl hs.1 rfl) rfl ?_
    exact dec_no_back NO.out (DB.out.last hs.2).2
  have g1 : decide (s3 = some []) = true := decide_eq_true f1
  clear f1
  by_cases f2 : v0 = (l.length : Int)
  case neg =>
    have g2 : (v0 == (l.length : Int)) = false := by simpa using f2
    have g2b : (v0 != (l.length : Int)) = true := by simpa using f2
    have g2c : decide (v0 = (l.length : Int)) = false := decide_eq_false f2
    have NO : Hid (decOk l = false) := hid (by rw [OK.out, decide_eq_false f2]; simp)
    clear f2
    go_wp2_with fail
    refine (done_any x _ _ DB.out.rd).mono ?_
    rintro e w' ⟨rfl, rfl⟩
    rw [g1]
    clear HA HR HH OK g1
    go_upto_region 31 with fail
    clear ml fz c5 c8
    have ml : ∀ o, wb'.cell? ⟨w.heap.size, o, none⟩ = #[.int .i64 3, .int .i64 v3, .int .i64 0, .int .i64 0, .slice none 0 0, .slice none 0 0, .int .i64 0, .int .i64 0, .string ByteArray.empty, .slice none 0 0][o]? := DB.out.cells
    have fz := DB.out.frozen
    go_wp2
    have hs := set10 DB.out.rc (.int .i64 0) (.int .i64 0) (.int .i64 0) (.int .i64 0) (.slice none 0 0) (.slice none 0 0) (.int .i64 0) (.int .i64 0) (.string ⟨#[]⟩) (.slice none 0 0)
    generalize hW : World.setCell _ _ _ = W
    rw [hW] at hs
    clear hW
    (try simp only [Exit.inBlock, Exit.then])
    refine bodyPost_ret (tmp_cell_tmp_res rfl _ _ w.heap.size 70 _ (0, 0) rfl hs.1 rfl) rfl ?_
    exact dec_no_back NO.out (DB.out.last hs.2).2
  have F2 := hid f2
  have g2 : (v0 == (l.length : Int)) = true := by simpa using f2
  have g2b : (v0 != (l.length : Int)) = false := by simpa using f2
  clear f2
  by_cases g3 : wi 1 v1 1000000 = true
  case neg =>
    have g3 : wi 1 v1 1000000 = false := by simpa using g3
    have NO : Hid (decOk l = false) := hid (by rw [OK.out, g3]; simp)
    go_wp2_with fail
    refine (done_any x _ _ DB.out.rd).mono ?_
    rintro e w' ⟨rfl, rfl⟩
    rw [g1]
    go_wp2_with fail
    refine (within_any _ _ _ _).mono ?_
    rintro e w' ⟨rfl, rfl⟩
    rw [g3]
    clear HA HR HH OK g1 g2 g3
    go_upto_region 31 with fail
    clear ml fz c5 c8
    have ml : ∀ o, wb'.cell? ⟨w.heap.size, o, none⟩ = #[.int .i64 3, .int .i64 v3, .int .i64 0, .int .i64 0, .slice none 0 0, .slice none 0 0, .int .i64 0, .int .i64 0, .string ByteArray.empty, .slice none 0 0][o]? := DB.out.cells
    have fz := DB.out.frozen
    go_wp2
    have hs := set10 DB.out.rc (.int .i64 0) (.int .i64 0) (.int .i64 0) (.int .i64 0) (.slice none 0 0) (.slice none 0 0) (.int .i64 0) (.int .i64 0) (.string ⟨#[]⟩) (.slice none 0 0)
    generalize hW : World.setCell _ _ _ = W
    rw [hW] at hs
    clear hW
    (try simp only [Exit.inBlock, Exit.then])
    refine bodyPost_ret (tmp_cell_tmp_res rfl _ _ w.heap.size 70 _ (0, 0) rfl hs.1 rfl) rfl ?_
    exact dec_no_back NO.out (DB.out.last hs.2).2
  by_cases g4 : validB (⟨3, v3, 0, 0, ByteArray.empty, ByteArray.empty, 0, 0, ByteArray.empty, []⟩ : Rec) = true
  case neg =>
    have g4 : validB (⟨3, v3, 0, 0, ByteArray.empty, ByteArray.empty, 0, 0, ByteArray.empty, []⟩ : Rec) = false := by simpa using g4
    have NO : Hid (decOk l = false) := hid (by rw [OK.out, g4]; simp)
    go_wp2_with fail
    refine (done_any x _ _ DB.out.rd).mono ?_
    rintro e w' ⟨rfl, rfl⟩
    rw [g1]
    go_wp2_with fail
    refine (within_any _ _ _ _).mono ?_
    rintro e w' ⟨rfl, rfl⟩
    rw [g3]
    go_wp2_with fail
    refine (valid_any _ _ _ _ _ HA.out).mono ?_
    rintro e wv ⟨rfl, nv⟩
    rw [g4]
    have DV := hid (DB.out.newer rdLaw nv)
    clear nv
    clear HA HR HH OK g1 g2 g3 g4
    go_upto_region 31 with fail
    clear ml fz c5 c8
    have ml : ∀ o, wv.cell? ⟨w.heap.size, o, none⟩ = #[.int .i64 3, .int .i64 v3, .int .i64 0, .int .i64 0, .slice none 0 0, .slice none 0 0, .int .i64 0, .int .i64 0, .string ByteArray.empty, .slice none 0 0][o]? := DV.out.cells
    have fz := DV.out.frozen
    go_wp2
    have hs := set10 DV.out.rc (.int .i64 0) (.int .i64 0) (.int .i64 0) (.int .i64 0) (.slice none 0 0) (.slice none 0 0) (.int .i64 0) (.int .i64 0) (.string ⟨#[]⟩) (.slice none 0 0)
    generalize hW : World.setCell _ _ _ = W
    rw [hW] at hs
    clear hW
    (try simp only [Exit.inBlock, Exit.then])
    refine bodyPost_ret (tmp_cell_tmp_res rfl _ _ w.heap.size 70 _ (0, 0) rfl hs.1 rfl) rfl ?_
    exact dec_no_back NO.out (DV.out.last hs.2).2
  have YES : Hid (decOk l = true) := hid (by rw [OK.out, g1, decide_eq_true F2.out, g3, g4]; rfl)
  go_wp2_with fail
  refine (done_any x _ _ DB.out.rd).mono ?_
  rintro e w' ⟨rfl, rfl⟩
  rw [g1]
  go_wp2_with fail
  refine (within_any _ _ _ _).mono ?_
  rintro e w' ⟨rfl, rfl⟩
  rw [g3]
  go_wp2_with fail
  refine (valid_any _ _ _ _ _ HA.out).mono ?_
  rintro e wv ⟨rfl, nv⟩
  rw [g4]
  have DV := hid (DB.out.newer rdLaw nv)
  clear nv ml fz c5 c8 g1 g2 g2b g3 g4
  have ml : ∀ o, wv.cell? ⟨w.heap.size, o, none⟩ = #[.int .i64 3, .int .i64 v3, .int .i64 0, .int .i64 0, .slice none 0 0, .slice none 0 0, .int .i64 0, .int .i64 0, .string ByteArray.empty, .slice none 0 0][o]? := DV.out.cells
  have fz := DV.out.frozen
  go_upto_region 32 with fail
  go_region
  go_wp2
  have hs := set10 DV.out.rc (.int .i64 3) (.int .i64 v3) (.int .i64 0) (.int .i64 0) (.slice none 0 0) (.slice none 0 0) (.int .i64 0) (.int .i64 0) (.string ByteArray.empty) (.slice none 0 0)
  generalize hW : World.setCell _ _ _ = W
  rw [hW] at hs
  clear hW
  (try simp only [Exit.inBlock, Exit.then])
  refine bodyPost_ret (tmp_cell_tmp_res rfl _ _ w.heap.size 70 _ (0, 0) rfl hs.1 rfl) rfl ?_
  exact dec_yes_back YES.out HR.out (by rw [HH.out]) ((DV.out.last hs.2).1.new (New.refl W).drew) (DV.out.last hs.2).2.drew
set_option maxRecDepth 100000 in
set_option maxHeartbeats 8000000 in
theorem decode_4 (bv : Value) (l : List UInt8) (w : World) (h : Bytes w bv (bytesOf l)) (hl : l.length ≤ 1000000) (hk : (decHead l).kind = 4) : Calls Tryz.prog 58 #[bv] w (DecBack l w) := by
  have HB := hid h
  obtain ⟨bp, bc, rfl, b1, b2, _⟩ := h
  rw [bytesOf_size] at b1 HB ⊢
  obtain ⟨v0, s0, E0⟩ : ∃ v t, rdNum (some l) = (v, t) := ⟨_, _, rfl⟩
  obtain ⟨v1, s1, E1⟩ : ∃ v t, rdNum s0 = (v, t) := ⟨_, _, rfl⟩
  obtain ⟨v2, s2, E2⟩ : ∃ v t, rdSmall s1 = (v, t) := ⟨_, _, rfl⟩
  obtain ⟨v3, s3, E3⟩ : ∃ v t, rdNum s2 = (v, t) := ⟨_, _, rfl⟩
  have hv2 : v2 = 4 := by simpa [decHead, E0, E1, E2] using hk
  subst hv2
  clear hk
  have HH : Hid (decHead l = ⟨v0, v1, 4, v3, s3⟩) := hid (by simp [decHead, E0, E1, E2, E3])
  have E0 := hid E0
  have E1 := hid E1
  have E2 := hid E2
  have E3 := hid E3
  go_enter Tryz.func58, Tryz.ntmps58
  go_wp2_with fail
  refine (newReader_any _ l _ (HB.out.renew ((New.refl w).alloc _ _)) hl).mono ?_
  rintro e wA ⟨x, rfl, hr, hn, hx⟩
  have hx' : w.heap.size ≤ x := by simp at hx; omega
  have D0 := DS.start rdLaw (w0 := w) hn hr hx'
  have nx := type_ne (heap_alloc_new wA (.cells #[.pointer (some ⟨x, 0, none⟩)] 123)) ((D0.newer rdLaw ((New.refl wA).alloc #[.pointer (some ⟨x, 0, none⟩)] 123))).rc (by decide)
  obtain ⟨cx, hcx⟩ := rdLaw.typed (D0.newer rdLaw ((New.refl wA).alloc #[.pointer (some ⟨x, 0, none⟩)] 123)).rd
  have ny := type_ne (heap_alloc_new wA (.cells #[.pointer (some ⟨x, 0, none⟩)] 123)) hcx (by decide)
  have DA := hid ((D0.newer rdLaw ((New.refl wA).alloc #[.pointer (some ⟨x, 0, none⟩)] 123)).more rdLaw (wA.heap.size, #[.pointer (some ⟨x, 0, none⟩)], 123) ⟨heap_alloc_new wA _, nx, ny, by dsimp only; decide⟩)
  clear D0 nx ny hcx hr hn hx hx'
  go_upto_region 2 with fail
  generalize wA.alloc (.cells #[.pointer (some ⟨x, 0, none⟩)] 123) = w0' at DA ⊢
  have ml : ∀ o, w0'.cell? ⟨w.heap.size, o, none⟩ = #[.int .i64 0, .int .i64 0, .int .i64 0, .int .i64 0, .slice none 0 0, .slice none 0 0, .int .i64 0, .int .i64 0, .string ByteArray.empty, .slice none 0 0][o]? := DA.out.cells
  have fz := DA.out.frozen
  have c5 : ∀ o, w0'.cell? ⟨wA.heap.size, o, none⟩ = #[.pointer (some ⟨x, 0, none⟩)][o]? := DA.out.other (wA.heap.size, #[.pointer (some ⟨x, 0, none⟩)], 123) (by simp)
  go_wp2_with fail
  refine (number_at x _ _ _ _ E0.out DA.out.rd).mono ?_
  rintro e wr0 ⟨⟨er, rfl⟩, hr, ht⟩
  clear ml fz c5
  have D0a := hid (DA.out.read rdLaw hr ht)
  clear hr ht DA
  have ml : ∀ o, wr0.cell? ⟨w.heap.size, o, none⟩ = #[.int .i64 0, .int .i64 0, .int .i64 0, .int .i64 0, .slice none 0 0, .slice none 0 0, .int .i64 0, .int .i64 0, .string ByteArray.empty, .slice none 0 0][o]? := D0a.out.cells
  have fz := D0a.out.frozen
  have c5 : ∀ o, wr0.cell? ⟨wA.heap.size, o, none⟩ = #[.pointer (some ⟨x, 0, none⟩)][o]? := D0a.out.other (wA.heap.size, #[.pointer (some ⟨x, 0, none⟩)], 123) (by simp)
  go_wp2_with fail
  refine (number_at x _ _ _ _ E1.out D0a.out.rd).mono ?_
  rintro e wr1 ⟨⟨er, rfl⟩, hr, ht⟩
  clear ml fz c5
  have D1a := hid (D0a.out.read rdLaw hr ht)
  clear hr ht D0a
  have ml : ∀ o, wr1.cell? ⟨w.heap.size, o, none⟩ = #[.int .i64 0, .int .i64 0, .int .i64 0, .int .i64 0, .slice none 0 0, .slice none 0 0, .int .i64 0, .int .i64 0, .string ByteArray.empty, .slice none 0 0][o]? := D1a.out.cells
  have fz := D1a.out.frozen
  have c5 : ∀ o, wr1.cell? ⟨wA.heap.size, o, none⟩ = #[.pointer (some ⟨x, 0, none⟩)][o]? := D1a.out.other (wA.heap.size, #[.pointer (some ⟨x, 0, none⟩)], 123) (by simp)
  go_wp2_with fail
  refine (small_at x _ _ _ _ E2.out D1a.out.rd).mono ?_
  rintro e wr2 ⟨⟨er, rfl⟩, hr, ht⟩
  clear ml fz c5
  have D2a := hid (D1a.out.read rdLaw hr ht)
  clear hr ht D1a
  have ml : ∀ o, wr2.cell? ⟨w.heap.size, o, none⟩ = #[.int .i64 0, .int .i64 0, .int .i64 0, .int .i64 0, .slice none 0 0, .slice none 0 0, .int .i64 0, .int .i64 0, .string ByteArray.empty, .slice none 0 0][o]? := D2a.out.cells
  have fz := D2a.out.frozen
  have c5 : ∀ o, wr2.cell? ⟨wA.heap.size, o, none⟩ = #[.pointer (some ⟨x, 0, none⟩)][o]? := D2a.out.other (wA.heap.size, #[.pointer (some ⟨x, 0, none⟩)], 123) (by simp)
  go_upto_region 5 with fail
  clear ml fz c5
  have D2b := hid (D2a.out.kind rdLaw 4)
  clear D2a
  generalize wr2.setCell ⟨w.heap.size, 0, none⟩ (.int .i64 4) = wx2 at D2b ⊢
  have ml : ∀ o, wx2.cell? ⟨w.heap.size, o, none⟩ = #[.int .i64 4, .int .i64 0, .int .i64 0, .int .i64 0, .slice none 0 0, .slice none 0 0, .int .i64 0, .int .i64 0, .string ByteArray.empty, .slice none 0 0][o]? := D2b.out.cells
  have fz := D2b.out.frozen
  have c5 : ∀ o, wx2.cell? ⟨wA.heap.size, o, none⟩ = #[.pointer (some ⟨x, 0, none⟩)][o]? := D2b.out.other (wA.heap.size, #[.pointer (some ⟨x, 0, none⟩)], 123) (by simp)
  go_wp2_with fail
  refine (number_at x _ _ _ _ E3.out D2b.out.rd).mono ?_
  rintro e wr3 ⟨⟨er, rfl⟩, hr, ht⟩
  clear ml fz c5
  have D3a := hid (D2b.out.read rdLaw hr ht)
  clear hr ht D2b
  have ml : ∀ o, wr3.cell? ⟨w.heap.size, o, none⟩ = #[.int .i64 4, .int .i64 0, .int .i64 0, .int .i64 0, .slice none 0 0, .slice none 0 0, .int .i64 0, .int .i64 0, .string ByteArray.empty, .slice none 0 0][o]? := D3a.out.cells
  have fz := D3a.out.frozen
  have c5 : ∀ o, wr3.cell? ⟨wA.heap.size, o, none⟩ = #[.pointer (some ⟨x, 0, none⟩)][o]? := D3a.out.other (wA.heap.size, #[.pointer (some ⟨x, 0, none⟩)], 123) (by simp)
  go_upto_region 6 with fail
  clear ml fz c5
  have D3b := hid (D3a.out.unit rdLaw v3)
  clear D3a
  generalize wr3.setCell ⟨w.heap.size, 1, none⟩ (.int .i64 v3) = wx3 at D3b ⊢
  have ml : ∀ o, wx3.cell? ⟨w.heap.size, o, none⟩ = #[.int .i64 4, .int .i64 v3, .int .i64 0, .int .i64 0, .slice none 0 0, .slice none 0 0, .int .i64 0, .int .i64 0, .string ByteArray.empty, .slice none 0 0][o]? := D3b.out.cells
  have fz := D3b.out.frozen
  have c5 : ∀ o, wx3.cell? ⟨wA.heap.size, o, none⟩ = #[.pointer (some ⟨x, 0, none⟩)][o]? := D3b.out.other (wA.heap.size, #[.pointer (some ⟨x, 0, none⟩)], 123) (by simp)
  go_wp2_with fail
  refine (forms_4 _).mono ?_
  rintro e wB ⟨rfl, nB⟩
  clear ml fz c5
  have DB0 := D3b.out.newer rdLaw (nB.alloc #[.bool false, .bool false, .bool false, .bool false, .bool false] 126)
  have nx := type_ne (heap_alloc_new wB (.cells #[.bool false, .bool false, .bool false, .bool false, .bool false] 126)) DB0.rc (by decide)
  obtain ⟨cx, hcx⟩ := rdLaw.typed DB0.rd
  have ny := type_ne (heap_alloc_new wB (.cells #[.bool false, .bool false, .bool false, .bool false, .bool false] 126)) hcx (by decide)
  have DB := hid (DB0.more rdLaw (wB.heap.size, #[.bool false, .bool false, .bool false, .bool false, .bool false], 126) ⟨heap_alloc_new wB _, nx, ny, by dsimp only; decide⟩)
  clear DB0 nx ny hcx nB D3b
  go_upto_region 7 with fail
  generalize wB.alloc (.cells #[.bool false, .bool false, .bool false, .bool false, .bool false] 126) = wb' at DB ⊢
  have ml : ∀ o, wb'.cell? ⟨w.heap.size, o, none⟩ = #[.int .i64 4, .int .i64 v3, .int .i64 0, .int .i64 0, .slice none 0 0, .slice none 0 0, .int .i64 0, .int .i64 0, .string ByteArray.empty, .slice none 0 0][o]? := DB.out.cells
  have fz := DB.out.frozen
  have c5 : ∀ o, wb'.cell? ⟨wA.heap.size, o, none⟩ = #[.pointer (some ⟨x, 0, none⟩)][o]? := DB.out.other (wA.heap.size, #[.pointer (some ⟨x, 0, none⟩)], 123) (by simp)
  have c8 : ∀ o, wb'.cell? ⟨wB.heap.size, o, none⟩ = #[.bool false, .bool false, .bool false, .bool false, .bool false][o]? := DB.out.other (wB.heap.size, #[.bool false, .bool false, .bool false, .bool false, .bool false], 126) (by simp)
  have HR : Hid (decRec l = ((⟨4, v3, 0, 0, ByteArray.empty, ByteArray.empty, 0, 0, ByteArray.empty, []⟩ : Rec), s3)) := hid (by simp [decRec, HH.out, decRest, recK])
  have HA := hid (show RecAt wb' (⟨4, v3, 0, 0, ByteArray.empty, ByteArray.empty, 0, 0, ByteArray.empty, []⟩ : Rec) (.slice none 0 0) (.slice none 0 0) (.slice none 0 0) from DB.out.at)
  clear E0 E1 E2 E3
  have fin := fun (h : decOk l = false) => h
  clear fin
  have OK : Hid (decOk l = (decide (s3 = some []) && decide (v0 = (l.length : Int)) && wi 1 v1 1000000 && validB (⟨4, v3, 0, 0, ByteArray.empty, ByteArray.empty, 0, 0, ByteArray.empty, []⟩ : Rec))) := hid (by simp [decOk, HR.out, HH.out])
  by_cases f1 : s3 = some []
  case neg =>
    have g1 : decide (s3 = some []) = false := decide_eq_false f1
    have NO : Hid (decOk l = false) := hid (by rw [OK.out, g1]; rfl)
    clear f1
    go_wp2_with fail
    refine (done_any x _ _ DB.out.rd).mono ?_
    rintro e w' ⟨rfl, rfl⟩
    rw [g1]
    clear HA HR HH OK g1
    go_upto_region 31 with fail
    clear ml fz c5 c8
    have ml : ∀ o, wb'.cell? ⟨w.heap.size, o, none⟩ = #[.int .i64 4, .int .i64 v3, .int .i64 0, .int .i64 0, .slice none 0 0, .slice none 0 0, .int .i64 0, .int .i64 0, .string ByteArray.empty, .slice none 0 0][o]? := DB.out.cells
    have fz := DB.out.frozen
    go_wp2
    have hs := set10 DB.out.rc (.int .i64 0) (.int .i64 0) (.int .i64 0) (.int .i64 0) (.slice none 0 0) (.slice none 0 0) (.int .i64 0) (.int .i64 0) (.string ⟨#[]⟩) (.slice none 0 0)
    generalize hW : World.setCell _ _ _ = W
    rw [hW] at hs
    clear hW
    (try simp only [Exit.inBlock, Exit.then])
    refine bodyPost_ret (tmp_cell_tmp_res rfl _ _ w.heap.size 70 _ (0, 0) rfl hs.1 rfl) rfl ?_
    exact dec_no_back NO.out (DB.out.last hs.2).2
  have g1 : decide (s3 = some []) = true := decide_eq_true f1
  clear f1
  by_cases f2 : v0 = (l.length : Int)
  case neg =>
    have g2 : (v0 == (l.length : Int)) = false := by simpa using f2
    have g2b : (v0 != (l.length : Int)) = true := by simpa using f2
    have g2c : decide (v0 = (l.length : Int)) = false := decide_eq_false f2
    have NO : Hid (decOk l = false) := hid (by rw [OK.out, decide_eq_false f2]; simp)
    clear f2
    go_wp2_with fail
    refine (done_any x _ _ DB.out.rd).mono ?_
    rintro e w' ⟨rfl, rfl⟩
    rw [g1]
    clear HA HR HH OK g1
    go_upto_region 31 with fail
    clear ml fz c5 c8
    have ml : ∀ o, wb'.cell? ⟨w.heap.size, o, none⟩ = #[.int .i64 4, .int .i64 v3, .int .i64 0, .int .i64 0, .slice none 0 0, .slice none 0 0, .int .i64 0, .int .i64 0, .string ByteArray.empty, .slice none 0 0][o]? := DB.out.cells
    have fz := DB.out.frozen
    go_wp2
    have hs := set10 DB.out.rc (.int .i64 0) (.int .i64 0) (.int .i64 0) (.int .i64 0) (.slice none 0 0) (.slice none 0 0) (.int .i64 0) (.int .i64 0) (.string ⟨#[]⟩) (.slice none 0 0)
    generalize hW : World.setCell _ _ _ = W
    rw [hW] at hs
    clear hW
    (try simp only [Exit.inBlock, Exit.then])
    refine bodyPost_ret (tmp_cell_tmp_res rfl _ _ w.heap.size 70 _ (0, 0) rfl hs.1 rfl) rfl ?_
    exact dec_no_back NO.out (DB.out.last hs.2).2
  have F2 := hid f2
  have g2 : (v0 == (l.length : Int)) = true := by simpa using f2
  have g2b : (v0 != (l.length : Int)) = false := by simpa using f2
  clear f2
  by_cases g3 : wi 1 v1 1000000 = true
  case neg =>
    have g3 : wi 1 v1 1000000 = false := by simpa using g3
    have NO : Hid (decOk l = false) := hid (by rw [OK.out, g3]; simp)
    go_wp2_with fail
    refine (done_any x _ _ DB.out.rd).mono ?_
    rintro e w' ⟨rfl, rfl⟩
    rw [g1]
    go_wp2_with fail
    refine (within_any _ _ _ _).mono ?_
    rintro e w' ⟨rfl, rfl⟩
    rw [g3]
    clear HA HR HH OK g1 g2 g3
    go_upto_region 31 with fail
    clear ml fz c5 c8
    have ml : ∀ o, wb'.cell? ⟨w.heap.size, o, none⟩ = #[.int .i64 4, .int .i64 v3, .int .i64 0, .int .i64 0, .slice none 0 0, .slice none 0 0, .int .i64 0, .int .i64 0, .string ByteArray.empty, .slice none 0 0][o]? := DB.out.cells
    have fz := DB.out.frozen
    go_wp2
    have hs := set10 DB.out.rc (.int .i64 0) (.int .i64 0) (.int .i64 0) (.int .i64 0) (.slice none 0 0) (.slice none 0 0) (.int .i64 0) (.int .i64 0) (.string ⟨#[]⟩) (.slice none 0 0)
    generalize hW : World.setCell _ _ _ = W
    rw [hW] at hs
    clear hW
    (try simp only [Exit.inBlock, Exit.then])
    refine bodyPost_ret (tmp_cell_tmp_res rfl _ _ w.heap.size 70 _ (0, 0) rfl hs.1 rfl) rfl ?_
    exact dec_no_back NO.out (DB.out.last hs.2).2
  by_cases g4 : validB (⟨4, v3, 0, 0, ByteArray.empty, ByteArray.empty, 0, 0, ByteArray.empty, []⟩ : Rec) = true
  case neg =>
    have g4 : validB (⟨4, v3, 0, 0, ByteArray.empty, ByteArray.empty, 0, 0, ByteArray.empty, []⟩ : Rec) = false := by simpa using g4
    have NO : Hid (decOk l = false) := hid (by rw [OK.out, g4]; simp)
    go_wp2_with fail
    refine (done_any x _ _ DB.out.rd).mono ?_
    rintro e w' ⟨rfl, rfl⟩
    rw [g1]
    go_wp2_with fail
    refine (within_any _ _ _ _).mono ?_
    rintro e w' ⟨rfl, rfl⟩
    rw [g3]
    go_wp2_with fail
    refine (valid_any _ _ _ _ _ HA.out).mono ?_
    rintro e wv ⟨rfl, nv⟩
    rw [g4]
    have DV := hid (DB.out.newer rdLaw nv)
    clear nv
    clear HA HR HH OK g1 g2 g3 g4
    go_upto_region 31 with fail
    clear ml fz c5 c8
    have ml : ∀ o, wv.cell? ⟨w.heap.size, o, none⟩ = #[.int .i64 4, .int .i64 v3, .int .i64 0, .int .i64 0, .slice none 0 0, .slice none 0 0, .int .i64 0, .int .i64 0, .string ByteArray.empty, .slice none 0 0][o]? := DV.out.cells
    have fz := DV.out.frozen
    go_wp2
    have hs := set10 DV.out.rc (.int .i64 0) (.int .i64 0) (.int .i64 0) (.int .i64 0) (.slice none 0 0) (.slice none 0 0) (.int .i64 0) (.int .i64 0) (.string ⟨#[]⟩) (.slice none 0 0)
    generalize hW : World.setCell _ _ _ = W
    rw [hW] at hs
    clear hW
    (try simp only [Exit.inBlock, Exit.then])
    refine bodyPost_ret (tmp_cell_tmp_res rfl _ _ w.heap.size 70 _ (0, 0) rfl hs.1 rfl) rfl ?_
    exact dec_no_back NO.out (DV.out.last hs.2).2
  have YES : Hid (decOk l = true) := hid (by rw [OK.out, g1, decide_eq_true F2.out, g3, g4]; rfl)
  go_wp2_with fail
  refine (done_any x _ _ DB.out.rd).mono ?_
  rintro e w' ⟨rfl, rfl⟩
  rw [g1]
  go_wp2_with fail
  refine (within_any _ _ _ _).mono ?_
  rintro e w' ⟨rfl, rfl⟩
  rw [g3]
  go_wp2_with fail
  refine (valid_any _ _ _ _ _ HA.out).mono ?_
  rintro e wv ⟨rfl, nv⟩
  rw [g4]
  have DV := hid (DB.out.newer rdLaw nv)
  clear nv ml fz c5 c8 g1 g2 g2b g3 g4
  have ml : ∀ o, wv.cell? ⟨w.heap.size, o, none⟩ = #[.int .i64 4, .int .i64 v3, .int .i64 0, .int .i64 0, .slice none 0 0, .slice none 0 0, .int .i64 0, .int .i64 0, .string ByteArray.empty, .slice none 0 0][o]? := DV.out.cells
  have fz := DV.out.frozen
  go_upto_region 32 with fail
  go_region
  go_wp2
  have hs := set10 DV.out.rc (.int .i64 4) (.int .i64 v3) (.int .i64 0) (.int .i64 0) (.slice none 0 0) (.slice none 0 0) (.int .i64 0) (.int .i64 0) (.string ByteArray.empty) (.slice none 0 0)
  generalize hW : World.setCell _ _ _ = W
  rw [hW] at hs
  clear hW
  (try simp only [Exit.inBlock, Exit.then])
  refine bodyPost_ret (tmp_cell_tmp_res rfl _ _ w.heap.size 70 _ (0, 0) rfl hs.1 rfl) rfl ?_
  exact dec_yes_back YES.out HR.out (by rw [HH.out]) ((DV.out.last hs.2).1.new (New.refl W).drew) (DV.out.last hs.2).2.drew
set_option maxRecDepth 100000 in
set_option maxHeartbeats 8000000 in
theorem decode_5 (bv : Value) (l : List UInt8) (w : World) (h : Bytes w bv (bytesOf l)) (hl : l.length ≤ 1000000) (hk : (decHead l).kind = 5) : Calls Tryz.prog 58 #[bv] w (DecBack l w) := by
  have HB := hid h
  obtain ⟨bp, bc, rfl, b1, b2, _⟩ := h
  rw [bytesOf_size] at b1 HB ⊢
  obtain ⟨v0, s0, E0⟩ : ∃ v t, rdNum (some l) = (v, t) := ⟨_, _, rfl⟩
  obtain ⟨v1, s1, E1⟩ : ∃ v t, rdNum s0 = (v, t) := ⟨_, _, rfl⟩
  obtain ⟨v2, s2, E2⟩ : ∃ v t, rdSmall s1 = (v, t) := ⟨_, _, rfl⟩
  obtain ⟨v3, s3, E3⟩ : ∃ v t, rdNum s2 = (v, t) := ⟨_, _, rfl⟩
  obtain ⟨v4, s4, E4⟩ : ∃ v t, rdText s3 = (v, t) := ⟨_, _, rfl⟩
  have hv2 : v2 = 5 := by simpa [decHead, E0, E1, E2] using hk
  subst hv2
  clear hk
  have HH : Hid (decHead l = ⟨v0, v1, 5, v3, s3⟩) := hid (by simp [decHead, E0, E1, E2, E3])
  have E0 := hid E0
  have E1 := hid E1
  have E2 := hid E2
  have E3 := hid E3
  have E4 := hid E4
  have T4 : Hid (v4.size ≤ 1000000) := hid (rdText_size E4.out)
  go_enter Tryz.func58, Tryz.ntmps58
  go_wp2_with fail
  refine (newReader_any _ l _ (HB.out.renew ((New.refl w).alloc _ _)) hl).mono ?_
  rintro e wA ⟨x, rfl, hr, hn, hx⟩
  have hx' : w.heap.size ≤ x := by simp at hx; omega
  have D0 := DS.start rdLaw (w0 := w) hn hr hx'
  have nx := type_ne (heap_alloc_new wA (.cells #[.pointer (some ⟨x, 0, none⟩)] 123)) ((D0.newer rdLaw ((New.refl wA).alloc #[.pointer (some ⟨x, 0, none⟩)] 123))).rc (by decide)
  obtain ⟨cx, hcx⟩ := rdLaw.typed (D0.newer rdLaw ((New.refl wA).alloc #[.pointer (some ⟨x, 0, none⟩)] 123)).rd
  have ny := type_ne (heap_alloc_new wA (.cells #[.pointer (some ⟨x, 0, none⟩)] 123)) hcx (by decide)
  have DA := hid ((D0.newer rdLaw ((New.refl wA).alloc #[.pointer (some ⟨x, 0, none⟩)] 123)).more rdLaw (wA.heap.size, #[.pointer (some ⟨x, 0, none⟩)], 123) ⟨heap_alloc_new wA _, nx, ny, by dsimp only; decide⟩)
  clear D0 nx ny hcx hr hn hx hx'
  go_upto_region 2 with fail
  generalize wA.alloc (.cells #[.pointer (some ⟨x, 0, none⟩)] 123) = w0' at DA ⊢
  have ml : ∀ o, w0'.cell? ⟨w.heap.size, o, none⟩ = #[.int .i64 0, .int .i64 0, .int .i64 0, .int .i64 0, .slice none 0 0, .slice none 0 0, .int .i64 0, .int .i64 0, .string ByteArray.empty, .slice none 0 0][o]? := DA.out.cells
  have fz := DA.out.frozen
  have c5 : ∀ o, w0'.cell? ⟨wA.heap.size, o, none⟩ = #[.pointer (some ⟨x, 0, none⟩)][o]? := DA.out.other (wA.heap.size, #[.pointer (some ⟨x, 0, none⟩)], 123) (by simp)
  go_wp2_with fail
  refine (number_at x _ _ _ _ E0.out DA.out.rd).mono ?_
  rintro e wr0 ⟨⟨er, rfl⟩, hr, ht⟩
  clear ml fz c5
  have D0a := hid (DA.out.read rdLaw hr ht)
  clear hr ht DA
  have ml : ∀ o, wr0.cell? ⟨w.heap.size, o, none⟩ = #[.int .i64 0, .int .i64 0, .int .i64 0, .int .i64 0, .slice none 0 0, .slice none 0 0, .int .i64 0, .int .i64 0, .string ByteArray.empty, .slice none 0 0][o]? := D0a.out.cells
  have fz := D0a.out.frozen
  have c5 : ∀ o, wr0.cell? ⟨wA.heap.size, o, none⟩ = #[.pointer (some ⟨x, 0, none⟩)][o]? := D0a.out.other (wA.heap.size, #[.pointer (some ⟨x, 0, none⟩)], 123) (by simp)
  go_wp2_with fail
  refine (number_at x _ _ _ _ E1.out D0a.out.rd).mono ?_
  rintro e wr1 ⟨⟨er, rfl⟩, hr, ht⟩
  clear ml fz c5
  have D1a := hid (D0a.out.read rdLaw hr ht)
  clear hr ht D0a
  have ml : ∀ o, wr1.cell? ⟨w.heap.size, o, none⟩ = #[.int .i64 0, .int .i64 0, .int .i64 0, .int .i64 0, .slice none 0 0, .slice none 0 0, .int .i64 0, .int .i64 0, .string ByteArray.empty, .slice none 0 0][o]? := D1a.out.cells
  have fz := D1a.out.frozen
  have c5 : ∀ o, wr1.cell? ⟨wA.heap.size, o, none⟩ = #[.pointer (some ⟨x, 0, none⟩)][o]? := D1a.out.other (wA.heap.size, #[.pointer (some ⟨x, 0, none⟩)], 123) (by simp)
  go_wp2_with fail
  refine (small_at x _ _ _ _ E2.out D1a.out.rd).mono ?_
  rintro e wr2 ⟨⟨er, rfl⟩, hr, ht⟩
  clear ml fz c5
  have D2a := hid (D1a.out.read rdLaw hr ht)
  clear hr ht D1a
  have ml : ∀ o, wr2.cell? ⟨w.heap.size, o, none⟩ = #[.int .i64 0, .int .i64 0, .int .i64 0, .int .i64 0, .slice none 0 0, .slice none 0 0, .int .i64 0, .int .i64 0, .string ByteArray.empty, .slice none 0 0][o]? := D2a.out.cells
  have fz := D2a.out.frozen
  have c5 : ∀ o, wr2.cell? ⟨wA.heap.size, o, none⟩ = #[.pointer (some ⟨x, 0, none⟩)][o]? := D2a.out.other (wA.heap.size, #[.pointer (some ⟨x, 0, none⟩)], 123) (by simp)
  go_upto_region 5 with fail
  clear ml fz c5
  have D2b := hid (D2a.out.kind rdLaw 5)
  clear D2a
  generalize wr2.setCell ⟨w.heap.size, 0, none⟩ (.int .i64 5) = wx2 at D2b ⊢
  have ml : ∀ o, wx2.cell? ⟨w.heap.size, o, none⟩ = #[.int .i64 5, .int .i64 0, .int .i64 0, .int .i64 0, .slice none 0 0, .slice none 0 0, .int .i64 0, .int .i64 0, .string ByteArray.empty, .slice none 0 0][o]? := D2b.out.cells
  have fz := D2b.out.frozen
  have c5 : ∀ o, wx2.cell? ⟨wA.heap.size, o, none⟩ = #[.pointer (some ⟨x, 0, none⟩)][o]? := D2b.out.other (wA.heap.size, #[.pointer (some ⟨x, 0, none⟩)], 123) (by simp)
  go_wp2_with fail
  refine (number_at x _ _ _ _ E3.out D2b.out.rd).mono ?_
  rintro e wr3 ⟨⟨er, rfl⟩, hr, ht⟩
  clear ml fz c5
  have D3a := hid (D2b.out.read rdLaw hr ht)
  clear hr ht D2b
  have ml : ∀ o, wr3.cell? ⟨w.heap.size, o, none⟩ = #[.int .i64 5, .int .i64 0, .int .i64 0, .int .i64 0, .slice none 0 0, .slice none 0 0, .int .i64 0, .int .i64 0, .string ByteArray.empty, .slice none 0 0][o]? := D3a.out.cells
  have fz := D3a.out.frozen
  have c5 : ∀ o, wr3.cell? ⟨wA.heap.size, o, none⟩ = #[.pointer (some ⟨x, 0, none⟩)][o]? := D3a.out.other (wA.heap.size, #[.pointer (some ⟨x, 0, none⟩)], 123) (by simp)
  go_upto_region 6 with fail
  clear ml fz c5
  have D3b := hid (D3a.out.unit rdLaw v3)
  clear D3a
  generalize wr3.setCell ⟨w.heap.size, 1, none⟩ (.int .i64 v3) = wx3 at D3b ⊢
  have ml : ∀ o, wx3.cell? ⟨w.heap.size, o, none⟩ = #[.int .i64 5, .int .i64 v3, .int .i64 0, .int .i64 0, .slice none 0 0, .slice none 0 0, .int .i64 0, .int .i64 0, .string ByteArray.empty, .slice none 0 0][o]? := D3b.out.cells
  have fz := D3b.out.frozen
  have c5 : ∀ o, wx3.cell? ⟨wA.heap.size, o, none⟩ = #[.pointer (some ⟨x, 0, none⟩)][o]? := D3b.out.other (wA.heap.size, #[.pointer (some ⟨x, 0, none⟩)], 123) (by simp)
  go_wp2_with fail
  refine (forms_5 _).mono ?_
  rintro e wB ⟨rfl, nB⟩
  clear ml fz c5
  have DB0 := D3b.out.newer rdLaw (nB.alloc #[.bool false, .bool false, .bool false, .bool true, .bool false] 126)
  have nx := type_ne (heap_alloc_new wB (.cells #[.bool false, .bool false, .bool false, .bool true, .bool false] 126)) DB0.rc (by decide)
  obtain ⟨cx, hcx⟩ := rdLaw.typed DB0.rd
  have ny := type_ne (heap_alloc_new wB (.cells #[.bool false, .bool false, .bool false, .bool true, .bool false] 126)) hcx (by decide)
  have DB := hid (DB0.more rdLaw (wB.heap.size, #[.bool false, .bool false, .bool false, .bool true, .bool false], 126) ⟨heap_alloc_new wB _, nx, ny, by dsimp only; decide⟩)
  clear DB0 nx ny hcx nB D3b
  go_upto_region 7 with fail
  generalize wB.alloc (.cells #[.bool false, .bool false, .bool false, .bool true, .bool false] 126) = wb' at DB ⊢
  have ml : ∀ o, wb'.cell? ⟨w.heap.size, o, none⟩ = #[.int .i64 5, .int .i64 v3, .int .i64 0, .int .i64 0, .slice none 0 0, .slice none 0 0, .int .i64 0, .int .i64 0, .string ByteArray.empty, .slice none 0 0][o]? := DB.out.cells
  have fz := DB.out.frozen
  have c5 : ∀ o, wb'.cell? ⟨wA.heap.size, o, none⟩ = #[.pointer (some ⟨x, 0, none⟩)][o]? := DB.out.other (wA.heap.size, #[.pointer (some ⟨x, 0, none⟩)], 123) (by simp)
  have c8 : ∀ o, wb'.cell? ⟨wB.heap.size, o, none⟩ = #[.bool false, .bool false, .bool false, .bool true, .bool false][o]? := DB.out.other (wB.heap.size, #[.bool false, .bool false, .bool false, .bool true, .bool false], 126) (by simp)
  go_wp2_with fail
  refine (txt87_at _ x _ _ _ _ E4.out (c5 0) DB.out.rd).mono ?_
  rintro e wr4 ⟨rfl, hr, ht⟩
  clear ml fz c5 c8
  have D4a := hid (DB.out.read rdLaw hr ht)
  clear hr ht DB
  have ml : ∀ o, wr4.cell? ⟨w.heap.size, o, none⟩ = #[.int .i64 5, .int .i64 v3, .int .i64 0, .int .i64 0, .slice none 0 0, .slice none 0 0, .int .i64 0, .int .i64 0, .string ByteArray.empty, .slice none 0 0][o]? := D4a.out.cells
  have fz := D4a.out.frozen
  have c5 : ∀ o, wr4.cell? ⟨wA.heap.size, o, none⟩ = #[.pointer (some ⟨x, 0, none⟩)][o]? := D4a.out.other (wA.heap.size, #[.pointer (some ⟨x, 0, none⟩)], 123) (by simp)
  have c8 : ∀ o, wr4.cell? ⟨wB.heap.size, o, none⟩ = #[.bool false, .bool false, .bool false, .bool true, .bool false][o]? := D4a.out.other (wB.heap.size, #[.bool false, .bool false, .bool false, .bool true, .bool false], 126) (by simp)
  go_upto_region 20 with fail
  clear ml fz c5 c8
  have D4b := hid (D4a.out.text rdLaw v4)
  clear D4a
  generalize wr4.setCell ⟨w.heap.size, 8, none⟩ (.string v4) = wx4 at D4b ⊢
  have ml : ∀ o, wx4.cell? ⟨w.heap.size, o, none⟩ = #[.int .i64 5, .int .i64 v3, .int .i64 0, .int .i64 0, .slice none 0 0, .slice none 0 0, .int .i64 0, .int .i64 0, .string v4, .slice none 0 0][o]? := D4b.out.cells
  have fz := D4b.out.frozen
  have c5 : ∀ o, wx4.cell? ⟨wA.heap.size, o, none⟩ = #[.pointer (some ⟨x, 0, none⟩)][o]? := D4b.out.other (wA.heap.size, #[.pointer (some ⟨x, 0, none⟩)], 123) (by simp)
  have c8 : ∀ o, wx4.cell? ⟨wB.heap.size, o, none⟩ = #[.bool false, .bool false, .bool false, .bool true, .bool false][o]? := D4b.out.other (wB.heap.size, #[.bool false, .bool false, .bool false, .bool true, .bool false], 126) (by simp)
  have HR : Hid (decRec l = ((⟨5, v3, 0, 0, ByteArray.empty, ByteArray.empty, 0, 0, v4, []⟩ : Rec), s4)) := hid (by simp [decRec, HH.out, decRest, recK, E4.out])
  have HA := hid (show RecAt wx4 (⟨5, v3, 0, 0, ByteArray.empty, ByteArray.empty, 0, 0, v4, []⟩ : Rec) (.slice none 0 0) (.slice none 0 0) (.slice none 0 0) from D4b.out.at)
  clear E0 E1 E2 E3 E4
  have fin := fun (h : decOk l = false) => h
  clear fin
  have OK : Hid (decOk l = (decide (s4 = some []) && decide (v0 = (l.length : Int)) && wi 1 v1 1000000 && validB (⟨5, v3, 0, 0, ByteArray.empty, ByteArray.empty, 0, 0, v4, []⟩ : Rec))) := hid (by simp [decOk, HR.out, HH.out])
  by_cases f1 : s4 = some []
  case neg =>
    have g1 : decide (s4 = some []) = false := decide_eq_false f1
    have NO : Hid (decOk l = false) := hid (by rw [OK.out, g1]; rfl)
    clear f1
    go_wp2_with fail
    refine (done_any x _ _ D4b.out.rd).mono ?_
    rintro e w' ⟨rfl, rfl⟩
    rw [g1]
    clear HA HR HH OK g1
    go_upto_region 31 with fail
    clear ml fz c5 c8
    have ml : ∀ o, wx4.cell? ⟨w.heap.size, o, none⟩ = #[.int .i64 5, .int .i64 v3, .int .i64 0, .int .i64 0, .slice none 0 0, .slice none 0 0, .int .i64 0, .int .i64 0, .string v4, .slice none 0 0][o]? := D4b.out.cells
    have fz := D4b.out.frozen
    go_wp2
    have hs := set10 D4b.out.rc (.int .i64 0) (.int .i64 0) (.int .i64 0) (.int .i64 0) (.slice none 0 0) (.slice none 0 0) (.int .i64 0) (.int .i64 0) (.string ⟨#[]⟩) (.slice none 0 0)
    generalize hW : World.setCell _ _ _ = W
    rw [hW] at hs
    clear hW
    (try simp only [Exit.inBlock, Exit.then])
    refine bodyPost_ret (tmp_cell_tmp_res rfl _ _ w.heap.size 70 _ (0, 0) rfl hs.1 rfl) rfl ?_
    exact dec_no_back NO.out (D4b.out.last hs.2).2
  have g1 : decide (s4 = some []) = true := decide_eq_true f1
  clear f1
  by_cases f2 : v0 = (l.length : Int)
  case neg =>
    have g2 : (v0 == (l.length : Int)) = false := by simpa using f2
    have g2b : (v0 != (l.length : Int)) = true := by simpa using f2
    have g2c : decide (v0 = (l.length : Int)) = false := decide_eq_false f2
    have NO : Hid (decOk l = false) := hid (by rw [OK.out, decide_eq_false f2]; simp)
    clear f2
    go_wp2_with fail
    refine (done_any x _ _ D4b.out.rd).mono ?_
    rintro e w' ⟨rfl, rfl⟩
    rw [g1]
    clear HA HR HH OK g1
    go_upto_region 31 with fail
    clear ml fz c5 c8
    have ml : ∀ o, wx4.cell? ⟨w.heap.size, o, none⟩ = #[.int .i64 5, .int .i64 v3, .int .i64 0, .int .i64 0, .slice none 0 0, .slice none 0 0, .int .i64 0, .int .i64 0, .string v4, .slice none 0 0][o]? := D4b.out.cells
    have fz := D4b.out.frozen
    go_wp2
    have hs := set10 D4b.out.rc (.int .i64 0) (.int .i64 0) (.int .i64 0) (.int .i64 0) (.slice none 0 0) (.slice none 0 0) (.int .i64 0) (.int .i64 0) (.string ⟨#[]⟩) (.slice none 0 0)
    generalize hW : World.setCell _ _ _ = W
    rw [hW] at hs
    clear hW
    (try simp only [Exit.inBlock, Exit.then])
    refine bodyPost_ret (tmp_cell_tmp_res rfl _ _ w.heap.size 70 _ (0, 0) rfl hs.1 rfl) rfl ?_
    exact dec_no_back NO.out (D4b.out.last hs.2).2
  have F2 := hid f2
  have g2 : (v0 == (l.length : Int)) = true := by simpa using f2
  have g2b : (v0 != (l.length : Int)) = false := by simpa using f2
  clear f2
  by_cases g3 : wi 1 v1 1000000 = true
  case neg =>
    have g3 : wi 1 v1 1000000 = false := by simpa using g3
    have NO : Hid (decOk l = false) := hid (by rw [OK.out, g3]; simp)
    go_wp2_with fail
    refine (done_any x _ _ D4b.out.rd).mono ?_
    rintro e w' ⟨rfl, rfl⟩
    rw [g1]
    go_wp2_with fail
    refine (within_any _ _ _ _).mono ?_
    rintro e w' ⟨rfl, rfl⟩
    rw [g3]
    clear HA HR HH OK g1 g2 g3
    go_upto_region 31 with fail
    clear ml fz c5 c8
    have ml : ∀ o, wx4.cell? ⟨w.heap.size, o, none⟩ = #[.int .i64 5, .int .i64 v3, .int .i64 0, .int .i64 0, .slice none 0 0, .slice none 0 0, .int .i64 0, .int .i64 0, .string v4, .slice none 0 0][o]? := D4b.out.cells
    have fz := D4b.out.frozen
    go_wp2
    have hs := set10 D4b.out.rc (.int .i64 0) (.int .i64 0) (.int .i64 0) (.int .i64 0) (.slice none 0 0) (.slice none 0 0) (.int .i64 0) (.int .i64 0) (.string ⟨#[]⟩) (.slice none 0 0)
    generalize hW : World.setCell _ _ _ = W
    rw [hW] at hs
    clear hW
    (try simp only [Exit.inBlock, Exit.then])
    refine bodyPost_ret (tmp_cell_tmp_res rfl _ _ w.heap.size 70 _ (0, 0) rfl hs.1 rfl) rfl ?_
    exact dec_no_back NO.out (D4b.out.last hs.2).2
  by_cases g4 : validB (⟨5, v3, 0, 0, ByteArray.empty, ByteArray.empty, 0, 0, v4, []⟩ : Rec) = true
  case neg =>
    have g4 : validB (⟨5, v3, 0, 0, ByteArray.empty, ByteArray.empty, 0, 0, v4, []⟩ : Rec) = false := by simpa using g4
    have NO : Hid (decOk l = false) := hid (by rw [OK.out, g4]; simp)
    go_wp2_with fail
    refine (done_any x _ _ D4b.out.rd).mono ?_
    rintro e w' ⟨rfl, rfl⟩
    rw [g1]
    go_wp2_with fail
    refine (within_any _ _ _ _).mono ?_
    rintro e w' ⟨rfl, rfl⟩
    rw [g3]
    go_wp2_with fail
    refine (valid_any _ _ _ _ _ HA.out).mono ?_
    rintro e wv ⟨rfl, nv⟩
    rw [g4]
    have DV := hid (D4b.out.newer rdLaw nv)
    clear nv
    clear HA HR HH OK g1 g2 g3 g4
    go_upto_region 31 with fail
    clear ml fz c5 c8
    have ml : ∀ o, wv.cell? ⟨w.heap.size, o, none⟩ = #[.int .i64 5, .int .i64 v3, .int .i64 0, .int .i64 0, .slice none 0 0, .slice none 0 0, .int .i64 0, .int .i64 0, .string v4, .slice none 0 0][o]? := DV.out.cells
    have fz := DV.out.frozen
    go_wp2
    have hs := set10 DV.out.rc (.int .i64 0) (.int .i64 0) (.int .i64 0) (.int .i64 0) (.slice none 0 0) (.slice none 0 0) (.int .i64 0) (.int .i64 0) (.string ⟨#[]⟩) (.slice none 0 0)
    generalize hW : World.setCell _ _ _ = W
    rw [hW] at hs
    clear hW
    (try simp only [Exit.inBlock, Exit.then])
    refine bodyPost_ret (tmp_cell_tmp_res rfl _ _ w.heap.size 70 _ (0, 0) rfl hs.1 rfl) rfl ?_
    exact dec_no_back NO.out (DV.out.last hs.2).2
  have YES : Hid (decOk l = true) := hid (by rw [OK.out, g1, decide_eq_true F2.out, g3, g4]; rfl)
  go_wp2_with fail
  refine (done_any x _ _ D4b.out.rd).mono ?_
  rintro e w' ⟨rfl, rfl⟩
  rw [g1]
  go_wp2_with fail
  refine (within_any _ _ _ _).mono ?_
  rintro e w' ⟨rfl, rfl⟩
  rw [g3]
  go_wp2_with fail
  refine (valid_any _ _ _ _ _ HA.out).mono ?_
  rintro e wv ⟨rfl, nv⟩
  rw [g4]
  have DV := hid (D4b.out.newer rdLaw nv)
  clear nv ml fz c5 c8 g1 g2 g2b g3 g4
  have ml : ∀ o, wv.cell? ⟨w.heap.size, o, none⟩ = #[.int .i64 5, .int .i64 v3, .int .i64 0, .int .i64 0, .slice none 0 0, .slice none 0 0, .int .i64 0, .int .i64 0, .string v4, .slice none 0 0][o]? := DV.out.cells
  have fz := DV.out.frozen
  go_upto_region 32 with fail
  go_region
  go_wp2
  have hs := set10 DV.out.rc (.int .i64 5) (.int .i64 v3) (.int .i64 0) (.int .i64 0) (.slice none 0 0) (.slice none 0 0) (.int .i64 0) (.int .i64 0) (.string v4) (.slice none 0 0)
  generalize hW : World.setCell _ _ _ = W
  rw [hW] at hs
  clear hW
  (try simp only [Exit.inBlock, Exit.then])
  refine bodyPost_ret (tmp_cell_tmp_res rfl _ _ w.heap.size 70 _ (0, 0) rfl hs.1 rfl) rfl ?_
  exact dec_yes_back YES.out HR.out (by rw [HH.out]) ((DV.out.last hs.2).1.new (New.refl W).drew) (DV.out.last hs.2).2.drew
set_option maxRecDepth 100000 in
set_option maxHeartbeats 8000000 in
theorem decode_7 (bv : Value) (l : List UInt8) (w : World) (h : Bytes w bv (bytesOf l)) (hl : l.length ≤ 1000000) (hk : (decHead l).kind = 7) : Calls Tryz.prog 58 #[bv] w (DecBack l w) := by
  have HB := hid h
  obtain ⟨bp, bc, rfl, b1, b2, _⟩ := h
  rw [bytesOf_size] at b1 HB ⊢
  obtain ⟨v0, s0, E0⟩ : ∃ v t, rdNum (some l) = (v, t) := ⟨_, _, rfl⟩
  obtain ⟨v1, s1, E1⟩ : ∃ v t, rdNum s0 = (v, t) := ⟨_, _, rfl⟩
  obtain ⟨v2, s2, E2⟩ : ∃ v t, rdSmall s1 = (v, t) := ⟨_, _, rfl⟩
  obtain ⟨v3, s3, E3⟩ : ∃ v t, rdNum s2 = (v, t) := ⟨_, _, rfl⟩
  obtain ⟨v4, s4, E4⟩ : ∃ v t, rdText s3 = (v, t) := ⟨_, _, rfl⟩
  have hv2 : v2 = 7 := by simpa [decHead, E0, E1, E2] using hk
  subst hv2
  clear hk
  have HH : Hid (decHead l = ⟨v0, v1, 7, v3, s3⟩) := hid (by simp [decHead, E0, E1, E2, E3])
  have E0 := hid E0
  have E1 := hid E1
  have E2 := hid E2
  have E3 := hid E3
  have E4 := hid E4
  have T4 : Hid (v4.size ≤ 1000000) := hid (rdText_size E4.out)
  go_enter Tryz.func58, Tryz.ntmps58
  go_wp2_with fail
  refine (newReader_any _ l _ (HB.out.renew ((New.refl w).alloc _ _)) hl).mono ?_
  rintro e wA ⟨x, rfl, hr, hn, hx⟩
  have hx' : w.heap.size ≤ x := by simp at hx; omega
  have D0 := DS.start rdLaw (w0 := w) hn hr hx'
  have nx := type_ne (heap_alloc_new wA (.cells #[.pointer (some ⟨x, 0, none⟩)] 123)) ((D0.newer rdLaw ((New.refl wA).alloc #[.pointer (some ⟨x, 0, none⟩)] 123))).rc (by decide)
  obtain ⟨cx, hcx⟩ := rdLaw.typed (D0.newer rdLaw ((New.refl wA).alloc #[.pointer (some ⟨x, 0, none⟩)] 123)).rd
  have ny := type_ne (heap_alloc_new wA (.cells #[.pointer (some ⟨x, 0, none⟩)] 123)) hcx (by decide)
  have DA := hid ((D0.newer rdLaw ((New.refl wA).alloc #[.pointer (some ⟨x, 0, none⟩)] 123)).more rdLaw (wA.heap.size, #[.pointer (some ⟨x, 0, none⟩)], 123) ⟨heap_alloc_new wA _, nx, ny, by dsimp only; decide⟩)
  clear D0 nx ny hcx hr hn hx hx'
  go_upto_region 2 with fail
  generalize wA.alloc (.cells #[.pointer (some ⟨x, 0, none⟩)] 123) = w0' at DA ⊢
  have ml : ∀ o, w0'.cell? ⟨w.heap.size, o, none⟩ = #[.int .i64 0, .int .i64 0, .int .i64 0, .int .i64 0, .slice none 0 0, .slice none 0 0, .int .i64 0, .int .i64 0, .string ByteArray.empty, .slice none 0 0][o]? := DA.out.cells
  have fz := DA.out.frozen
  have c5 : ∀ o, w0'.cell? ⟨wA.heap.size, o, none⟩ = #[.pointer (some ⟨x, 0, none⟩)][o]? := DA.out.other (wA.heap.size, #[.pointer (some ⟨x, 0, none⟩)], 123) (by simp)
  go_wp2_with fail
  refine (number_at x _ _ _ _ E0.out DA.out.rd).mono ?_
  rintro e wr0 ⟨⟨er, rfl⟩, hr, ht⟩
  clear ml fz c5
  have D0a := hid (DA.out.read rdLaw hr ht)
  clear hr ht DA
  have ml : ∀ o, wr0.cell? ⟨w.heap.size, o, none⟩ = #[.int .i64 0, .int .i64 0, .int .i64 0, .int .i64 0, .slice none 0 0, .slice none 0 0, .int .i64 0, .int .i64 0, .string ByteArray.empty, .slice none 0 0][o]? := D0a.out.cells
  have fz := D0a.out.frozen
  have c5 : ∀ o, wr0.cell? ⟨wA.heap.size, o, none⟩ = #[.pointer (some ⟨x, 0, none⟩)][o]? := D0a.out.other (wA.heap.size, #[.pointer (some ⟨x, 0, none⟩)], 123) (by simp)
  go_wp2_with fail
  refine (number_at x _ _ _ _ E1.out D0a.out.rd).mono ?_
  rintro e wr1 ⟨⟨er, rfl⟩, hr, ht⟩
  clear ml fz c5
  have D1a := hid (D0a.out.read rdLaw hr ht)
  clear hr ht D0a
  have ml : ∀ o, wr1.cell? ⟨w.heap.size, o, none⟩ = #[.int .i64 0, .int .i64 0, .int .i64 0, .int .i64 0, .slice none 0 0, .slice none 0 0, .int .i64 0, .int .i64 0, .string ByteArray.empty, .slice none 0 0][o]? := D1a.out.cells
  have fz := D1a.out.frozen
  have c5 : ∀ o, wr1.cell? ⟨wA.heap.size, o, none⟩ = #[.pointer (some ⟨x, 0, none⟩)][o]? := D1a.out.other (wA.heap.size, #[.pointer (some ⟨x, 0, none⟩)], 123) (by simp)
  go_wp2_with fail
  refine (small_at x _ _ _ _ E2.out D1a.out.rd).mono ?_
  rintro e wr2 ⟨⟨er, rfl⟩, hr, ht⟩
  clear ml fz c5
  have D2a := hid (D1a.out.read rdLaw hr ht)
  clear hr ht D1a
  have ml : ∀ o, wr2.cell? ⟨w.heap.size, o, none⟩ = #[.int .i64 0, .int .i64 0, .int .i64 0, .int .i64 0, .slice none 0 0, .slice none 0 0, .int .i64 0, .int .i64 0, .string ByteArray.empty, .slice none 0 0][o]? := D2a.out.cells
  have fz := D2a.out.frozen
  have c5 : ∀ o, wr2.cell? ⟨wA.heap.size, o, none⟩ = #[.pointer (some ⟨x, 0, none⟩)][o]? := D2a.out.other (wA.heap.size, #[.pointer (some ⟨x, 0, none⟩)], 123) (by simp)
  go_upto_region 5 with fail
  clear ml fz c5
  have D2b := hid (D2a.out.kind rdLaw 7)
  clear D2a
  generalize wr2.setCell ⟨w.heap.size, 0, none⟩ (.int .i64 7) = wx2 at D2b ⊢
  have ml : ∀ o, wx2.cell? ⟨w.heap.size, o, none⟩ = #[.int .i64 7, .int .i64 0, .int .i64 0, .int .i64 0, .slice none 0 0, .slice none 0 0, .int .i64 0, .int .i64 0, .string ByteArray.empty, .slice none 0 0][o]? := D2b.out.cells
  have fz := D2b.out.frozen
  have c5 : ∀ o, wx2.cell? ⟨wA.heap.size, o, none⟩ = #[.pointer (some ⟨x, 0, none⟩)][o]? := D2b.out.other (wA.heap.size, #[.pointer (some ⟨x, 0, none⟩)], 123) (by simp)
  go_wp2_with fail
  refine (number_at x _ _ _ _ E3.out D2b.out.rd).mono ?_
  rintro e wr3 ⟨⟨er, rfl⟩, hr, ht⟩
  clear ml fz c5
  have D3a := hid (D2b.out.read rdLaw hr ht)
  clear hr ht D2b
  have ml : ∀ o, wr3.cell? ⟨w.heap.size, o, none⟩ = #[.int .i64 7, .int .i64 0, .int .i64 0, .int .i64 0, .slice none 0 0, .slice none 0 0, .int .i64 0, .int .i64 0, .string ByteArray.empty, .slice none 0 0][o]? := D3a.out.cells
  have fz := D3a.out.frozen
  have c5 : ∀ o, wr3.cell? ⟨wA.heap.size, o, none⟩ = #[.pointer (some ⟨x, 0, none⟩)][o]? := D3a.out.other (wA.heap.size, #[.pointer (some ⟨x, 0, none⟩)], 123) (by simp)
  go_upto_region 6 with fail
  clear ml fz c5
  have D3b := hid (D3a.out.unit rdLaw v3)
  clear D3a
  generalize wr3.setCell ⟨w.heap.size, 1, none⟩ (.int .i64 v3) = wx3 at D3b ⊢
  have ml : ∀ o, wx3.cell? ⟨w.heap.size, o, none⟩ = #[.int .i64 7, .int .i64 v3, .int .i64 0, .int .i64 0, .slice none 0 0, .slice none 0 0, .int .i64 0, .int .i64 0, .string ByteArray.empty, .slice none 0 0][o]? := D3b.out.cells
  have fz := D3b.out.frozen
  have c5 : ∀ o, wx3.cell? ⟨wA.heap.size, o, none⟩ = #[.pointer (some ⟨x, 0, none⟩)][o]? := D3b.out.other (wA.heap.size, #[.pointer (some ⟨x, 0, none⟩)], 123) (by simp)
  go_wp2_with fail
  refine (forms_7 _).mono ?_
  rintro e wB ⟨rfl, nB⟩
  clear ml fz c5
  have DB0 := D3b.out.newer rdLaw (nB.alloc #[.bool false, .bool false, .bool false, .bool true, .bool false] 126)
  have nx := type_ne (heap_alloc_new wB (.cells #[.bool false, .bool false, .bool false, .bool true, .bool false] 126)) DB0.rc (by decide)
  obtain ⟨cx, hcx⟩ := rdLaw.typed DB0.rd
  have ny := type_ne (heap_alloc_new wB (.cells #[.bool false, .bool false, .bool false, .bool true, .bool false] 126)) hcx (by decide)
  have DB := hid (DB0.more rdLaw (wB.heap.size, #[.bool false, .bool false, .bool false, .bool true, .bool false], 126) ⟨heap_alloc_new wB _, nx, ny, by dsimp only; decide⟩)
  clear DB0 nx ny hcx nB D3b
  go_upto_region 7 with fail
  generalize wB.alloc (.cells #[.bool false, .bool false, .bool false, .bool true, .bool false] 126) = wb' at DB ⊢
  have ml : ∀ o, wb'.cell? ⟨w.heap.size, o, none⟩ = #[.int .i64 7, .int .i64 v3, .int .i64 0, .int .i64 0, .slice none 0 0, .slice none 0 0, .int .i64 0, .int .i64 0, .string ByteArray.empty, .slice none 0 0][o]? := DB.out.cells
  have fz := DB.out.frozen
  have c5 : ∀ o, wb'.cell? ⟨wA.heap.size, o, none⟩ = #[.pointer (some ⟨x, 0, none⟩)][o]? := DB.out.other (wA.heap.size, #[.pointer (some ⟨x, 0, none⟩)], 123) (by simp)
  have c8 : ∀ o, wb'.cell? ⟨wB.heap.size, o, none⟩ = #[.bool false, .bool false, .bool false, .bool true, .bool false][o]? := DB.out.other (wB.heap.size, #[.bool false, .bool false, .bool false, .bool true, .bool false], 126) (by simp)
  go_wp2_with fail
  refine (txt87_at _ x _ _ _ _ E4.out (c5 0) DB.out.rd).mono ?_
  rintro e wr4 ⟨rfl, hr, ht⟩
  clear ml fz c5 c8
  have D4a := hid (DB.out.read rdLaw hr ht)
  clear hr ht DB
  have ml : ∀ o, wr4.cell? ⟨w.heap.size, o, none⟩ = #[.int .i64 7, .int .i64 v3, .int .i64 0, .int .i64 0, .slice none 0 0, .slice none 0 0, .int .i64 0, .int .i64 0, .string ByteArray.empty, .slice none 0 0][o]? := D4a.out.cells
  have fz := D4a.out.frozen
  have c5 : ∀ o, wr4.cell? ⟨wA.heap.size, o, none⟩ = #[.pointer (some ⟨x, 0, none⟩)][o]? := D4a.out.other (wA.heap.size, #[.pointer (some ⟨x, 0, none⟩)], 123) (by simp)
  have c8 : ∀ o, wr4.cell? ⟨wB.heap.size, o, none⟩ = #[.bool false, .bool false, .bool false, .bool true, .bool false][o]? := D4a.out.other (wB.heap.size, #[.bool false, .bool false, .bool false, .bool true, .bool false], 126) (by simp)
  go_upto_region 20 with fail
  clear ml fz c5 c8
  have D4b := hid (D4a.out.text rdLaw v4)
  clear D4a
  generalize wr4.setCell ⟨w.heap.size, 8, none⟩ (.string v4) = wx4 at D4b ⊢
  have ml : ∀ o, wx4.cell? ⟨w.heap.size, o, none⟩ = #[.int .i64 7, .int .i64 v3, .int .i64 0, .int .i64 0, .slice none 0 0, .slice none 0 0, .int .i64 0, .int .i64 0, .string v4, .slice none 0 0][o]? := D4b.out.cells
  have fz := D4b.out.frozen
  have c5 : ∀ o, wx4.cell? ⟨wA.heap.size, o, none⟩ = #[.pointer (some ⟨x, 0, none⟩)][o]? := D4b.out.other (wA.heap.size, #[.pointer (some ⟨x, 0, none⟩)], 123) (by simp)
  have c8 : ∀ o, wx4.cell? ⟨wB.heap.size, o, none⟩ = #[.bool false, .bool false, .bool false, .bool true, .bool false][o]? := D4b.out.other (wB.heap.size, #[.bool false, .bool false, .bool false, .bool true, .bool false], 126) (by simp)
  have HR : Hid (decRec l = ((⟨7, v3, 0, 0, ByteArray.empty, ByteArray.empty, 0, 0, v4, []⟩ : Rec), s4)) := hid (by simp [decRec, HH.out, decRest, recK, E4.out])
  have HA := hid (show RecAt wx4 (⟨7, v3, 0, 0, ByteArray.empty, ByteArray.empty, 0, 0, v4, []⟩ : Rec) (.slice none 0 0) (.slice none 0 0) (.slice none 0 0) from D4b.out.at)
  clear E0 E1 E2 E3 E4
  have fin := fun (h : decOk l = false) => h
  clear fin
  have OK : Hid (decOk l = (decide (s4 = some []) && decide (v0 = (l.length : Int)) && wi 1 v1 1000000 && validB (⟨7, v3, 0, 0, ByteArray.empty, ByteArray.empty, 0, 0, v4, []⟩ : Rec))) := hid (by simp [decOk, HR.out, HH.out])
  by_cases f1 : s4 = some []
  case neg =>
    have g1 : decide (s4 = some []) = false := decide_eq_false f1
    have NO : Hid (decOk l = false) := hid (by rw [OK.out, g1]; rfl)
    clear f1
    go_wp2_with fail
    refine (done_any x _ _ D4b.out.rd).mono ?_
    rintro e w' ⟨rfl, rfl⟩
    rw [g1]
    clear HA HR HH OK g1
    go_upto_region 31 with fail
    clear ml fz c5 c8
    have ml : ∀ o, wx4.cell? ⟨w.heap.size, o, none⟩ = #[.int .i64 7, .int .i64 v3, .int .i64 0, .int .i64 0, .slice none 0 0, .slice none 0 0, .int .i64 0, .int .i64 0, .string v4, .slice none 0 0][o]? := D4b.out.cells
    have fz := D4b.out.frozen
    go_wp2
    have hs := set10 D4b.out.rc (.int .i64 0) (.int .i64 0) (.int .i64 0) (.int .i64 0) (.slice none 0 0) (.slice none 0 0) (.int .i64 0) (.int .i64 0) (.string ⟨#[]⟩) (.slice none 0 0)
    generalize hW : World.setCell _ _ _ = W
    rw [hW] at hs
    clear hW
    (try simp only [Exit.inBlock, Exit.then])
    refine bodyPost_ret (tmp_cell_tmp_res rfl _ _ w.heap.size 70 _ (0, 0) rfl hs.1 rfl) rfl ?_
    exact dec_no_back NO.out (D4b.out.last hs.2).2
  have g1 : decide (s4 = some []) = true := decide_eq_true f1
  clear f1
  by_cases f2 : v0 = (l.length : Int)
  case neg =>
    have g2 : (v0 == (l.length : Int)) = false := by simpa using f2
    have g2b : (v0 != (l.length : Int)) = true := by simpa using f2
    have g2c : decide (v0 = (l.length : Int)) = false := decide_eq_false f2
    have NO : Hid (decOk l = false) := hid (by rw [OK.out, decide_eq_false f2]; simp)
    clear f2
    go_wp2_with fail
    refine (done_any x _ _ D4b.out.rd).mono ?_
    rintro e w' ⟨rfl, rfl⟩
    rw [g1]
    clear HA HR HH OK g1
    go_upto_region 31 with fail
    clear ml fz c5 c8
    have ml : ∀ o, wx4.cell? ⟨w.heap.size, o, none⟩ = #[.int .i64 7, .int .i64 v3, .int .i64 0, .int .i64 0, .slice none 0 0, .slice none 0 0, .int .i64 0, .int .i64 0, .string v4, .slice none 0 0][o]? := D4b.out.cells
    have fz := D4b.out.frozen
    go_wp2
    have hs := set10 D4b.out.rc (.int .i64 0) (.int .i64 0) (.int .i64 0) (.int .i64 0) (.slice none 0 0) (.slice none 0 0) (.int .i64 0) (.int .i64 0) (.string ⟨#[]⟩) (.slice none 0 0)
    generalize hW : World.setCell _ _ _ = W
    rw [hW] at hs
    clear hW
    (try simp only [Exit.inBlock, Exit.then])
    refine bodyPost_ret (tmp_cell_tmp_res rfl _ _ w.heap.size 70 _ (0, 0) rfl hs.1 rfl) rfl ?_
    exact dec_no_back NO.out (D4b.out.last hs.2).2
  have F2 := hid f2
  have g2 : (v0 == (l.length : Int)) = true := by simpa using f2
  have g2b : (v0 != (l.length : Int)) = false := by simpa using f2
  clear f2
  by_cases g3 : wi 1 v1 1000000 = true
  case neg =>
    have g3 : wi 1 v1 1000000 = false := by simpa using g3
    have NO : Hid (decOk l = false) := hid (by rw [OK.out, g3]; simp)
    go_wp2_with fail
    refine (done_any x _ _ D4b.out.rd).mono ?_
    rintro e w' ⟨rfl, rfl⟩
    rw [g1]
    go_wp2_with fail
    refine (within_any _ _ _ _).mono ?_
    rintro e w' ⟨rfl, rfl⟩
    rw [g3]
    clear HA HR HH OK g1 g2 g3
    go_upto_region 31 with fail
    clear ml fz c5 c8
    have ml : ∀ o, wx4.cell? ⟨w.heap.size, o, none⟩ = #[.int .i64 7, .int .i64 v3, .int .i64 0, .int .i64 0, .slice none 0 0, .slice none 0 0, .int .i64 0, .int .i64 0, .string v4, .slice none 0 0][o]? := D4b.out.cells
    have fz := D4b.out.frozen
    go_wp2
    have hs := set10 D4b.out.rc (.int .i64 0) (.int .i64 0) (.int .i64 0) (.int .i64 0) (.slice none 0 0) (.slice none 0 0) (.int .i64 0) (.int .i64 0) (.string ⟨#[]⟩) (.slice none 0 0)
    generalize hW : World.setCell _ _ _ = W
    rw [hW] at hs
    clear hW
    (try simp only [Exit.inBlock, Exit.then])
    refine bodyPost_ret (tmp_cell_tmp_res rfl _ _ w.heap.size 70 _ (0, 0) rfl hs.1 rfl) rfl ?_
    exact dec_no_back NO.out (D4b.out.last hs.2).2
  by_cases g4 : validB (⟨7, v3, 0, 0, ByteArray.empty, ByteArray.empty, 0, 0, v4, []⟩ : Rec) = true
  case neg =>
    have g4 : validB (⟨7, v3, 0, 0, ByteArray.empty, ByteArray.empty, 0, 0, v4, []⟩ : Rec) = false := by simpa using g4
    have NO : Hid (decOk l = false) := hid (by rw [OK.out, g4]; simp)
    go_wp2_with fail
    refine (done_any x _ _ D4b.out.rd).mono ?_
    rintro e w' ⟨rfl, rfl⟩
    rw [g1]
    go_wp2_with fail
    refine (within_any _ _ _ _).mono ?_
    rintro e w' ⟨rfl, rfl⟩
    rw [g3]
    go_wp2_with fail
    refine (valid_any _ _ _ _ _ HA.out).mono ?_
    rintro e wv ⟨rfl, nv⟩
    rw [g4]
    have DV := hid (D4b.out.newer rdLaw nv)
    clear nv
    clear HA HR HH OK g1 g2 g3 g4
    go_upto_region 31 with fail
    clear ml fz c5 c8
    have ml : ∀ o, wv.cell? ⟨w.heap.size, o, none⟩ = #[.int .i64 7, .int .i64 v3, .int .i64 0, .int .i64 0, .slice none 0 0, .slice none 0 0, .int .i64 0, .int .i64 0, .string v4, .slice none 0 0][o]? := DV.out.cells
    have fz := DV.out.frozen
    go_wp2
    have hs := set10 DV.out.rc (.int .i64 0) (.int .i64 0) (.int .i64 0) (.int .i64 0) (.slice none 0 0) (.slice none 0 0) (.int .i64 0) (.int .i64 0) (.string ⟨#[]⟩) (.slice none 0 0)
    generalize hW : World.setCell _ _ _ = W
    rw [hW] at hs
    clear hW
    (try simp only [Exit.inBlock, Exit.then])
    refine bodyPost_ret (tmp_cell_tmp_res rfl _ _ w.heap.size 70 _ (0, 0) rfl hs.1 rfl) rfl ?_
    exact dec_no_back NO.out (DV.out.last hs.2).2
  have YES : Hid (decOk l = true) := hid (by rw [OK.out, g1, decide_eq_true F2.out, g3, g4]; rfl)
  go_wp2_with fail
  refine (done_any x _ _ D4b.out.rd).mono ?_
  rintro e w' ⟨rfl, rfl⟩
  rw [g1]
  go_wp2_with fail
  refine (within_any _ _ _ _).mono ?_
  rintro e w' ⟨rfl, rfl⟩
  rw [g3]
  go_wp2_with fail
  refine (valid_any _ _ _ _ _ HA.out).mono ?_
  rintro e wv ⟨rfl, nv⟩
  rw [g4]
  have DV := hid (D4b.out.newer rdLaw nv)
  clear nv ml fz c5 c8 g1 g2 g2b g3 g4
  have ml : ∀ o, wv.cell? ⟨w.heap.size, o, none⟩ = #[.int .i64 7, .int .i64 v3, .int .i64 0, .int .i64 0, .slice none 0 0, .slice none 0 0, .int .i64 0, .int .i64 0, .string v4, .slice none 0 0][o]? := DV.out.cells
  have fz := DV.out.frozen
  go_upto_region 32 with fail
  go_region
  go_wp2
  have hs := set10 DV.out.rc (.int .i64 7) (.int .i64 v3) (.int .i64 0) (.int .i64 0) (.slice none 0 0) (.slice none 0 0) (.int .i64 0) (.int .i64 0) (.string v4) (.slice none 0 0)
  generalize hW : World.setCell _ _ _ = W
  rw [hW] at hs
  clear hW
  (try simp only [Exit.inBlock, Exit.then])
  refine bodyPost_ret (tmp_cell_tmp_res rfl _ _ w.heap.size 70 _ (0, 0) rfl hs.1 rfl) rfl ?_
  exact dec_yes_back YES.out HR.out (by rw [HH.out]) ((DV.out.last hs.2).1.new (New.refl W).drew) (DV.out.last hs.2).2.drew

end Go.Proofs.YtdccbceaajnajaaGreat
