/- What tape.Decode returns at a mark, and at each block (printed by dec6.py). -/
import Derived.Test.YtdccbceaajnajaaGreatT19
import Derived.Test.YtdccbceaajnajaaGreatT20
namespace Go.Proofs.YtdccbceaajnajaaGreat
open Go.RowKit
set_option linter.unusedSimpArgs false
set_option linter.unusedVariables false

set_option maxRecDepth 100000 in
set_option maxHeartbeats 8000000 in
theorem decode_6 (bv : Value) (l : List UInt8) (w : World) (h : Bytes w bv (bytesOf l)) (hl : l.length ≤ 1000000) (hk : (decHead l).kind = 6) : Calls Tryz.prog 58 #[bv] w (DecBack l w) := by
  have HB := hid h
  obtain ⟨bp, bc, rfl, b1, b2, _⟩ := h
  rw [bytesOf_size] at b1 HB ⊢
  obtain ⟨v0, s0, E0⟩ : ∃ v t, rdNum (some l) = (v, t) := ⟨_, _, rfl⟩
  obtain ⟨v1, s1, E1⟩ : ∃ v t, rdNum s0 = (v, t) := ⟨_, _, rfl⟩
  obtain ⟨v2, s2, E2⟩ : ∃ v t, rdSmall s1 = (v, t) := ⟨_, _, rfl⟩
  obtain ⟨v3, s3, E3⟩ : ∃ v t, rdNum s2 = (v, t) := ⟨_, _, rfl⟩
  have hv2 : v2 = 6 := by simpa [decHead, E0, E1, E2] using hk
  subst hv2
  clear hk
  have HH : Hid (decHead l = ⟨v0, v1, 6, v3, s3⟩) := hid (by simp [decHead, E0, E1, E2, E3])
  obtain ⟨v4, s4, E4⟩ : ∃ v t, rdSmall s3 = (v, t) := ⟨_, _, rfl⟩
  have l4 := rdSmall_lt s3
  rw [E4] at l4
  obtain ⟨n4, rfl⟩ : ∃ n : Nat, v4 = (n : Int) := ⟨v4.toNat, by simp at l4; omega⟩
  have b4 : n4 ≤ 255 := by simp at l4; omega
  clear l4
  have E4 := hid E4
  have E0 := hid E0
  have E1 := hid E1
  have E2 := hid E2
  have E3 := hid E3
  go_enter Tryz.func58, Tryz.ntmps58
  go_wp2_with fail
  refine (newReader_any _ l _ (HB.out.renew ((New.refl w).alloc _ _)) hl).mono ?_
  rintro e wA ⟨x, rfl, hr, hn, hx⟩
  have hx' : w.heap.size ≤ x := by simp at hx; omega
  have D0 := DS.start rdLaw (w0 := w) hn hr hx'
  have nx := type_ne (heap_alloc_new wA (.cells #[.pointer (some ⟨x, 0, none⟩)] 123)) ((D0.newer rdLaw ((New.refl wA).alloc #[.pointer (some ⟨x, 0, none⟩)] 123))).rc (by decide)
  obtain ⟨cx, hcx⟩ := rdLaw.typed (D0.newer rdLaw ((New.refl wA).alloc #[.pointer (some ⟨x, 0, none⟩)] 123)).rd
  have ny := type_ne (heap_alloc_new wA (.cells #[.pointer (some ⟨x, 0, none⟩)] 123)) hcx (by decide)
  have DA := hid ((D0.newer rdLaw ((New.refl wA).alloc #[.pointer (some ⟨x, 0, none⟩)] 123)).more rdLaw (wA.heap.size, #[.pointer (some ⟨x, 0, none⟩)], 123) ⟨heap_alloc_new wA _, nx, ny, by dsimp only; decide⟩)
  clear D0 nx ny hcx hr hn hx hx'
  go_upto_region 2 with fail
  generalize wA.alloc (.cells #[.pointer (some ⟨x, 0, none⟩)] 123) = w0' at DA ⊢
  have ml : ∀ o, w0'.cell? ⟨w.heap.size, o, none⟩ = #[.int .i64 0, .int .i64 0, .int .i64 0, .int .i64 0, .slice none 0 0, .slice none 0 0, .int .i64 0, .int .i64 0, .string ByteArray.empty, .slice none 0 0][o]? := DA.out.cells
  have fz := DA.out.frozen
  have c5 : ∀ o, w0'.cell? ⟨wA.heap.size, o, none⟩ = #[.pointer (some ⟨x, 0, none⟩)][o]? := DA.out.other (wA.heap.size, #[.pointer (some ⟨x, 0, none⟩)], 123) (by simp)
  go_wp2_with fail
  refine (number_at x _ _ _ _ E0.out DA.out.rd).mono ?_
  rintro e wr0 ⟨⟨er, rfl⟩, hr, ht⟩
  clear ml fz c5
  have D0a := hid (DA.out.read rdLaw hr ht)
  clear hr ht DA
  have ml : ∀ o, wr0.cell? ⟨w.heap.size, o, none⟩ = #[.int .i64 0, .int .i64 0, .int .i64 0, .int .i64 0, .slice none 0 0, .slice none 0 0, .int .i64 0, .int .i64 0, .string ByteArray.empty, .slice none 0 0][o]? := D0a.out.cells
  have fz := D0a.out.frozen
  have c5 : ∀ o, wr0.cell? ⟨wA.heap.size, o, none⟩ = #[.pointer (some ⟨x, 0, none⟩)][o]? := D0a.out.other (wA.heap.size, #[.pointer (some ⟨x, 0, none⟩)], 123) (by simp)
  go_wp2_with fail
  refine (number_at x _ _ _ _ E1.out D0a.out.rd).mono ?_
  rintro e wr1 ⟨⟨er, rfl⟩, hr, ht⟩
  clear ml fz c5
  have D1a := hid (D0a.out.read rdLaw hr ht)
  clear hr ht D0a
  have ml : ∀ o, wr1.cell? ⟨w.heap.size, o, none⟩ = #[.int .i64 0, .int .i64 0, .int .i64 0, .int .i64 0, .slice none 0 0, .slice none 0 0, .int .i64 0, .int .i64 0, .string ByteArray.empty, .slice none 0 0][o]? := D1a.out.cells
  have fz := D1a.out.frozen
  have c5 : ∀ o, wr1.cell? ⟨wA.heap.size, o, none⟩ = #[.pointer (some ⟨x, 0, none⟩)][o]? := D1a.out.other (wA.heap.size, #[.pointer (some ⟨x, 0, none⟩)], 123) (by simp)
  go_wp2_with fail
  refine (small_at x _ _ _ _ E2.out D1a.out.rd).mono ?_
  rintro e wr2 ⟨⟨er, rfl⟩, hr, ht⟩
  clear ml fz c5
  have D2a := hid (D1a.out.read rdLaw hr ht)
  clear hr ht D1a
  have ml : ∀ o, wr2.cell? ⟨w.heap.size, o, none⟩ = #[.int .i64 0, .int .i64 0, .int .i64 0, .int .i64 0, .slice none 0 0, .slice none 0 0, .int .i64 0, .int .i64 0, .string ByteArray.empty, .slice none 0 0][o]? := D2a.out.cells
  have fz := D2a.out.frozen
  have c5 : ∀ o, wr2.cell? ⟨wA.heap.size, o, none⟩ = #[.pointer (some ⟨x, 0, none⟩)][o]? := D2a.out.other (wA.heap.size, #[.pointer (some ⟨x, 0, none⟩)], 123) (by simp)
  go_upto_region 5 with fail
  clear ml fz c5
  have D2b := hid (D2a.out.kind rdLaw 6)
  clear D2a
  generalize wr2.setCell ⟨w.heap.size, 0, none⟩ (.int .i64 6) = wx2 at D2b ⊢
  have ml : ∀ o, wx2.cell? ⟨w.heap.size, o, none⟩ = #[.int .i64 6, .int .i64 0, .int .i64 0, .int .i64 0, .slice none 0 0, .slice none 0 0, .int .i64 0, .int .i64 0, .string ByteArray.empty, .slice none 0 0][o]? := D2b.out.cells
  have fz := D2b.out.frozen
  have c5 : ∀ o, wx2.cell? ⟨wA.heap.size, o, none⟩ = #[.pointer (some ⟨x, 0, none⟩)][o]? := D2b.out.other (wA.heap.size, #[.pointer (some ⟨x, 0, none⟩)], 123) (by simp)
  go_wp2_with fail
  refine (number_at x _ _ _ _ E3.out D2b.out.rd).mono ?_
  rintro e wr3 ⟨⟨er, rfl⟩, hr, ht⟩
  clear ml fz c5
  have D3a := hid (D2b.out.read rdLaw hr ht)
  clear hr ht D2b
  have ml : ∀ o, wr3.cell? ⟨w.heap.size, o, none⟩ = #[.int .i64 6, .int .i64 0, .int .i64 0, .int .i64 0, .slice none 0 0, .slice none 0 0, .int .i64 0, .int .i64 0, .string ByteArray.empty, .slice none 0 0][o]? := D3a.out.cells
  have fz := D3a.out.frozen
  have c5 : ∀ o, wr3.cell? ⟨wA.heap.size, o, none⟩ = #[.pointer (some ⟨x, 0, none⟩)][o]? := D3a.out.other (wA.heap.size, #[.pointer (some ⟨x, 0, none⟩)], 123) (by simp)
  go_upto_region 6 with fail
  clear ml fz c5
  have D3b := hid (D3a.out.unit rdLaw v3)
  clear D3a
  generalize wr3.setCell ⟨w.heap.size, 1, none⟩ (.int .i64 v3) = wx3 at D3b ⊢
  have ml : ∀ o, wx3.cell? ⟨w.heap.size, o, none⟩ = #[.int .i64 6, .int .i64 v3, .int .i64 0, .int .i64 0, .slice none 0 0, .slice none 0 0, .int .i64 0, .int .i64 0, .string ByteArray.empty, .slice none 0 0][o]? := D3b.out.cells
  have fz := D3b.out.frozen
  have c5 : ∀ o, wx3.cell? ⟨wA.heap.size, o, none⟩ = #[.pointer (some ⟨x, 0, none⟩)][o]? := D3b.out.other (wA.heap.size, #[.pointer (some ⟨x, 0, none⟩)], 123) (by simp)
  go_wp2_with fail
  refine (forms_6 _).mono ?_
  rintro e wB ⟨rfl, nB⟩
  clear ml fz c5
  have DB0 := D3b.out.newer rdLaw (nB.alloc #[.bool false, .bool false, .bool false, .bool false, .bool true] 126)
  have nx := type_ne (heap_alloc_new wB (.cells #[.bool false, .bool false, .bool false, .bool false, .bool true] 126)) DB0.rc (by decide)
  obtain ⟨cx, hcx⟩ := rdLaw.typed DB0.rd
  have ny := type_ne (heap_alloc_new wB (.cells #[.bool false, .bool false, .bool false, .bool false, .bool true] 126)) hcx (by decide)
  have DB := hid (DB0.more rdLaw (wB.heap.size, #[.bool false, .bool false, .bool false, .bool false, .bool true], 126) ⟨heap_alloc_new wB _, nx, ny, by dsimp only; decide⟩)
  clear DB0 nx ny hcx nB D3b
  go_upto_region 7 with fail
  generalize wB.alloc (.cells #[.bool false, .bool false, .bool false, .bool false, .bool true] 126) = wb' at DB ⊢
  have ml : ∀ o, wb'.cell? ⟨w.heap.size, o, none⟩ = #[.int .i64 6, .int .i64 v3, .int .i64 0, .int .i64 0, .slice none 0 0, .slice none 0 0, .int .i64 0, .int .i64 0, .string ByteArray.empty, .slice none 0 0][o]? := DB.out.cells
  have fz := DB.out.frozen
  have c5 : ∀ o, wb'.cell? ⟨wA.heap.size, o, none⟩ = #[.pointer (some ⟨x, 0, none⟩)][o]? := DB.out.other (wA.heap.size, #[.pointer (some ⟨x, 0, none⟩)], 123) (by simp)
  have c8 : ∀ o, wb'.cell? ⟨wB.heap.size, o, none⟩ = #[.bool false, .bool false, .bool false, .bool false, .bool true][o]? := DB.out.other (wB.heap.size, #[.bool false, .bool false, .bool false, .bool false, .bool true], 126) (by simp)
  go_wp2_with fail
  refine (small_at x _ _ _ _ E4.out DB.out.rd).mono ?_
  rintro e wm ⟨⟨er, rfl⟩, hr, ht⟩
  clear ml fz c5 c8
  have DM := hid (DB.out.read rdLaw hr ht)
  clear hr ht DB
  have ml : ∀ o, wm.cell? ⟨w.heap.size, o, none⟩ = #[.int .i64 6, .int .i64 v3, .int .i64 0, .int .i64 0, .slice none 0 0, .slice none 0 0, .int .i64 0, .int .i64 0, .string ByteArray.empty, .slice none 0 0][o]? := DM.out.cells
  have fz := DM.out.frozen
  have c5 : ∀ o, wm.cell? ⟨wA.heap.size, o, none⟩ = #[.pointer (some ⟨x, 0, none⟩)][o]? := DM.out.other (wA.heap.size, #[.pointer (some ⟨x, 0, none⟩)], 123) (by simp)
  have c8 : ∀ o, wm.cell? ⟨wB.heap.size, o, none⟩ = #[.bool false, .bool false, .bool false, .bool false, .bool true][o]? := DM.out.other (wB.heap.size, #[.bool false, .bool false, .bool false, .bool false, .bool true], 126) (by simp)
  go_wp2
  clear ml fz c5 c8
  go_loopw [13, 98] (fun _ i wr => ∃ k : Nat, k ≤ n4 ∧ i = .int .i64 k ∧ Hid (∃ uv, DS RdAt [(wB.heap.size, #[.bool false, .bool false, .bool false, .bool false, .bool true], 126), (wA.heap.size, #[.pointer (some ⟨x, 0, none⟩)], 123)] w wr w.heap.size x (⟨6, v3, 0, 0, ByteArray.empty, ByteArray.empty, 0, 0, ByteArray.empty, (rdOpens k s4).1⟩ : Rec) (.slice none 0 0) (.slice none 0 0) uv (rdOpens k s4).2)) (fun _ i _ => n4 - (intOf i).toNat)
  case atStart => exact ⟨0, Nat.zero_le _, rfl, ⟨_, DM.out⟩⟩
  case round =>
    obtain ⟨k, hk, rfl, hyp⟩ := hrel
    obtain ⟨uv, D⟩ := hyp.out
    clear hyp
    obtain ⟨up, uc, rfl⟩ : ∃ up uc, uv = .slice up k uc := by
      have h := D.un
      rw [rdOpens_length] at h
      obtain ⟨A, c, e⟩ := own_len h
      exact ⟨A, c, e⟩
    have D := hid D
    by_cases hlt : k < n4
    · obtain ⟨a0, t0, A0⟩ : ∃ v t, rdNum (rdOpens k s4).2 = (v, t) := ⟨_, _, rfl⟩
      obtain ⟨a1, t1, A1⟩ : ∃ v t, rdNum t0 = (v, t) := ⟨_, _, rfl⟩
      obtain ⟨a2, t2, A2⟩ : ∃ v t, rdText t1 = (v, t) := ⟨_, _, rfl⟩
      have A0 := hid A0
      have A1 := hid A1
      have A2 := hid A2
      go_upto_region 25 with fail
      have U0 := hid (DU.start rdLaw D.out #[.int .i64 0, .int .i64 0, .string ⟨#[]⟩])
      generalize wr.alloc (.cells #[.int .i64 0, .int .i64 0, .string ⟨#[]⟩] 133) = wu0 at U0 ⊢
      have ml : ∀ o, wu0.cell? ⟨w.heap.size, o, none⟩ = #[.int .i64 6, .int .i64 v3, .int .i64 0, .int .i64 0, .slice none 0 0, .slice none 0 0, .int .i64 0, .int .i64 0, .string ByteArray.empty, .slice up k uc][o]? := U0.out.ds.cells
      have fz := U0.out.ds.frozen
      have c5 : ∀ o, wu0.cell? ⟨wA.heap.size, o, none⟩ = #[.pointer (some ⟨x, 0, none⟩)][o]? := U0.out.ds.other (wA.heap.size, #[.pointer (some ⟨x, 0, none⟩)], 123) (by simp)
      have c8 : ∀ o, wu0.cell? ⟨wB.heap.size, o, none⟩ = #[.bool false, .bool false, .bool false, .bool false, .bool true][o]? := U0.out.ds.other (wB.heap.size, #[.bool false, .bool false, .bool false, .bool false, .bool true], 126) (by simp)
      have cu : ∀ o, wu0.cell? ⟨wr.heap.size, o, none⟩ = #[.int .i64 0, .int .i64 0, .string ⟨#[]⟩][o]? := U0.out.ucells
      have fu := U0.out.ufrozen
      go_wp2_with fail
      refine (number_at x _ _ _ _ A0.out U0.out.ds.rd).mono ?_
      rintro e wv0 ⟨⟨er, rfl⟩, hr, ht⟩
      clear ml fz c5 c8 cu fu
      have V0 := hid (U0.out.read rdLaw hr ht)
      clear hr ht U0
      have ml : ∀ o, wv0.cell? ⟨w.heap.size, o, none⟩ = #[.int .i64 6, .int .i64 v3, .int .i64 0, .int .i64 0, .slice none 0 0, .slice none 0 0, .int .i64 0, .int .i64 0, .string ByteArray.empty, .slice up k uc][o]? := V0.out.ds.cells
      have fz := V0.out.ds.frozen
      have c5 : ∀ o, wv0.cell? ⟨wA.heap.size, o, none⟩ = #[.pointer (some ⟨x, 0, none⟩)][o]? := V0.out.ds.other (wA.heap.size, #[.pointer (some ⟨x, 0, none⟩)], 123) (by simp)
      have c8 : ∀ o, wv0.cell? ⟨wB.heap.size, o, none⟩ = #[.bool false, .bool false, .bool false, .bool false, .bool true][o]? := V0.out.ds.other (wB.heap.size, #[.bool false, .bool false, .bool false, .bool false, .bool true], 126) (by simp)
      have cu : ∀ o, wv0.cell? ⟨wr.heap.size, o, none⟩ = #[.int .i64 0, .int .i64 0, .string ⟨#[]⟩][o]? := V0.out.ucells
      have fu := V0.out.ufrozen
      go_upto_region 26 with fail
      clear ml fz c5 c8 cu fu
      have U1 := hid (V0.out.put rdLaw 0 (.int .i64 a0) #[.int .i64 a0, .int .i64 0, .string ⟨#[]⟩] rfl)
      clear V0
      generalize wv0.setCell ⟨wr.heap.size, 0, none⟩ (.int .i64 a0) = wu1 at U1 ⊢
      have ml : ∀ o, wu1.cell? ⟨w.heap.size, o, none⟩ = #[.int .i64 6, .int .i64 v3, .int .i64 0, .int .i64 0, .slice none 0 0, .slice none 0 0, .int .i64 0, .int .i64 0, .string ByteArray.empty, .slice up k uc][o]? := U1.out.ds.cells
      have fz := U1.out.ds.frozen
      have c5 : ∀ o, wu1.cell? ⟨wA.heap.size, o, none⟩ = #[.pointer (some ⟨x, 0, none⟩)][o]? := U1.out.ds.other (wA.heap.size, #[.pointer (some ⟨x, 0, none⟩)], 123) (by simp)
      have c8 : ∀ o, wu1.cell? ⟨wB.heap.size, o, none⟩ = #[.bool false, .bool false, .bool false, .bool false, .bool true][o]? := U1.out.ds.other (wB.heap.size, #[.bool false, .bool false, .bool false, .bool false, .bool true], 126) (by simp)
      have cu : ∀ o, wu1.cell? ⟨wr.heap.size, o, none⟩ = #[.int .i64 a0, .int .i64 0, .string ⟨#[]⟩][o]? := U1.out.ucells
      have fu := U1.out.ufrozen
      go_wp2_with fail
      refine (number_at x _ _ _ _ A1.out U1.out.ds.rd).mono ?_
      rintro e wv1 ⟨⟨er, rfl⟩, hr, ht⟩
      clear ml fz c5 c8 cu fu
      have V1 := hid (U1.out.read rdLaw hr ht)
      clear hr ht U1
      have ml : ∀ o, wv1.cell? ⟨w.heap.size, o, none⟩ = #[.int .i64 6, .int .i64 v3, .int .i64 0, .int .i64 0, .slice none 0 0, .slice none 0 0, .int .i64 0, .int .i64 0, .string ByteArray.empty, .slice up k uc][o]? := V1.out.ds.cells
      have fz := V1.out.ds.frozen
      have c5 : ∀ o, wv1.cell? ⟨wA.heap.size, o, none⟩ = #[.pointer (some ⟨x, 0, none⟩)][o]? := V1.out.ds.other (wA.heap.size, #[.pointer (some ⟨x, 0, none⟩)], 123) (by simp)
      have c8 : ∀ o, wv1.cell? ⟨wB.heap.size, o, none⟩ = #[.bool false, .bool false, .bool false, .bool false, .bool true][o]? := V1.out.ds.other (wB.heap.size, #[.bool false, .bool false, .bool false, .bool false, .bool true], 126) (by simp)
      have cu : ∀ o, wv1.cell? ⟨wr.heap.size, o, none⟩ = #[.int .i64 a0, .int .i64 0, .string ⟨#[]⟩][o]? := V1.out.ucells
      have fu := V1.out.ufrozen
      go_upto_region 27 with fail
      clear ml fz c5 c8 cu fu
      have U2 := hid (V1.out.put rdLaw 1 (.int .i64 a1) #[.int .i64 a0, .int .i64 a1, .string ⟨#[]⟩] rfl)
      clear V1
      generalize wv1.setCell ⟨wr.heap.size, 1, none⟩ (.int .i64 a1) = wu2 at U2 ⊢
      have ml : ∀ o, wu2.cell? ⟨w.heap.size, o, none⟩ = #[.int .i64 6, .int .i64 v3, .int .i64 0, .int .i64 0, .slice none 0 0, .slice none 0 0, .int .i64 0, .int .i64 0, .string ByteArray.empty, .slice up k uc][o]? := U2.out.ds.cells
      have fz := U2.out.ds.frozen
      have c5 : ∀ o, wu2.cell? ⟨wA.heap.size, o, none⟩ = #[.pointer (some ⟨x, 0, none⟩)][o]? := U2.out.ds.other (wA.heap.size, #[.pointer (some ⟨x, 0, none⟩)], 123) (by simp)
      have c8 : ∀ o, wu2.cell? ⟨wB.heap.size, o, none⟩ = #[.bool false, .bool false, .bool false, .bool false, .bool true][o]? := U2.out.ds.other (wB.heap.size, #[.bool false, .bool false, .bool false, .bool false, .bool true], 126) (by simp)
      have cu : ∀ o, wu2.cell? ⟨wr.heap.size, o, none⟩ = #[.int .i64 a0, .int .i64 a1, .string ⟨#[]⟩][o]? := U2.out.ucells
      have fu := U2.out.ufrozen
      go_wp2_with fail
      refine (txt87_at _ x _ _ _ _ A2.out (c5 0) U2.out.ds.rd).mono ?_
      rintro e wv2 ⟨rfl, hr, ht⟩
      clear ml fz c5 c8 cu fu
      have V2 := hid (U2.out.read rdLaw hr ht)
      clear hr ht U2
      have ml : ∀ o, wv2.cell? ⟨w.heap.size, o, none⟩ = #[.int .i64 6, .int .i64 v3, .int .i64 0, .int .i64 0, .slice none 0 0, .slice none 0 0, .int .i64 0, .int .i64 0, .string ByteArray.empty, .slice up k uc][o]? := V2.out.ds.cells
      have fz := V2.out.ds.frozen
      have c5 : ∀ o, wv2.cell? ⟨wA.heap.size, o, none⟩ = #[.pointer (some ⟨x, 0, none⟩)][o]? := V2.out.ds.other (wA.heap.size, #[.pointer (some ⟨x, 0, none⟩)], 123) (by simp)
      have c8 : ∀ o, wv2.cell? ⟨wB.heap.size, o, none⟩ = #[.bool false, .bool false, .bool false, .bool false, .bool true][o]? := V2.out.ds.other (wB.heap.size, #[.bool false, .bool false, .bool false, .bool false, .bool true], 126) (by simp)
      have cu : ∀ o, wv2.cell? ⟨wr.heap.size, o, none⟩ = #[.int .i64 a0, .int .i64 a1, .string ⟨#[]⟩][o]? := V2.out.ucells
      have fu := V2.out.ufrozen
      go_upto_region 28 with fail
      clear ml fz c5 c8 cu fu
      have U3 := hid (V2.out.put rdLaw 2 (.string a2) #[.int .i64 a0, .int .i64 a1, .string a2] rfl)
      clear V2
      generalize wv2.setCell ⟨wr.heap.size, 2, none⟩ (.string a2) = wu3 at U3 ⊢
      have ml : ∀ o, wu3.cell? ⟨w.heap.size, o, none⟩ = #[.int .i64 6, .int .i64 v3, .int .i64 0, .int .i64 0, .slice none 0 0, .slice none 0 0, .int .i64 0, .int .i64 0, .string ByteArray.empty, .slice up k uc][o]? := U3.out.ds.cells
      have fz := U3.out.ds.frozen
      have c5 : ∀ o, wu3.cell? ⟨wA.heap.size, o, none⟩ = #[.pointer (some ⟨x, 0, none⟩)][o]? := U3.out.ds.other (wA.heap.size, #[.pointer (some ⟨x, 0, none⟩)], 123) (by simp)
      have c8 : ∀ o, wu3.cell? ⟨wB.heap.size, o, none⟩ = #[.bool false, .bool false, .bool false, .bool false, .bool true][o]? := U3.out.ds.other (wB.heap.size, #[.bool false, .bool false, .bool false, .bool false, .bool true], 126) (by simp)
      have cu : ∀ o, wu3.cell? ⟨wr.heap.size, o, none⟩ = #[.int .i64 a0, .int .i64 a1, .string a2][o]? := U3.out.ucells
      have fu := U3.out.ufrozen
      have UN : Hid (wu3.ownsRow w.heap.size 133 3 (.slice up k uc) k (opnVals (rdOpens k s4).1)) := hid (by have h := U3.out.ds.un; dsimp only at h; rw [rdOpens_length] at h; exact h)
      have UL : Hid (w.heap.size ≤ wu3.heap.size) := hid U3.out.ds.new.size
      have DV := hid U3.out.ds
      have HL : Hid ((rdOpens k s4).1.length = k) := hid (rdOpens_length k s4)
      have HN := hid (rdOpens_next A0.out A1.out A2.out)
      clear A0 A1 A2 D U3
      go_wp2_with (at_builtin; with_reducible refine app_opens rfl _ _ rfl w.heap.size (.slice up k uc) k _ rfl (own_new UN.out ((New.refl wu3).alloc _ _)) _ a0 a1 a2 rfl ?c0 ?c1 ?c2 (by omega) (by have := UL.out; simp; omega) ?_)
      case c0 => exact cells_of (heap_alloc_new wu3 _) 0
      case c1 => exact cells_of (heap_alloc_new wu3 _) 1
      case c2 => exact cells_of (heap_alloc_new wu3 _) 2
      intro v' w' hown hg _
      obtain ⟨A', c', rfl⟩ := own_len hown
      have DG := hid (DV.out.grow rdLaw ((New.refl wu3).alloc _ _) (by dsimp only; rw [HL.out]; exact hown) hg (⟨6, v3, 0, 0, ByteArray.empty, ByteArray.empty, 0, 0, ByteArray.empty, (rdOpens (k + 1) s4).1⟩ : Rec) (by rw [HN.out]))
      have HT := hid (congrArg Prod.snd HN.out)
      have HB9 := hid (DV.out.newer rdLaw ((New.refl wu3).alloc #[.int .i64 a0, .int .i64 a1, .string a2] 133))
      clear ml fz c5 c8 cu fu
      have fzg : ∀ o, w'.frozen? ⟨w.heap.size, o, none⟩ = false := by
        have h1 := HB9.out
        refine frozen_of (c := ?cc) (t := ?tt) ?_
        case cc => exact recCells (⟨6, v3, 0, 0, ByteArray.empty, ByteArray.empty, 0, 0, ByteArray.empty, (rdOpens k s4).1⟩ : Rec) (.slice none 0 0) (.slice none 0 0) (.slice up k uc)
        case tt => exact 70
        rw [hg.block _ (Array.getElem?_eq_some_iff.1 h1.rc).1 (fun e => own_ne h1.un h1.rc (by decide) e.symm)]
        exact h1.rc
      have clg : ∀ o, w'.cell? ⟨w.heap.size, o, none⟩ = (recCells (⟨6, v3, 0, 0, ByteArray.empty, ByteArray.empty, 0, 0, ByteArray.empty, (rdOpens k s4).1⟩ : Rec) (.slice none 0 0) (.slice none 0 0) (.slice up k uc))[o]? := by
        have h1 := HB9.out
        refine cells_of (t := 70) (f := (0, 0)) ?_
        rw [hg.block _ (Array.getElem?_eq_some_iff.1 h1.rc).1 (fun e => own_ne h1.un h1.rc (by decide) e.symm)]
        exact h1.rc
      clear HB9 DV UN UL HL HN hown hg
      go_wp2
      clear fzg clg
      go_roundw
      case rel => exact ⟨k + 1, by omega, by go_num, hid ⟨_, by have h := DG.out; rw [show t2 = (rdOpens (k + 1) s4).2 from HT.out.symm] at h; exact h⟩⟩
      case measure => simp [intOf]; omega
    · obtain rfl : k = n4 := by omega
      have OM : Hid ((rdOpens k s4).1.length = k) := hid (rdOpens_length k s4)
      obtain ⟨us, sE, EO⟩ : ∃ us sE, rdOpens k s4 = (us, sE) := ⟨_, _, rfl⟩
      rw [EO] at D
      dsimp only at D
      have EO := hid EO
      clear OM b4 hk
      have ml : ∀ o, wr.cell? ⟨w.heap.size, o, none⟩ = #[.int .i64 6, .int .i64 v3, .int .i64 0, .int .i64 0, .slice none 0 0, .slice none 0 0, .int .i64 0, .int .i64 0, .string ByteArray.empty, .slice up k uc][o]? := D.out.cells
      have fz := D.out.frozen
      have c5 : ∀ o, wr.cell? ⟨wA.heap.size, o, none⟩ = #[.pointer (some ⟨x, 0, none⟩)][o]? := D.out.other (wA.heap.size, #[.pointer (some ⟨x, 0, none⟩)], 123) (by simp)
      have c8 : ∀ o, wr.cell? ⟨wB.heap.size, o, none⟩ = #[.bool false, .bool false, .bool false, .bool false, .bool true][o]? := D.out.other (wB.heap.size, #[.bool false, .bool false, .bool false, .bool false, .bool true], 126) (by simp)
      have HR : Hid (decRec l = ((⟨6, v3, 0, 0, ByteArray.empty, ByteArray.empty, 0, 0, ByteArray.empty, us⟩ : Rec), sE)) := hid (by simp [decRec, HH.out, decRest, recK, E4.out, EO.out])
      have HA := hid (show RecAt wr (⟨6, v3, 0, 0, ByteArray.empty, ByteArray.empty, 0, 0, ByteArray.empty, us⟩ : Rec) (.slice none 0 0) (.slice none 0 0) (.slice up k uc) from D.out.at)
      clear E0 E1 E2 E3 E4 EO
      have fin := fun (h : decOk l = false) => h
      clear fin
      have OK : Hid (decOk l = (decide (sE = some []) && decide (v0 = (l.length : Int)) && wi 1 v1 1000000 && validB (⟨6, v3, 0, 0, ByteArray.empty, ByteArray.empty, 0, 0, ByteArray.empty, us⟩ : Rec))) := hid (by simp [decOk, HR.out, HH.out])
      by_cases f1 : sE = some []
      case neg =>
        have g1 : decide (sE = some []) = false := decide_eq_false f1
        have NO : Hid (decOk l = false) := hid (by rw [OK.out, g1]; rfl)
        clear f1
        go_wp2_with fail
        refine (done_any x _ _ D.out.rd).mono ?_
        rintro e w' ⟨rfl, rfl⟩
        rw [g1]
        clear HA HR HH OK g1
        go_upto_region 31 with fail
        clear ml fz c5 c8
        have ml : ∀ o, wr.cell? ⟨w.heap.size, o, none⟩ = #[.int .i64 6, .int .i64 v3, .int .i64 0, .int .i64 0, .slice none 0 0, .slice none 0 0, .int .i64 0, .int .i64 0, .string ByteArray.empty, .slice up k uc][o]? := D.out.cells
        have fz := D.out.frozen
        go_wp2
        have hs := set10 D.out.rc (.int .i64 0) (.int .i64 0) (.int .i64 0) (.int .i64 0) (.slice none 0 0) (.slice none 0 0) (.int .i64 0) (.int .i64 0) (.string ⟨#[]⟩) (.slice none 0 0)
        generalize hW : World.setCell _ _ _ = W
        rw [hW] at hs
        clear hW
        (try simp only [Exit.inBlock, Exit.then])
        refine bodyPost_ret (tmp_cell_tmp_res rfl _ _ w.heap.size 70 _ (0, 0) rfl hs.1 rfl) rfl ?_
        exact dec_no_back NO.out (D.out.last hs.2).2
      have g1 : decide (sE = some []) = true := decide_eq_true f1
      clear f1
      by_cases f2 : v0 = (l.length : Int)
      case neg =>
        have g2 : (v0 == (l.length : Int)) = false := by simpa using f2
        have g2b : (v0 != (l.length : Int)) = true := by simpa using f2
        have g2c : decide (v0 = (l.length : Int)) = false := decide_eq_false f2
        have NO : Hid (decOk l = false) := hid (by rw [OK.out, decide_eq_false f2]; simp)
        clear f2
        go_wp2_with fail
        refine (done_any x _ _ D.out.rd).mono ?_
        rintro e w' ⟨rfl, rfl⟩
        rw [g1]
        clear HA HR HH OK g1
        go_upto_region 31 with fail
        clear ml fz c5 c8
        have ml : ∀ o, wr.cell? ⟨w.heap.size, o, none⟩ = #[.int .i64 6, .int .i64 v3, .int .i64 0, .int .i64 0, .slice none 0 0, .slice none 0 0, .int .i64 0, .int .i64 0, .string ByteArray.empty, .slice up k uc][o]? := D.out.cells
        have fz := D.out.frozen
        go_wp2
        have hs := set10 D.out.rc (.int .i64 0) (.int .i64 0) (.int .i64 0) (.int .i64 0) (.slice none 0 0) (.slice none 0 0) (.int .i64 0) (.int .i64 0) (.string ⟨#[]⟩) (.slice none 0 0)
        generalize hW : World.setCell _ _ _ = W
        rw [hW] at hs
        clear hW
        (try simp only [Exit.inBlock, Exit.then])
        refine bodyPost_ret (tmp_cell_tmp_res rfl _ _ w.heap.size 70 _ (0, 0) rfl hs.1 rfl) rfl ?_
        exact dec_no_back NO.out (D.out.last hs.2).2
      have F2 := hid f2
      have g2 : (v0 == (l.length : Int)) = true := by simpa using f2
      have g2b : (v0 != (l.length : Int)) = false := by simpa using f2
      clear f2
      by_cases g3 : wi 1 v1 1000000 = true
      case neg =>
        have g3 : wi 1 v1 1000000 = false := by simpa using g3
        have NO : Hid (decOk l = false) := hid (by rw [OK.out, g3]; simp)
        go_wp2_with fail
        refine (done_any x _ _ D.out.rd).mono ?_
        rintro e w' ⟨rfl, rfl⟩
        rw [g1]
        go_wp2_with fail
        refine (within_any _ _ _ _).mono ?_
        rintro e w' ⟨rfl, rfl⟩
        rw [g3]
        clear HA HR HH OK g1 g2 g3
        go_upto_region 31 with fail
        clear ml fz c5 c8
        have ml : ∀ o, wr.cell? ⟨w.heap.size, o, none⟩ = #[.int .i64 6, .int .i64 v3, .int .i64 0, .int .i64 0, .slice none 0 0, .slice none 0 0, .int .i64 0, .int .i64 0, .string ByteArray.empty, .slice up k uc][o]? := D.out.cells
        have fz := D.out.frozen
        go_wp2
        have hs := set10 D.out.rc (.int .i64 0) (.int .i64 0) (.int .i64 0) (.int .i64 0) (.slice none 0 0) (.slice none 0 0) (.int .i64 0) (.int .i64 0) (.string ⟨#[]⟩) (.slice none 0 0)
        generalize hW : World.setCell _ _ _ = W
        rw [hW] at hs
        clear hW
        (try simp only [Exit.inBlock, Exit.then])
        refine bodyPost_ret (tmp_cell_tmp_res rfl _ _ w.heap.size 70 _ (0, 0) rfl hs.1 rfl) rfl ?_
        exact dec_no_back NO.out (D.out.last hs.2).2
      by_cases g4 : validB (⟨6, v3, 0, 0, ByteArray.empty, ByteArray.empty, 0, 0, ByteArray.empty, us⟩ : Rec) = true
      case neg =>
        have g4 : validB (⟨6, v3, 0, 0, ByteArray.empty, ByteArray.empty, 0, 0, ByteArray.empty, us⟩ : Rec) = false := by simpa using g4
        have NO : Hid (decOk l = false) := hid (by rw [OK.out, g4]; simp)
        go_wp2_with fail
        refine (done_any x _ _ D.out.rd).mono ?_
        rintro e w' ⟨rfl, rfl⟩
        rw [g1]
        go_wp2_with fail
        refine (within_any _ _ _ _).mono ?_
        rintro e w' ⟨rfl, rfl⟩
        rw [g3]
        go_wp2_with fail
        refine (valid_any _ _ _ _ _ HA.out).mono ?_
        rintro e wv ⟨rfl, nv⟩
        rw [g4]
        have DV := hid (D.out.newer rdLaw nv)
        clear nv
        clear HA HR HH OK g1 g2 g3 g4
        go_upto_region 31 with fail
        clear ml fz c5 c8
        have ml : ∀ o, wv.cell? ⟨w.heap.size, o, none⟩ = #[.int .i64 6, .int .i64 v3, .int .i64 0, .int .i64 0, .slice none 0 0, .slice none 0 0, .int .i64 0, .int .i64 0, .string ByteArray.empty, .slice up k uc][o]? := DV.out.cells
        have fz := DV.out.frozen
        go_wp2
        have hs := set10 DV.out.rc (.int .i64 0) (.int .i64 0) (.int .i64 0) (.int .i64 0) (.slice none 0 0) (.slice none 0 0) (.int .i64 0) (.int .i64 0) (.string ⟨#[]⟩) (.slice none 0 0)
        generalize hW : World.setCell _ _ _ = W
        rw [hW] at hs
        clear hW
        (try simp only [Exit.inBlock, Exit.then])
        refine bodyPost_ret (tmp_cell_tmp_res rfl _ _ w.heap.size 70 _ (0, 0) rfl hs.1 rfl) rfl ?_
        exact dec_no_back NO.out (DV.out.last hs.2).2
      have YES : Hid (decOk l = true) := hid (by rw [OK.out, g1, decide_eq_true F2.out, g3, g4]; rfl)
      go_wp2_with fail
      refine (done_any x _ _ D.out.rd).mono ?_
      rintro e w' ⟨rfl, rfl⟩
      rw [g1]
      go_wp2_with fail
      refine (within_any _ _ _ _).mono ?_
      rintro e w' ⟨rfl, rfl⟩
      rw [g3]
      go_wp2_with fail
      refine (valid_any _ _ _ _ _ HA.out).mono ?_
      rintro e wv ⟨rfl, nv⟩
      rw [g4]
      have DV := hid (D.out.newer rdLaw nv)
      clear nv ml fz c5 c8 g1 g2 g2b g3 g4
      have ml : ∀ o, wv.cell? ⟨w.heap.size, o, none⟩ = #[.int .i64 6, .int .i64 v3, .int .i64 0, .int .i64 0, .slice none 0 0, .slice none 0 0, .int .i64 0, .int .i64 0, .string ByteArray.empty, .slice up k uc][o]? := DV.out.cells
      have fz := DV.out.frozen
      go_upto_region 32 with fail
      go_region
      go_wp2
      have hs := set10 DV.out.rc (.int .i64 6) (.int .i64 v3) (.int .i64 0) (.int .i64 0) (.slice none 0 0) (.slice none 0 0) (.int .i64 0) (.int .i64 0) (.string ByteArray.empty) (.slice up k uc)
      generalize hW : World.setCell _ _ _ = W
      rw [hW] at hs
      clear hW
      (try simp only [Exit.inBlock, Exit.then])
      refine bodyPost_ret (tmp_cell_tmp_res rfl _ _ w.heap.size 70 _ (0, 0) rfl hs.1 rfl) rfl ?_
      exact dec_yes_back YES.out HR.out (by rw [HH.out]) ((DV.out.last hs.2).1.new (New.refl W).drew) (DV.out.last hs.2).2.drew

theorem decode_any (bv : Value) (l : List UInt8) (w : World) (h : Bytes w bv (bytesOf l)) (hl : l.length ≤ 1000000) : Calls Tryz.prog 58 #[bv] w (DecBack l w) := by
  by_cases h1 : (decHead l).kind = 1
  · exact decode_1 bv l w h hl h1
  by_cases h2 : (decHead l).kind = 2
  · exact decode_2 bv l w h hl h2
  by_cases h3 : (decHead l).kind = 3
  · exact decode_3 bv l w h hl h3
  by_cases h4 : (decHead l).kind = 4
  · exact decode_4 bv l w h hl h4
  by_cases h5 : (decHead l).kind = 5
  · exact decode_5 bv l w h hl h5
  by_cases h6 : (decHead l).kind = 6
  · exact decode_6 bv l w h hl h6
  by_cases h7 : (decHead l).kind = 7
  · exact decode_7 bv l w h hl h7
  refine decode_0 bv l w h hl fun k a b => ?_
  obtain rfl | rfl | rfl | rfl | rfl | rfl | rfl : k = 1 ∨ k = 2 ∨ k = 3 ∨ k = 4 ∨ k = 5 ∨ k = 6 ∨ k = 7 := by omega
  all_goals assumption

end Go.Proofs.YtdccbceaajnajaaGreat
