/- On, of the program and of the specification: bytes with a record laid in them. Few: records are at most 60, of at most 300 bytes and 20 units. The law ReplayOn: it returns true. -/
import Derived.Test.YtmchbciofdokfaaW32
import Derived.Test.YtmchbciofdokfaaW28
import Derived.ArgAppend
import Derived.Test.YtmchbciofdokfaaE1
namespace Go.Proofs.Ytmchbciofdokfaa
open Go.RowKit
set_option linter.unusedSimpArgs false
set_option linter.unusedVariables false

/-- What On returns: bytes, and an error. -/
def onB (s : ByteArray) (r : Rec) : ByteArray × Int := if s.size = 128 ∧ validB r = true ∧ (r.kind = 1 ∨ r.kind = 2) then (layB s r.at_.toNat r.after, 0) else (ByteArray.empty, 2)
def OnIs (s : ByteArray) (r : Rec) (w : World) (e : Ending) (w' : World) : Prop := ∃ p c, e = .returned (.tuple #[.slice p (onB s r).1.size c, .int .i64 (onB s r).2]) ∧ Bytes w' (.slice p (onB s r).1.size c) (onB s r).1 ∧ New w w'
theorem onB_no {s : ByteArray} {r : Rec} (h : ¬ (s.size = 128 ∧ validB r = true ∧ (r.kind = 1 ∨ r.kind = 2))) : onB s r = (ByteArray.empty, 2) := if_neg h
theorem onB_yes {s : ByteArray} {r : Rec} (h : s.size = 128 ∧ validB r = true ∧ (r.kind = 1 ∨ r.kind = 2)) : onB s r = (layB s r.at_.toNat r.after, 0) := if_pos h
theorem on_no {s : ByteArray} {r : Rec} {w w' : World} (h : ¬ (s.size = 128 ∧ validB r = true ∧ (r.kind = 1 ∨ r.kind = 2))) (hn : New w w') : OnIs s r w (.returned (.tuple #[.slice none 0 0, .int .i64 2])) w' := by
  unfold OnIs
  rw [onB_no h]
  exact ⟨none, 0, rfl, ⟨none, 0, rfl, Nat.le_refl _, Nat.zero_le _, fun h => absurd h (by decide)⟩, hn⟩
/-- slices.Clone of bytes that are there: a row of one's own. -/
def OwnBytes (s : ByteArray) (w : World) (e : Ending) (w' : World) : Prop := ∃ g c, e = .returned (.slice (some ⟨g, 0, none⟩) s.size c) ∧ w'.ownsRow w.heap.size 5 1 (.slice (some ⟨g, 0, none⟩) s.size c) s.size (byteVals s) ∧ New w w'
set_option maxHeartbeats 800000 in
theorem cloneBytes_own (v : Value) (s : ByteArray) (w : World) (h : Bytes w v s) (hs : s.size ≤ 140737488351232) (hp : 0 < s.size) : Calls Try.prog 38 #[v] w (OwnBytes s w) := by
  have h' := h
  obtain ⟨p, c, rfl, h1, h2, h3⟩ := h
  cases p with
  | none =>
    obtain ⟨b, o, e, _⟩ := h3 hp
    cases e
  | some q =>
    have hq := fun (w : World) => Lib.run_eql_slice_nil (P := Try.prog) w 33 5 (some q) s.size c 0 0 Try.underlying33
    have hb1 : Bytes (w.alloc (.cells #[] 5)) (.slice (some q) s.size c) s := RowAt.new h' ((New.refl w).alloc _ _)
    have HB := hid hb1
    have HP := hid hp
    clear hb1 h3 h' hp
    go_enter Try.func38, Try.ntmps38
    go_wp2_with (at_builtin; refine app_any rfl _ _ rfl w.heap.size _ 0 [] rfl (World.ownsRow_lit w #[] 0 (Nat.le_refl _) (by decide) rfl) q c s rfl HB.out ?c1 ?c2 ?_)
    case c1 => omega
    case c2 => simp
    intro v' w' hown hg hblk
    obtain ⟨A, k, rfl⟩ : ∃ A k, v' = .slice A s.size k := by
      rcases hown.2 with ⟨rfl, e⟩ | ⟨g, cap, cur, rfl, _⟩
      · exact ⟨_, _, by rw [e]⟩
      · exact ⟨_, _, rfl⟩
    have HO := hid hown
    have HN : Hid (New w w') := hid (((New.refl w).alloc _ _).grown hg (by simp) (by simp [Value.ownBlock]))
    clear hown hg hblk
    go_wp2
    go_ret
    rcases HO.out.2 with ⟨e, e2⟩ | ⟨g, cap, cur, e, _⟩
    · have := HP.out
      omega
    · injection e with e1 _ e3
      subst e1 e3
      exact ⟨g, k, rfl, HO.out, HN.out⟩
/-- copy(out[at:], after) into a row of one's own. -/
theorem on_copy {w : World} {base g cap an : Nat} {s : ByteArray} (h : w.ownsRow base 5 1 (.slice (some ⟨g, 0, none⟩) 128 cap) 128 (byteVals s)) {bA oA ac : Nat} {t : ByteArray} (hf : an + t.size ≤ 128) (hA : ∀ i, i < (byteVals t).length → w.cell? ⟨bA, oA + i, none⟩ = some ((byteVals t).getD i undef)) :
    ∃ cs : Array Value, (Builtin.copy_ #[33, 33] 3 #[.slice (some ⟨g, an, none⟩) (128 - an) (cap - an), .slice (some ⟨bA, oA, none⟩) t.size ac]).run Try.prog w = .ok (.int .i64 t.size) (w.setRow g cs) ∧
      Bytes (w.setRow g cs) (.slice (some ⟨g, 0, none⟩) 128 cap) (layB s an t) ∧ base ≤ g ∧ g < w.heap.size := by
  have hsl : s.size = 128 := by have := h.1; rw [byteVals_length] at this; omega
  rcases h.2 with ⟨e, e2⟩ | ⟨g', cap', cur, e, hb, hg, hc1, hc2, hsz, htk⟩
  · omega
  · injection e with e1 _ e3
    injection e1 with e1
    injection e1 with e1
    subst e1 e3
    have hlt := (Array.getElem?_eq_some_iff.1 hg).1
    refine ⟨_, run_copy_row (P := Try.prog) w 33 33 3 5 g an (128 - an) (cap - an) ⟨bA, oA, none⟩ t.size ac cur 5 (byteVals t) Try.underlying33 u8_size33 hg (by rw [byteVals_length]; exact (Nat.min_eq_left (by omega)).symm) (fun j v hj => ?_) (by rw [byteVals_length]; omega) (fun v hv => ?_) |>.trans (by rw [byteVals_length]; rfl), ?_, hb, hlt⟩
    · have hj2 := (List.getElem?_eq_some_iff.1 hj).1
      have e : (⟨bA, oA, none⟩ : Addr).add j = ⟨bA, oA + j, none⟩ := by unfold Addr.add; split <;> simp_all
      rw [e, hA j hj2, List.getD_eq_getElem?_getD, hj]
      rfl
    · obtain ⟨u, _, rfl⟩ := List.mem_map.1 hv
      rfl
    · have hls : (layB s an t).size = 128 := by rw [layB_size (by omega), hsl]
      refine ⟨_, cap, by rw [hls], by rw [hls]; exact hc1, hc2, fun _ => ⟨g, 0, rfl, by simpa [World.setRow] using hlt, fun i hi => ?_⟩⟩
      rw [byteVals_length, hls] at hi
      rw [Nat.zero_add, cells_of (setRow_heap w g cur _ 5 (0, 0) hg) i, List.getElem?_toArray, List.getD_eq_getElem?_getD]
      have e1 : byteVals (layB s an t) = (byteVals s).take an ++ byteVals t ++ (byteVals s).drop (an + (byteVals t).length) := (lay_vals (by omega)).symm
      have htk : (cur.toList).take 128 = byteVals s := by simpa using htk
      have hlb := byteVals_length t
      have hcl : cur.toList.length = cap := by simpa using hsz
      have hci : ∀ j, j < 128 → cur.toList[j]? = (byteVals s)[j]? := fun j hj => by rw [← htk, List.getElem?_take, if_pos hj]
      have hbl : (byteVals s).length = 128 := by rw [byteVals_length, hsl]
      have key : (cur.toList.take an ++ byteVals t ++ cur.toList.drop (an + (byteVals t).length))[i]? = (byteVals (layB s an t))[i]? := by
        rw [e1]
        simp only [List.getElem?_append, List.length_append, List.length_take, hbl, hcl]
        have m1 : min an cap = an := by omega
        have m2 : min an 128 = an := by omega
        rw [m1, m2]
        split
        · split
          · rename_i h2
            rw [List.getElem?_take, List.getElem?_take, if_pos h2, if_pos h2, hci i (by omega)]
          · rfl
        · rename_i h2
          rw [List.getElem?_drop, List.getElem?_drop, hci _ (by omega)]
      rw [show an + t.size = an + (byteVals t).length by rw [hlb], key]
      have : i < (byteVals (layB s an t)).length := by rw [byteVals_length, hls]; exact hi
      rw [List.getElem?_eq_getElem this]
      rfl
theorem setRow_new {w w' : World} (h : New w w') {g : Nat} (hg : w.heap.size ≤ g) (cs : Array Value) : New w (w'.setRow g cs) := New.turn h (turn_row w' g cs) (fun k hk e => by
  have e : k = g := e
  omega)
theorem ownsRow_base0 {w : World} {base : Nat} {e : TypeId} {sz : Nat} {v : Value} {n : Nat} {xs : List Value} (h : w.ownsRow base e sz v n xs) : w.ownsRow 0 e sz v n xs := ownsRow_base_a h (Nat.zero_le _)
set_option maxRecDepth 100000 in
set_option maxHeartbeats 4000000 in
theorem on_any (sv : Value) (s : ByteArray) (r : Rec) (bv av uv : Value) (w : World) (hs : Bytes w sv s) (hl : s.size ≤ 1000) (hr : RecAt w r bv av uv) :
    Calls Try.prog 17 #[sv, .agg (recCells r bv av uv)] w (OnIs s r w) := by
  have hs' := hs
  obtain ⟨sp, sc, rfl, s1, s2, s3⟩ := hs
  obtain ⟨⟨bp, bc, rfl, -, -, -⟩, ⟨ap, ac, rfl, a7, a8, a9⟩, ⟨up, uc, rfl, -, -, -⟩⟩ := id hr
  have na : New w (w.alloc (.cells (recCells r (.slice bp r.before.size bc) (.slice ap r.after.size ac) (.slice up r.units.length uc)) 36)) := (New.refl w).alloc _ _
  have HNA := hid na
  have HR := hid hr
  have HB := hid hs'
  by_cases hz : s.size = 128
  case neg =>
    have HX := hid (on_no (r := r) (fun h => hz h.1) na)
    have t0 : ((s.size : Int) != 128) = true := bne_iff_ne.2 (by omega)
    clear hz hs' s3 na hr a9
    go_enter Try.func17, Try.ntmps17
    go_wp2
    go_ret2
    exact HX.out
  have HQ := hid (alloc_block w (.cells (recCells r (.slice bp r.before.size bc) (.slice ap r.after.size ac) (.slice up r.units.length uc)) 36))
  have HZ := hid hz
  rw [hz]
  have HRA := hid a9
  clear hz s3 hr a9 hs' s1 s2
  go_enter Try.func17, Try.ntmps17
  go_wp2_with fail
  refine (valid_any r _ _ _ _ (HR.out.new na)).mono ?_
  rintro e w2 ⟨rfl, n2⟩
  generalize hw1 : w.alloc (.cells (recCells r (.slice bp r.before.size bc) (.slice ap r.after.size ac) (.slice up r.units.length uc)) 36) = w1 at *
  obtain ⟨q, hq0⟩ : ∃ q, w.heap.size = q := ⟨_, rfl⟩
  rw [hq0] at HQ ⊢
  have Q2 := hid ((Below.block n2 q (Array.getElem?_eq_some_iff.1 HQ.out).1).trans HQ.out)
  have N2 := hid (HNA.out.trans n2)
  clear n2 HQ HNA hw1 na hq0
  obtain ⟨mq0, mq1, mq2, mq3, mq4, mq5, mq6, mq7, mq8, mq9⟩ := rec_box Q2.out
  have hqlt := (Array.getElem?_eq_some_iff.1 Q2.out).1
  by_cases hv : validB r = true
  case neg =>
    have hv : validB r = false := by simpa using hv
    have HX := hid (on_no (s := s) (r := r) (w := w) (fun h => by rw [h.2.1] at hv; cases hv) N2.out)
    rw [hv]
    clear hv
    go_wp2
    go_ret2
    exact HX.out
  have HV := hid hv
  rw [hv]
  clear hv
  by_cases hk : r.kind = 1 ∨ r.kind = 2
  case neg =>
    have HX := hid (on_no (s := s) (r := r) (w := w) (fun h => hk h.2.2) N2.out)
    have k1 : (r.kind != 1) = true := bne_iff_ne.2 (fun h => hk (.inl h))
    have k2 : (r.kind != 2) = true := bne_iff_ne.2 (fun h => hk (.inr h))
    clear hk
    go_wp2
    go_ret2
    exact HX.out
  have HON := hid (onB_yes (s := s) (r := r) ⟨HZ.out, HV.out, hk⟩)
  have HP := hid (valid_place HV.out (by unfold lays; rcases hk with h | h <;> rw [h] <;> rfl))
  have hkk : (r.kind != 1) = false ∨ ((r.kind != 1) = true ∧ (r.kind != 2) = false) := by
    rcases hk with h | h
    · exact .inl (by rw [h]; rfl)
    · exact .inr ⟨by rw [h]; rfl, by rw [h]; rfl⟩
  obtain ⟨b0, b1, b2, b3, b4, b5⟩ := place_bounds HP.out
  obtain ⟨an, han, han2⟩ : ∃ n : Nat, r.at_ = (n : Int) ∧ n + r.after.size ≤ 128 := ⟨r.at_.toNat, by omega, by omega⟩
  have HAN := hid han
  obtain ⟨bA, oA, rfl, hbA, hcA⟩ := HRA.out (by omega)
  have HCA := hid hcA
  have HBA := hid hbA
  have han3 : an < 128 := by omega
  clear hk hcA hbA b0 b1 b2 b3 b4 b5 han
  rcases hkk with k1 | ⟨k1, k2⟩
  all_goals
    go_wp2_with fail
    refine (cloneBytes_own _ s _ (by rw [← HZ.out] at *; exact HB.out.new N2.out) (by omega) (by rw [HZ.out]; decide)).mono ?_
    rintro e w3 ⟨g, c, rfl, how, hn3⟩
    rw [HZ.out] at how ⊢
    have HOW := hid how
    have HN3 := hid hn3
    clear how hn3
    have HG0 : Hid (w.heap.size ≤ g) := hid (by have := own_ge HOW.out (k := g) rfl; have := N2.out.size; omega)
    have q3 : w3.drew.cell? ⟨q, 3, none⟩ = some (.int .i64 (an : Int)) := by rw [← HAN.out]; exact ((bcell HN3.out).1 q 3 hqlt).trans mq3
    have q5 : w3.drew.cell? ⟨q, 5, none⟩ = some (.slice (some ⟨bA, oA, none⟩) r.after.size ac) := ((bcell HN3.out).1 q 5 hqlt).trans mq5
    obtain ⟨hcap, hgl⟩ : 128 ≤ c ∧ g < w3.heap.size := by
      rcases HOW.out.2 with ⟨e, e2⟩ | ⟨g', cap', cur, e, hb, hg, hc1, hc2, hsz, htk⟩
      · omega
      · injection e with e1 _ e3
        injection e1 with e1
        injection e1 with e1
        subst e1 e3
        exact ⟨hc1, (Array.getElem?_eq_some_iff.1 hg).1⟩
    obtain ⟨cs, hcp, hby, hge, hgl2⟩ := on_copy (w := w3.drew) (base := 0) (g := g) (cap := c) (an := an) (s := s) (own_old (ownsRow_base0 HOW.out) (New.refl w3).drew) (bA := bA) (oA := oA) (ac := ac) (t := r.after) han2 (fun i hi => ((bcell (N2.out.trans (HN3.out.trans (New.refl w3).drew))).1 bA (oA + i) HBA.out).trans (HCA.out i hi))
    have HBY := hid hby
    have hne : ¬ c = an := by omega
    have hne2 : ¬ 128 = an := by omega
    have hac1 : (an : Int) ≤ 128 := by omega
    have hac0 : (0 : Int) ≤ (an : Int) := by omega
    clear hby hge mq0 mq1 mq2 mq3 mq4 mq5 mq6 mq7 mq8 mq9
    go_wp2_with fail
    go_region
    have NF : Hid (New w (w3.drew.setRow g cs)) := hid (setRow_new ((N2.out.trans HN3.out).trans (New.refl w3).drew) HG0.out cs)
    clear hcp q3 q5 hne hne2 hac0 hac1
    generalize w3.drew.setRow g cs = w5 at *
    have HX : Hid (OnIs s r w (.returned (.tuple #[.slice (some ⟨g, 0, none⟩) 128 c, .int .i64 0])) w5) := hid (by
      unfold OnIs
      have e1 : (layB s r.at_.toNat r.after).size = 128 := by
        have h1 : r.at_.toNat = an := by have := HAN.out; omega
        rw [h1, layB_size (by rw [HZ.out]; exact han2), HZ.out]
      rw [HON.out]
      refine ⟨some ⟨g, 0, none⟩, c, ?_, ?_, NF.out⟩
      · show Ending.returned _ = Ending.returned (.tuple #[.slice _ (layB s r.at_.toNat r.after).size c, _])
        rw [e1]
      · show Bytes w5 (.slice _ (layB s r.at_.toNat r.after).size c) (layB s r.at_.toNat r.after)
        rw [e1]
        have h1 : r.at_.toNat = an := by have := HAN.out; omega
        rw [h1]
        exact HBY.out)
    go_wp2
    go_ret2
    exact HX.out
/-- append([]byte{}, u...), at the list of a region's operations. -/
theorem list_app_own {ops : Array Oper} {rest : List Oper} {o : Oper} {a : Act} {w : World} {Q : Exit → Act → World → Prop} (hgd : o.guard = none) (sl x : Operand)
    (ho : o.op = .call { callee := .builtin .append, args := #[sl, x], argTypes := #[33, 33] }) (g : Nat) (u : Value) (s : ByteArray) (hs : a.eval sl = .slice (some ⟨g, 0, none⟩) 0 0) (hx : a.eval x = u)
    (hu : Bytes w u s) (hp : 0 < s.size) (hb : s.size ≤ 1000000)
    (h : ∀ g c w', w'.ownsRow w.heap.size 5 1 (.slice (some ⟨g, 0, none⟩) s.size c) s.size (byteVals s) → New w w' → wpList Try.prog ops Q rest (a.put o.dst (.slice (some ⟨g, 0, none⟩) s.size c)) w') : wpList Try.prog ops Q (o :: rest) a w := by
  obtain ⟨i0, hi, hz0, hz1, hz2⟩ := info_parts info5
  obtain ⟨pu, cu, rfl, u1, u2, u3⟩ := hu
  obtain ⟨ub, uo, rfl, hub, huc⟩ := u3 hp
  refine wpList_append_grows w hgd sl x 33 ho 5 i0 _ 1 1 Try.underlying33 hi hz0 hz1 hz2 rfl (by decide) (some ⟨g, 0, none⟩) 0 0 [] hs (fun h => by cases h) rfl (fun b hb j y hj => by simp at hj) ⟨ub, uo, none⟩ s.size cu (byteVals s) hx (by rw [byteVals_length]; omega) (fun j y hj => ?_) (fun y hy => ?_) (by omega) (by unfold maxLen; omega) (by omega) fun v' w' h1 h2 => ?_
  · have e : (⟨ub, uo, none⟩ : Addr).add j = ⟨ub, uo + j, none⟩ := by unfold Addr.add; split <;> simp_all
    rw [e, huc j (List.getElem?_eq_some_iff.1 hj).1, List.getD_eq_getElem?_getD, hj]
    rfl
  · obtain ⟨z, _, rfl⟩ := List.mem_map.1 hy
    rfl
  · rw [Nat.zero_add, List.nil_append] at h1
    have hn : New w w' := (New.refl w).grown h2 (Nat.le_refl _) (fun k hk => by cases hk)
    have h1' := h1
    rcases h1.2 with ⟨e, e2⟩ | ⟨g', cap, cur, e, _⟩
    · omega
    · rw [e] at h1' ⊢
      exact h g' cap w' h1' hn
set_option maxRecDepth 100000 in
set_option maxHeartbeats 4000000 in
theorem refOn_any (sv : Value) (s : ByteArray) (r : Rec) (bv av uv : Value) (w : World) (hs : Bytes w sv s) (hl : s.size ≤ 1000) (hr : RecAt w r bv av uv) :
    Calls Try.prog 18 #[sv, .agg (recCells r bv av uv)] w (OnIs s r w) := by
  have hs' := hs
  obtain ⟨sp, sc, rfl, s1, s2, s3⟩ := hs
  obtain ⟨⟨bp, bc, rfl, -, -, -⟩, ⟨ap, ac, rfl, a7, a8, a9⟩, ⟨up, uc, rfl, -, -, -⟩⟩ := id hr
  have na : New w (w.alloc (.cells (recCells r (.slice bp r.before.size bc) (.slice ap r.after.size ac) (.slice up r.units.length uc)) 36)) := (New.refl w).alloc _ _
  have HNA := hid na
  have HR := hid hr
  have HB := hid hs'
  by_cases hz : s.size = 128
  case neg =>
    have HX := hid (on_no (r := r) (fun h => hz h.1) na)
    have t0 : ((s.size : Int) != 128) = true := bne_iff_ne.2 (by omega)
    clear hz hs' s3 na hr a9
    go_enter Try.func18, Try.ntmps18
    go_wp2
    go_ret2
    exact HX.out
  have HQ := hid (alloc_block w (.cells (recCells r (.slice bp r.before.size bc) (.slice ap r.after.size ac) (.slice up r.units.length uc)) 36))
  have HZ := hid hz
  rw [hz]
  have HRA := hid a9
  clear hz s3 hr a9 hs' s1 s2
  go_enter Try.func18, Try.ntmps18
  go_wp2_with fail
  refine (refRec_any r _ _ _ _ (HR.out.new na)).mono ?_
  rintro e w2 ⟨rfl, n2⟩
  generalize hw1 : w.alloc (.cells (recCells r (.slice bp r.before.size bc) (.slice ap r.after.size ac) (.slice up r.units.length uc)) 36) = w1 at *
  obtain ⟨q, hq0⟩ : ∃ q, w.heap.size = q := ⟨_, rfl⟩
  rw [hq0] at HQ ⊢
  have Q2 := hid ((Below.block n2 q (Array.getElem?_eq_some_iff.1 HQ.out).1).trans HQ.out)
  have N2 := hid (HNA.out.trans n2)
  clear n2 HQ HNA hw1 na hq0
  obtain ⟨mq0, mq1, mq2, mq3, mq4, mq5, mq6, mq7, mq8, mq9⟩ := rec_box Q2.out
  have hqlt := (Array.getElem?_eq_some_iff.1 Q2.out).1
  by_cases hv : validB r = true
  case neg =>
    have hv : validB r = false := by simpa using hv
    have HX := hid (on_no (s := s) (r := r) (w := w) (fun h => by rw [h.2.1] at hv; cases hv) N2.out)
    rw [hv]
    clear hv
    go_wp2
    go_ret2
    exact HX.out
  have HV := hid hv
  rw [hv]
  clear hv
  by_cases hk : r.kind = 1 ∨ r.kind = 2
  case neg =>
    have HX := hid (on_no (s := s) (r := r) (w := w) (fun h => hk h.2.2) N2.out)
    have k1 : (r.kind != 1) = true := bne_iff_ne.2 (fun h => hk (.inl h))
    have k2 : (r.kind != 2) = true := bne_iff_ne.2 (fun h => hk (.inr h))
    clear hk
    go_wp2
    go_ret2
    exact HX.out
  have HON := hid (onB_yes (s := s) (r := r) ⟨HZ.out, HV.out, hk⟩)
  have HP := hid (valid_place HV.out (by unfold lays; rcases hk with h | h <;> rw [h] <;> rfl))
  have hkk : (r.kind != 1) = false ∨ ((r.kind != 1) = true ∧ (r.kind != 2) = false) := by
    rcases hk with h | h
    · exact .inl (by rw [h]; rfl)
    · exact .inr ⟨by rw [h]; rfl, by rw [h]; rfl⟩
  obtain ⟨b0, b1, b2, b3, b4, b5⟩ := place_bounds HP.out
  obtain ⟨an, han, han2⟩ : ∃ n : Nat, r.at_ = (n : Int) ∧ n + r.after.size ≤ 128 := ⟨r.at_.toNat, by omega, by omega⟩
  have HAN := hid han
  obtain ⟨bA, oA, rfl, hbA, hcA⟩ := HRA.out (by omega)
  have HCA := hid hcA
  have HBA := hid hbA
  have han3 : an < 128 := by omega
  clear hk hcA hbA b0 b1 b2 b3 b4 b5 han
  rcases hkk with k1 | ⟨k1, k2⟩
  all_goals
    have HB2 : Hid (Bytes (w2.alloc (.cells #[] 5)) (.slice sp 128 sc) s) := hid (by have h := HB.out.new (N2.out.alloc #[] 5); rw [HZ.out] at h; exact h)
    go_wp2_with (at_builtin; refine list_app_own rfl _ _ rfl w2.heap.size _ s rfl rfl HB2.out (by rw [HZ.out]; decide) (by rw [HZ.out]; decide) ?_)
    intro g c w3 how hn3
    rw [HZ.out] at how ⊢
    have HOW := hid (ownsRow_base_a (base' := w2.heap.size) how (by simp))
    have HN3 : Hid (New w2 w3) := hid (((New.refl w2).alloc _ _).trans hn3)
    clear how hn3
    have HG0 : Hid (w.heap.size ≤ g) := hid (by have := own_ge HOW.out (k := g) rfl; have := N2.out.size; omega)
    have q3 : w3.drew.cell? ⟨q, 3, none⟩ = some (.int .i64 (an : Int)) := by rw [← HAN.out]; exact ((bcell HN3.out).1 q 3 hqlt).trans mq3
    have q5 : w3.drew.cell? ⟨q, 5, none⟩ = some (.slice (some ⟨bA, oA, none⟩) r.after.size ac) := ((bcell HN3.out).1 q 5 hqlt).trans mq5
    obtain ⟨hcap, hgl⟩ : 128 ≤ c ∧ g < w3.heap.size := by
      rcases HOW.out.2 with ⟨e, e2⟩ | ⟨g', cap', cur, e, hb, hg, hc1, hc2, hsz, htk⟩
      · omega
      · injection e with e1 _ e3
        injection e1 with e1
        injection e1 with e1
        subst e1 e3
        exact ⟨hc1, (Array.getElem?_eq_some_iff.1 hg).1⟩
    obtain ⟨cs, hcp, hby, hge, hgl2⟩ := on_copy (w := w3.drew) (base := 0) (g := g) (cap := c) (an := an) (s := s) (own_old (ownsRow_base0 HOW.out) (New.refl w3).drew) (bA := bA) (oA := oA) (ac := ac) (t := r.after) han2 (fun i hi => ((bcell (N2.out.trans (HN3.out.trans (New.refl w3).drew))).1 bA (oA + i) HBA.out).trans (HCA.out i hi))
    have HBY := hid hby
    have hne : ¬ c = an := by omega
    have hne2 : ¬ 128 = an := by omega
    have hac1 : (an : Int) ≤ 128 := by omega
    have hac0 : (0 : Int) ≤ (an : Int) := by omega
    clear hby hge mq0 mq1 mq2 mq3 mq4 mq5 mq6 mq7 mq8 mq9
    go_wp2_with fail
    go_region
    have NF : Hid (New w (w3.drew.setRow g cs)) := hid (setRow_new ((N2.out.trans HN3.out).trans (New.refl w3).drew) HG0.out cs)
    clear hcp q3 q5 hne hne2 hac0 hac1
    generalize w3.drew.setRow g cs = w5 at *
    have HX : Hid (OnIs s r w (.returned (.tuple #[.slice (some ⟨g, 0, none⟩) 128 c, .int .i64 0])) w5) := hid (by
      unfold OnIs
      have e1 : (layB s r.at_.toNat r.after).size = 128 := by
        have h1 : r.at_.toNat = an := by have := HAN.out; omega
        rw [h1, layB_size (by rw [HZ.out]; exact han2), HZ.out]
      rw [HON.out]
      refine ⟨some ⟨g, 0, none⟩, c, ?_, ?_, NF.out⟩
      · show Ending.returned _ = Ending.returned (.tuple #[.slice _ (layB s r.at_.toNat r.after).size c, _])
        rw [e1]
      · show Bytes w5 (.slice _ (layB s r.at_.toNat r.after).size c) (layB s r.at_.toNat r.after)
        rw [e1]
        have h1 : r.at_.toNat = an := by have := HAN.out; omega
        rw [h1]
        exact HBY.out)
    go_wp2
    go_ret2
    exact HX.out
end Go.Proofs.Ytmchbciofdokfaa

namespace Go.Proofs.Ytmchbciofdokfaa
open Go.RowKit
set_option linter.unusedSimpArgs false
set_option linter.unusedVariables false

def smallR (r : Rec) : Bool := decide (r.before.size ≤ 300) && decide (r.after.size ≤ 300) && decide (r.text.size ≤ 300) && decide (r.units.length ≤ 20)
def fewB (l : List Rec) : Bool := l.all smallR && decide (l.length ≤ 60)
theorem fewB_no {l : List Rec} {k : Nat} (hk : k < l.length) (h : smallR l[k] = false) : fewB l = false := by
  unfold fewB
  have : l.all smallR = false := by
    rw [List.all_eq_false]
    exact ⟨_, List.getElem_mem hk, by rw [h]; decide⟩
  rw [this, Bool.false_and]
theorem fewB_end {l : List Rec} (h : ∀ j (hj : j < l.length), smallR l[j] = true) : fewB l = decide (l.length ≤ 60) := by
  unfold fewB
  have : l.all smallR = true := by
    rw [List.all_eq_true]
    intro x hx
    obtain ⟨j, hj, rfl⟩ := List.mem_iff_getElem.1 hx
    exact h j hj
  rw [this, Bool.true_and]
def FewIs (l : List Rec) (w : World) (e : Ending) (w' : World) : Prop := e = .returned (.bool (fewB l)) ∧ New w w'
set_option maxRecDepth 100000 in
set_option maxHeartbeats 4000000 in
theorem few_any (v : Value) (l : List Rec) (w : World) (h : Recs w v l) : Calls Try.prog 9 #[v] w (FewIs l w) := by
  obtain ⟨p, c, rfl, hc, hm⟩ := h.form
  have H := hid h
  unfold maxLen at hm
  clear h
  go_enter Try.func9, Try.ntmps9
  go_wp2_with fail
  go_loopw [3, 4] (fun i _ wr => ∃ k : Nat, k ≤ l.length ∧ i = .int .i64 k ∧ Hid (New w wr) ∧ Hid (∀ j (hj : j < l.length), j < k → smallR l[j] = true)) (fun i _ _ => l.length - (intOf i).toNat)
  case atStart => exact ⟨0, Nat.zero_le _, rfl, hid (New.refl w), hid (fun j hj h => absurd h (Nat.not_lt_zero _))⟩
  case round =>
    obtain ⟨k, hk, rfl, hn, hno⟩ := hrel
    by_cases hlt : k < l.length
    · obtain ⟨b, o, p1, c1, p2, c2, p3, c3, rfl, hb, hra, hcells⟩ := recs_facts H.out hn.out hlt
      obtain ⟨y20, y21, y22, y23, y24, y25, y26, y27, y28, y29⟩ := rec_ten (hcells _ (New.refl _))
      have HNO := hid (fewB_no hlt)
      have HGO : Hid (smallR l[k] = true → ∀ j (hj : j < l.length), j < k + 1 → smallR l[j] = true) := hid (fun hs j hj hjk => by
        rcases Nat.lt_or_ge j k with h | h
        · exact hno.out j hj h
        · obtain rfl : j = k := by omega
          exact hs)
      have HN2 := hid (hn.out.trans ((New.refl wr).alloc (recCells l[k] (.slice p1 l[k].before.size c1) (.slice p2 l[k].after.size c2) (.slice p3 l[k].units.length c3)) 36))
      clear hra hcells hno hn
      generalize l[k] = r at *
      by_cases e1 : r.before.size ≤ 300
      case neg =>
        have t1 : decide (300 < (r.before.size : Int)) = true := by simp; omega
        have HX := hid (HNO.out (by unfold smallR; rw [decide_eq_false e1]; rfl))
        clear e1
        go_wp2
        go_ret
        exact ⟨ret_bool HX.out.symm, HN2.out⟩
      have t1 : decide (300 < (r.before.size : Int)) = false := by simp; omega
      by_cases e2 : r.after.size ≤ 300
      case neg =>
        have t2 : decide (300 < (r.after.size : Int)) = true := by simp; omega
        have HX := hid (HNO.out (by unfold smallR; rw [decide_eq_false e2, Bool.and_false]; rfl))
        clear e1 e2
        go_wp2
        go_ret
        exact ⟨ret_bool HX.out.symm, HN2.out⟩
      have t2 : decide (300 < (r.after.size : Int)) = false := by simp; omega
      by_cases e3 : r.text.size ≤ 300
      case neg =>
        have t3 : decide (300 < (r.text.size : Int)) = true := by simp; omega
        have HX := hid (HNO.out (by unfold smallR; rw [decide_eq_false e3, Bool.and_false]; rfl))
        clear e1 e2 e3
        go_wp2
        go_ret
        exact ⟨ret_bool HX.out.symm, HN2.out⟩
      have t3 : decide (300 < (r.text.size : Int)) = false := by simp; omega
      by_cases e4 : r.units.length ≤ 20
      case neg =>
        have t4 : decide (20 < (r.units.length : Int)) = true := by simp; omega
        have HX := hid (HNO.out (by unfold smallR; rw [decide_eq_false e4, Bool.and_false]))
        clear e1 e2 e3 e4
        go_wp2
        go_ret
        exact ⟨ret_bool HX.out.symm, HN2.out⟩
      have t4 : decide (20 < (r.units.length : Int)) = false := by simp; omega
      have HX := hid (HGO.out (by unfold smallR; rw [decide_eq_true e1, decide_eq_true e2, decide_eq_true e3, decide_eq_true e4]; rfl))
      clear e1 e2 e3 e4
      go_wp2
      go_roundw
      case rel => exact ⟨k + 1, by omega, by go_num, HN2, HX⟩
      case measure => simp [intOf]; omega
    · obtain rfl : k = l.length := by omega
      have HE := hid (fewB_end (fun j hj => hno.out j hj hj))
      clear hno
      go_wp2
      go_ret
      exact ⟨ret_bool (by rw [HE.out]; simp; omega), hn.out⟩
end Go.Proofs.Ytmchbciofdokfaa

namespace Go.Proofs.Ytmchbciofdokfaa
open Go.RowKit
set_option linter.unusedSimpArgs false
set_option linter.unusedVariables false

set_option maxRecDepth 100000 in
set_option maxHeartbeats 4000000 in
theorem on_law (sv : Value) (s : ByteArray) (r : Rec) (bv av uv : Value) (w : World) (hs : Bytes w sv s) (hr : RecAt w r bv av uv) :
    Calls Try.prog 4 #[sv, .agg (recCells r bv av uv)] w fun e w' => e = .returned (.bool true) ∧ New w w' := by
  have hs' := hs
  obtain ⟨sp, sc, rfl, s1, s2, s3⟩ := hs
  obtain ⟨⟨bp, bc, rfl, -, -, -⟩, ⟨ap, ac, rfl, -, -, -⟩, ⟨up, uc, rfl, -, -, -⟩⟩ := id hr
  have HR := hid hr
  have HB := hid hs'
  have N1 : Hid (New w (w.alloc (.cells (recCells r (.slice bp r.before.size bc) (.slice ap r.after.size ac) (.slice up r.units.length uc)) 36))) := hid ((New.refl w).alloc _ _)
  clear hs' s3 hr s1 s2
  by_cases hz : s.size ≤ 300
  case neg =>
    have t0 : decide (300 < (s.size : Int)) = true := by simp; omega
    clear hz
    go_enter Try.func4, Try.ntmps4
    go_wp2_with fail
    with_reducible refine (awake_any _).mono ?_
    rintro e w2 ⟨rfl, n2⟩
    have HX := hid (N1.out.trans n2)
    clear n2
    go_wp2
    go_ret
    exact ⟨rfl, HX.out⟩
  have t0 : decide (300 < (s.size : Int)) = false := by simp; omega
  have HZ := hid hz
  have HQ := hid (alloc_block w (.cells (recCells r (.slice bp r.before.size bc) (.slice ap r.after.size ac) (.slice up r.units.length uc)) 36))
  clear hz
  go_enter Try.func4, Try.ntmps4
  go_wp2_with fail
  generalize hw1 : w.alloc (.cells (recCells r (.slice bp r.before.size bc) (.slice ap r.after.size ac) (.slice up r.units.length uc)) 36) = w1 at *
  obtain ⟨q, hq0⟩ : ∃ q, w.heap.size = q := ⟨_, rfl⟩
  rw [hq0] at HQ ⊢
  have hs1 : w1.heap.size = q + 1 := by rw [← hw1, ← hq0]; simp
  have hab := alloc_block w1 (.cells (recCells r (.slice bp r.before.size bc) (.slice ap r.after.size ac) (.slice up r.units.length uc)) 36)
  rw [hs1] at hab
  clear hw1 hq0 hs1
  have NA : Hid (New w1 (w1.alloc (.cells (recCells r (.slice bp r.before.size bc) (.slice ap r.after.size ac) (.slice up r.units.length uc)) 36))) := hid ((New.refl w1).alloc _ _)
  have HRS := hid (recs_one hab (HR.out.new (N1.out.trans NA.out)))
  with_reducible refine (few_any _ [r] _ HRS.out).mono ?_
  rintro e w2 ⟨rfl, n2⟩
  have Q2 := hid ((Below.block (NA.out.trans n2) q (Array.getElem?_eq_some_iff.1 HQ.out).1).trans HQ.out)
  have N2 := hid (N1.out.trans (NA.out.trans n2))
  clear n2 HRS NA HQ hab
  obtain ⟨F, hF⟩ : ∃ F, fewB [r] = F := ⟨_, rfl⟩
  rw [hF]
  clear hF
  cases F
  · go_wp2_with fail
    with_reducible refine (awake_any _).mono ?_
    rintro e w3 ⟨rfl, n3⟩
    have HX := hid (N2.out.trans n3)
    clear n3
    go_wp2
    go_ret
    exact ⟨rfl, HX.out⟩
  · obtain ⟨mq0, mq1, mq2, mq3, mq4, mq5, mq6, mq7, mq8, mq9⟩ := rec_box Q2.out
    go_wp2_with fail
    with_reducible refine (on_any _ s r _ _ _ _ (HB.out.new N2.out) (by have := HZ.out; omega) (HR.out.new N2.out)).mono ?_
    rintro e w3 ⟨p3, c3, rfl, hb3, hn3⟩
    have HB3 := hid hb3
    have N3 := hid (N2.out.trans hn3)
    have Q3 := hid ((Below.block hn3 q (Array.getElem?_eq_some_iff.1 Q2.out).1).trans Q2.out)
    clear hb3 hn3 mq0 mq1 mq2 mq3 mq4 mq5 mq6 mq7 mq8 mq9
    obtain ⟨mq0, mq1, mq2, mq3, mq4, mq5, mq6, mq7, mq8, mq9⟩ := rec_box Q3.out
    go_wp2_with fail
    with_reducible refine (refOn_any _ s r _ _ _ _ (HB.out.new N3.out) (by have := HZ.out; omega) (HR.out.new N3.out)).mono ?_
    rintro e w4 ⟨p4, c4, rfl, hb4, hn4⟩
    have HB4 := hid hb4
    have N4 := hid (N3.out.trans hn4)
    have hcv1 := Bytes.convert (HB3.out.new hn4) 33 5 9 Try.underlying33 Try.underlying5 Try.underlying9
    have hcv2 := Bytes.convert HB4.out 33 5 9 Try.underlying33 Try.underlying5 Try.underlying9
    clear hb4 hn4 mq0 mq1 mq2 mq3 mq4 mq5 mq6 mq7 mq8 mq9
    generalize onB s r = X at *
    go_wp2_with fail
    with_reducible refine (awake_any _).mono ?_
    rintro e w5 ⟨rfl, n5⟩
    have HX := hid (N4.out.trans n5)
    clear n5
    go_wp2
    go_ret
    exact ⟨rfl, HX.out⟩
end Go.Proofs.Ytmchbciofdokfaa
