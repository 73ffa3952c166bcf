/- possible: what it returns. -/
import Derived.Test.YtbclgklpcbajfaaD18
import Derived.Test.YtbclgklpcbajfaaA13
namespace Go.Proofs.Ytbclgklpcbajfaa
open Go.RowKit
set_option linter.unusedSimpArgs false
set_option linter.unusedVariables false

/-- A row of texts of one's own. -/
def Texts (w : World) (base : Nat) (v : Value) (all : List ByteArray) : Prop := w.ownsRow base 9 1 v all.length (all.map Value.string)
theorem textsOf_len (l : List Deed) (ws : List Nat) (m : Int) (was : ByteArray) : (textsOf l ws m was).length ≤ ws.length + 1 ∧ 0 < (textsOf l ws m was).length := by
  refine ⟨?_, by simp [textsOf]⟩
  simp only [textsOf, List.length_cons]
  have := List.length_filterMap_le (fun j => (l[j]?).bind fun a => if a.block = m then some a.bytes else none) ws
  omega
theorem Texts.snoc {w : World} {base : Nat} {v : Value} {all : List ByteArray} {n : Nat} {s : ByteArray} (h : w.ownsRow base 9 1 v (n + 1) (all.map Value.string ++ [.string s])) (hn : n = all.length) : Texts w base v (all ++ [s]) := by
  subst hn
  simpa [Texts] using h
theorem Texts.at {w : World} {base : Nat} {g n c : Nat} {all : List ByteArray} (h : Texts w base (.slice (some ⟨g, 0, none⟩) n c) all) {i : Nat} (hi : i < all.length) : w.cell? ⟨g, i, none⟩ = some (.string all[i]) := by
  have h' : w.ownsRow base 9 1 (.slice (some ⟨g, 0, none⟩) n c) all.length (all.map Value.string) := h
  have hn := h'.2
  have := World.ownsRow.cells h (g := g) rfl i (.string all[i]) (by simp [hi])
  have hadd : (⟨g, 0, none⟩ : Addr).add i = ⟨g, i, none⟩ := by unfold Addr.add; split <;> simp_all
  rw [hadd] at this
  exact this

set_option maxHeartbeats 4000000 in
set_option maxRecDepth 10000 in
theorem possible_any (v u : Value) (l : List Deed) (ws : List Nat) (m : Int) (now was : ByteArray) (k : Nat) (w : World) (h : Deeds w v l) (hu : Nums w u ws) (hin : ∀ j ∈ ws, j < l.length) (hws : ws.length ≤ 1000) (hk : k ≤ 1000)
    (hsz : ∀ a ∈ textsOf l ws m was, a.size ≤ 1000) :
    Calls Try.prog 28 #[v, u, .int .i64 m, .string now, .string was, .int .i64 k] w fun e w' => e = .returned (.bool (possB (textsOf l ws m was) now k)) ∧ New w w' := by
  obtain ⟨gp, gc, rfl, g1, g2, g3⟩ := h
  obtain ⟨up, uc, rfl, u1, u2, u3⟩ := hu
  unfold maxLen at g2 u2
  have G3 := hid g3
  have U3 := hid u3
  have SZ := hid hsz
  have IN := hid hin
  clear g3 u3 hsz hin
  go_enter Try.func28, Try.ntmps28
  go_wp2
  have HT : Hid (Texts (w.alloc (.cells #[.string was] 9)) w.heap.size (.slice (some ⟨w.heap.size, 0, none⟩) 1 1) (textsOf l (ws.take 0) m was)) := hid (World.ownsRow_lit w #[.string was] 1 (Nat.le_refl _) (by decide) rfl)
  have LEN := fun j => hid (textsOf_len l (ws.take j) m was)
  go_loopw [13, 14] (fun s i wr => ∃ j : Nat, j ≤ ws.length ∧ i = .int .i64 j ∧ New w wr ∧ ∃ g c, s = .slice (some ⟨g, 0, none⟩) (textsOf l (ws.take j) m was).length c ∧ Hid (Texts wr w.heap.size s (textsOf l (ws.take j) m was))) (fun _ i _ => ws.length - (intOf i).toNat)
  case atStart => exact ⟨0, Nat.zero_le _, rfl, (New.refl w).alloc _ _, w.heap.size, 1, rfl, HT⟩
  case round =>
    obtain ⟨j, hj, rfl, hnew, g, c, rfl, hT⟩ := hrel
    clear HT
    by_cases hlt : j < ws.length
    · obtain ⟨ub, uo, rfl, hub, huc⟩ := U3.out (by omega)
      have cu := Nums.at huc hlt
      rw [← hnew.cell _ _ hub] at cu
      have hwl : ws[j] < l.length := IN.out _ (List.getElem_mem hlt)
      obtain ⟨b, o, rfl, hb, hc⟩ := G3.out (by omega)
      obtain ⟨_, d1, _, ⟨sv, d3, hs⟩, _⟩ := (hc _ hwl).new hb hnew
      have hb2 : b < wr.heap.size := Nat.lt_of_lt_of_le hb hnew.size
      have NX := hid (textsOf_next (m := m) (was := was) hlt hwl)
      have hln : (textsOf l (ws.take j) m was).length ≤ 1000000 := by
        have := (LEN j).out.1
        rw [List.length_take] at this
        omega
      have HWL := hid hwl
      have hll : ws[j] < l.length := hwl
      clear huc hc
      generalize hx : l[ws[j]] = x at *
      clear hx
      generalize hy : ws[j] = y at *
      clear hy
      by_cases e1 : x.block = m
      · have NX2 := hid (NX.out.trans (if_pos e1))
        obtain ⟨p, cs, rfl, s1, s2, _⟩ := id hs
        have kc := Bytes.convert (P := Try.prog) hs 22 5 9 Try.underlying22 Try.underlying5 Try.underlying9
        have HTX := hid hT.out
        clear NX hs hT
        go_wp2_with (at_builtin; refine app_texts rfl _ _ rfl w.heap.size _ _ _ rfl (own_old HTX.out ((New.refl wr).alloc #[.string x.bytes] 9)) ⟨wr.heap.size, 0, none⟩ x.bytes rfl (cell_made _ _ _ _) (by omega) ?c1 ?_)
        case c1 => exact ((hnew.alloc _ _)).size
        intro v2 w2 hown hg hblk
        obtain ⟨g3, c3, rfl, _, _⟩ := hown.form (by omega)
        have hn2 : New w w2 := (hnew.alloc #[.string x.bytes] 9).grown hg ((hnew.alloc #[.string x.bytes] 9)).size (fun k hk => (HTX.out.lt k hk).1)
        have HN2 := hid hn2
        have HO := hid hown
        clear hown hg hblk hn2
        go_wp2
        go_roundw
        case rel =>
          refine ⟨j + 1, by omega, by go_num, HN2.out, g3, c3, ?_, ?_⟩
          · rw [NX2.out]; simp
          · rw [NX2.out]; exact hid (Texts.snoc HO.out rfl)
        case measure => simp [intOf]; omega
      · have NX2 := hid (NX.out.trans (if_neg e1))
        clear NX
        go_wp2
        go_roundw
        case rel =>
          refine ⟨j + 1, by omega, by go_num, hnew, g, c, ?_, ?_⟩
          · rw [NX2.out]
          · rw [NX2.out]; exact hT
        case measure => simp [intOf]; omega
    · have : j = ws.length := by omega
      subst this
      rw [List.take_length] at *
      have hln := (LEN ws.length).out
      rw [List.take_length] at hln
      generalize hall : textsOf l ws m was = all at *
      have HALL := hid hall
      clear hall LEN IN U3 G3
      have hlen : all.length ≤ 1001 := by omega
      have hpos : 0 < all.length := hln.2
      clear hln
      obtain ⟨wo, rfl⟩ : ∃ wo : World, wo = wr := ⟨_, rfl⟩
      have hgl : g < wo.heap.size := (World.block_lt_of_cell? wo _ (hT.out.at hpos))
      go_wp2
      go_loopw [15, 16] (fun i _ wq => ∃ a : Nat, a ≤ all.length ∧ i = .int .i64 a ∧ New wo wq ∧ Hid (∀ j (hj : j < all.length), j < a → oneOk all now k all[j] = false)) (fun i _ _ => all.length - (intOf i).toNat)
      case atStart => exact ⟨0, Nat.zero_le _, rfl, New.refl _, hid fun j hj h => by omega⟩
      case round =>
        obtain ⟨a, ha, rfl, hnq, hno⟩ := hrel
        obtain ⟨wq, rfl⟩ : ∃ wq : World, wq = wr := ⟨_, rfl⟩
        by_cases hlt : a < all.length
        · have ca := hT.out.at hlt
          rw [← hnq.cell _ _ hgl] at ca
          have HYES : Hid (oneOk all now k all[a] = true → possB all now k = true) := fun h => by
            simp only [possB, List.any_eq_true]
            exact ⟨all[a], List.getElem_mem hlt, h⟩
          have hgq : g < wq.heap.size := Nat.lt_of_lt_of_le hgl hnq.size
          have HGO : Hid (oneOk all now k all[a] = false → ∀ j (hj : j < all.length), j < a + 1 → oneOk all now k all[j] = false) := fun ho j hj hj2 => by
            rcases Nat.lt_or_ge j a with h | h
            · exact hno.out j hj h
            · obtain rfl : j = a := by omega
              exact ho
          have HX : ∃ x, x = all[a] := ⟨_, rfl⟩
          obtain ⟨x, hx⟩ := HX
          rw [← hx] at ca HYES HGO
          have HXA := hid hx
          clear hno hx
          by_cases e1 : now = x
          · have t1 : (now.toList == x.toList) = true := by rw [str_beq]; simp [e1]
            have E1 := hid e1
            clear e1
            go_wp2
            go_ret
            exact ⟨by rw [HALL.out, HYES.out (by simp [oneOk, E1.out])]; rfl, (hnew.trans hnq)⟩
          · have t1 : (now.toList == x.toList) = false := by rw [str_beq]; simp [e1]
            have E1 := hid e1
            clear e1
            go_wp2
            go_loopw [16] (fun i wr => ∃ a : Nat, a ≤ all.length ∧ i = .int .i64 a ∧ New wq wr ∧ Hid (∀ j (hj : j < all.length), j < a → (decide (k < x.size) && decide (now = mixed x all[j] k)) = false)) (fun i _ => all.length - (intOf i).toNat)
            case atStart => exact ⟨0, Nat.zero_le _, rfl, New.refl _, hid fun j hj h => by omega⟩
            case round =>
              obtain ⟨d, hd, rfl, hnr, hno⟩ := hrel
              by_cases hlt2 : d < all.length
              · have hgr : g < wr.heap.size := Nat.lt_of_lt_of_le hgq hnr.size
                have ca2 : wr.cell? ⟨g, a, none⟩ = some (.string x) := by rw [hnr.cell _ _ hgq]; exact ca
                have cd := hT.out.at hlt2
                rw [← hnq.cell _ _ hgl, ← hnr.cell _ _ hgq] at cd
                have HNX : Hid ((decide (k < x.size) && decide (now = mixed x all[d] k)) = false → ∀ j (hj : j < all.length), j < d + 1 → (decide (k < x.size) && decide (now = mixed x all[j] k)) = false) := fun ho j hj hj2 => by
                  rcases Nat.lt_or_ge j d with h | h
                  · exact hno.out j hj h
                  · obtain rfl : j = d := by omega
                    exact ho
                have HY2 : Hid ((decide (k < x.size) && decide (now = mixed x all[d] k)) = true → oneOk all now k x = true) := fun h => by
                  simp only [oneOk, Bool.or_eq_true, List.any_eq_true]
                  exact .inr ⟨all[d], List.getElem_mem hlt2, h⟩
                obtain ⟨y, hy⟩ : ∃ y, y = all[d] := ⟨_, rfl⟩
                rw [← hy] at cd HNX HY2
                have hys : y.size ≤ 1000 := hy ▸ SZ.out _ (List.getElem_mem hlt2)
                have hxs : x.size ≤ 1000 := HXA.out ▸ SZ.out _ (List.getElem_mem hlt)
                clear hno hy ca
                by_cases e2 : k < x.size
                · have t2 : decide ((k : Int) < (x.size : Int)) = true := by simp; omega
                  have t3 : (now.toList == (x.extract 0 k ++ y.extract (min (k : Int) (y.size : Int)).toNat y.size).toList) = decide (now = mixed x y k) := by
                    rw [str_beq, show (min (k : Int) (y.size : Int)).toNat = min k y.size by omega]; rfl
                  by_cases e3 : now = mixed x y k
                  · rw [decide_eq_true e3] at t3
                    have E3 := hid e3
                    clear e3
                    go_wp2
                    go_quiet (fail)
                    go_wp2
                    go_ret
                    exact ⟨by rw [HALL.out, HYES.out (HY2.out (by simp only [decide_eq_true e2, decide_eq_true E3.out]; rfl))]; rfl, (hnew.trans (hnq.trans hnr)).drewN _⟩
                  · rw [decide_eq_false e3] at t3
                    have E3 := hid e3
                    clear e3
                    go_wp2
                    go_quiet (fail)
                    go_wp2
                    go_roundw
                    case rel => exact ⟨d + 1, by omega, by go_num, hnr.drewN _, hid (HNX.out (by simp only [decide_eq_false E3.out, Bool.and_false]))⟩
                    case measure => simp [intOf]; omega
                · have t2 : decide ((k : Int) < (x.size : Int)) = false := by simp; omega
                  have t2' : decide (k < x.size) = false := by simp; omega
                  have E2 := hid e2
                  clear e2
                  go_wp2
                  go_quiet (fail)
                  go_wp2
                  go_roundw
                  case rel => exact ⟨d + 1, by omega, by go_num, hnr.drewN _, hid (HNX.out (by simp only [decide_eq_false E2.out, Bool.false_and]))⟩
                  case measure => simp [intOf]; omega
              · obtain rfl : d = all.length := by omega
                have hfin : oneOk all now k x = false := by
                  simp only [oneOk, Bool.or_eq_false_iff, decide_eq_false_iff_not]
                  refine ⟨E1.out, ?_⟩
                  rw [List.any_eq_false]
                  intro y hy
                  obtain ⟨j, hj, rfl⟩ := List.mem_iff_getElem.1 hy
                  rw [hno.out j hj hj]
                  simp
                have HF := hid hfin
                clear hno hfin
                go_wp2
                go_roundw
                case rel => exact ⟨a + 1, by omega, by go_num, hnq.trans hnr, hid (HGO.out HF.out)⟩
                case measure => simp [intOf]; omega
        · obtain rfl : a = all.length := by omega
          have hfin : possB all now k = false := by
            simp only [possB, List.any_eq_false]
            intro y hy
            obtain ⟨j, hj, rfl⟩ := List.mem_iff_getElem.1 hy
            rw [hno.out j hj hj]
            simp
          have HF := hid hfin
          clear hno hfin
          go_wp2
          go_ret
          exact ⟨by rw [HALL.out, HF.out]; rfl, hnew.trans hnq⟩

end Go.Proofs.Ytbclgklpcbajfaa
