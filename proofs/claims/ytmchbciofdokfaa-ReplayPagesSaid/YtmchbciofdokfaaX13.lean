/- Only, in plain words; slices.Contains at numbers; a buffer of bytes. The specification's Page: a page by records. Only: a page by the changes of committed units alone. The specification's Only: a page by the changes of committed units alone. The law ReplayPages: it returns true. -/
import Derived.Test.YtmchbciofdokfaaW28
import Derived.Test.YtmchbciofdokfaaX10
import Derived.Test.YtmchbciofdokfaaX6
import Derived.Test.YtmchbciofdokfaaW42
namespace Go.Proofs.Ytmchbciofdokfaa
open Go.RowKit
set_option linter.unusedSimpArgs false
set_option linter.unusedVariables false

def onlyStep (W : PW) (n : Int) (i : Nat) (r : Rec) (p : ByteArray) : ByteArray := if r.kind = 1 ∧ r.page = n ∧ (W.unit r.unit).st = 2 ∧ (i + 1) ∈ (W.unit r.unit).left then layB p r.at_.toNat r.after else p
/-- A page by the changes of committed units alone that are not undone: the first k records. -/
def onlyB (W : PW) (n : Int) (l : List Rec) : Nat → ByteArray
  | 0 => zeroPage
  | k + 1 => onlyStep W n k ((l[k]?).getD rec0) (onlyB W n l k)
theorem onlyB_succ {W : PW} {n : Int} {l : List Rec} {k : Nat} (hk : k < l.length) : onlyB W n l (k + 1) = onlyStep W n k l[k] (onlyB W n l k) := by
  show onlyStep W n k ((l[k]?).getD rec0) (onlyB W n l k) = _
  rw [List.getElem?_eq_getElem hk]
  rfl
theorem walk_valid {l : List Rec} : ∀ {W : PW}, walkW l = some W → ∀ r ∈ l, validB r = true ∧ (1 ≤ r.kind → r.kind ≤ 5 → (W.unit r.unit).seen = true) := by
  refine snoc_ind (p := fun l => ∀ {W : PW}, walkW l = some W → ∀ r ∈ l, validB r = true ∧ (1 ≤ r.kind → r.kind ≤ 5 → (W.unit r.unit).seen = true)) (fun _ r hr => (by cases hr)) (fun l a ih W h r hr => ?_) l
  obtain ⟨V, hV, ho, rfl⟩ := walk_back h
  rw [List.mem_append, List.mem_singleton] at hr
  have key : ∀ m, (V.unit m).seen = true → ((next V a).unit m).seen = true := fun m hm => by
    show (if m = a.unit then touch (V.unit m) a (V.recs.length + 1) else V.unit m).seen = true
    split
    · rcases touch_cases (V.unit m) a (V.recs.length + 1) with e | e
      · rw [e]; exact hm
      · exact e
    · exact hm
  rcases hr with hr | rfl
  · obtain ⟨h1, h2⟩ := ih hV r hr
    exact ⟨h1, fun a b => key _ (h2 a b)⟩
  · refine ⟨ho.valid, fun h1 h5 => ?_⟩
    show (if r.unit = r.unit then touch (V.unit r.unit) r (V.recs.length + 1) else V.unit r.unit).seen = true
    rw [if_pos rfl]
    unfold touch
    have hk : r.kind = 1 ∨ r.kind = 2 ∨ r.kind = 3 ∨ r.kind = 4 ∨ r.kind = 5 := by omega
    rcases hk with h | h | h | h | h <;> simp [h]
theorem onlyB_size {W : PW} {n : Int} {l : List Rec} (hv : ∀ r ∈ l, validB r = true) : ∀ k, k ≤ l.length → (onlyB W n l k).size = 128
  | 0, _ => by show zeroPage.size = 128; unfold zeroPage; rw [bytesOf_size, List.length_replicate]
  | k + 1, hk => by
    rw [onlyB_succ (by omega)]
    have ih := onlyB_size (W := W) (n := n) hv k (by omega)
    unfold onlyStep
    split
    · rename_i h
      have hp := place_bounds (valid_place (hv l[k] (List.getElem_mem (show k < l.length by omega))) (by rw [lays, h.1]; rfl))
      rw [layB_size (by rw [ih]; omega), ih]
    · exact ih
/-- copy(out[at:], after) into a buffer. -/
theorem buf_copy {w : World} {g an : Nat} {s : ByteArray} (hg : w.heap[g]? = some (.cells (byteVals s).toArray 5 (0, 0))) (hz : s.size = 128) {bA oA ac : Nat} {t : ByteArray} (hf : an + t.size ≤ 128) (hA : ∀ i, i < (byteVals t).length → w.cell? ⟨bA, oA + i, none⟩ = some ((byteVals t).getD i undef)) :
    (Builtin.copy_ #[33, 33] 3 #[.slice (some ⟨g, an, none⟩) (128 - an) (128 - an), .slice (some ⟨bA, oA, none⟩) t.size ac]).run Try.prog w = .ok (.int .i64 t.size) (w.setRow g (byteVals (layB s an t)).toArray) := by
  have hl : (byteVals s).length = 128 := by rw [byteVals_length, hz]
  have := run_copy_row (P := Try.prog) w 33 33 3 5 g an (128 - an) (128 - an) ⟨bA, oA, none⟩ t.size ac (byteVals s).toArray 5 (byteVals t) Try.underlying33 u8_size33 hg (by rw [byteVals_length]; exact (Nat.min_eq_left (by omega)).symm) (fun j v hj => ?_) (by rw [byteVals_length, List.size_toArray, hl]; exact hf) (fun v hv => ?_)
  · rw [this, List.toList_toArray, lay_vals (by rw [hz]; exact hf), byteVals_length]
    rfl
  · have hj2 := (List.getElem?_eq_some_iff.1 hj).1
    have e : (⟨bA, oA, none⟩ : Addr).add j = ⟨bA, oA + j, none⟩ := by unfold Addr.add; split <;> simp_all
    rw [e, hA j hj2, List.getD_eq_getElem?_getD, hj]
    rfl
  · obtain ⟨u, _, rfl⟩ := List.mem_map.1 hv
    rfl
theorem buf_bytes {w : World} {g : Nat} {s : ByteArray} (hg : w.heap[g]? = some (.cells (byteVals s).toArray 5 (0, 0))) (hz : s.size = 128) : Bytes w (.slice (some ⟨g, 0, none⟩) 128 128) s := by
  have := bytes_made (s := s) hg (by omega)
  rwa [hz] at this
theorem setRow_new2 {w w' : World} (h : New w w') {g : Nat} (hg : w.heap.size ≤ g) (cs : Array Value) : New w (w'.setRow g cs) := New.turn h (turn_row w' g cs) (fun k hk e => by
  have e : k = g := e
  omega)
/-- slices.Index at numbers: whether there is one. -/
def IndexIs (l : List Nat) (x : Int) (w : World) (e : Ending) (w' : World) : Prop := w = w' ∧ ∃ n : Int, e = .returned (.int .i64 n) ∧ (0 ≤ n ↔ ∃ k ∈ l, (k : Int) = x)
set_option maxHeartbeats 2000000 in
theorem index_any (v : Value) (l : List Nat) (x : Int) (w : World) (h : RowAt w v l.length (natVals l)) : Calls Try.prog 77 #[v, .int .i64 x] w (IndexIs l x w) := by
  obtain ⟨p, c, rfl, h1, h2, h3⟩ := h
  have H3 := hid h3
  unfold maxLen at h2
  clear h3
  go_enter Try.func77, Try.ntmps77
  go_wp2_with fail
  go_loop [5, 8] (fun _ i => ∃ k : Nat, k ≤ l.length ∧ i = .int .i64 k ∧ Hid (∀ j (hj : j < l.length), j < k → (l[j] : Int) ≠ x)) (fun _ i => l.length - (intOf i).toNat)
  case atStart => exact ⟨0, Nat.zero_le _, rfl, hid (fun j hj h => absurd h (Nat.not_lt_zero _))⟩
  case round =>
    obtain ⟨k, hk, rfl, hno⟩ := hrel
    by_cases hlt : k < l.length
    · obtain ⟨g, o, rfl, hg, hc⟩ := H3.out (by omega)
      have hc2 := hc k (by unfold natVals; rw [List.length_map]; exact hlt)
      have hcv : (natVals l).getD k undef = .int .i64 ((l[k] : Nat) : Int) := by
        unfold natVals
        rw [List.getD_eq_getElem?_getD, List.getElem?_map, List.getElem?_eq_getElem hlt]
        rfl
      rw [hcv] at hc2
      have HM := hid (List.getElem_mem hlt)
      have HNEXT : Hid ((l[k] : Int) ≠ x → ∀ j (hj : j < l.length), j < k + 1 → (l[j] : Int) ≠ x) := hid (fun hm j hj hj2 => by
        rcases Nat.lt_or_ge j k with h | h
        · exact hno.out j hj h
        · obtain rfl : j = k := by omega
          exact hm)
      clear hc hcv hno
      generalize l[k] = y at *
      by_cases hxy : (y : Int) = x
      · have t1 : (x == (y : Int)) = true := by simpa using hxy.symm
        have HXY := hid hxy
        clear hxy
        go_wp2
        go_ret
        exact ⟨rfl, _, rfl, ⟨fun _ => ⟨y, HM.out, HXY.out⟩, fun _ => by omega⟩⟩
      · have t1 : (x == (y : Int)) = false := by simpa using fun e => hxy e.symm
        have HXY := hid hxy
        clear hxy
        go_wp2
        go_round
        case rel => exact ⟨k + 1, by omega, by go_num, hid (HNEXT.out HXY.out)⟩
        case measure => simp [intOf]; omega
    · obtain rfl : k = l.length := by omega
      have HALL : Hid (¬ ∃ k ∈ l, (k : Int) = x) := hid (fun ⟨y, hy, e⟩ => by
        obtain ⟨j, hj, rfl⟩ := List.mem_iff_getElem.1 hy
        exact hno.out j hj hj e)
      clear hno
      go_wp2
      go_ret
      exact ⟨rfl, -1, rfl, ⟨fun h => absurd h (by decide), fun h => absurd h HALL.out⟩⟩
def ContainsIs (l : List Nat) (k : Nat) (w : World) (e : Ending) (w' : World) : Prop := e = .returned (.bool (decide (k ∈ l))) ∧ w = w'
theorem contains_any (v : Value) (l : List Nat) (k : Nat) (w : World) (h : RowAt w v l.length (natVals l)) : Calls Try.prog 47 #[v, .int .i64 (k : Int)] w (ContainsIs l k w) := by
  have hf := h
  obtain ⟨p, c, rfl, -, -, -⟩ := hf
  have H := hid h
  clear h
  go_enter Try.func47, Try.ntmps47
  go_wp2_with fail
  refine (index_any _ l (k : Int) _ H.out).mono ?_
  rintro e w' ⟨rfl, n, rfl, hn⟩
  have HN : Hid (decide (0 ≤ n) = decide (k ∈ l)) := hid (by
    rw [Bool.eq_iff_iff, decide_eq_true_eq, decide_eq_true_eq, hn]
    exact ⟨fun ⟨j, hj, e⟩ => by have : j = k := by omega
                                exact this ▸ hj, fun hj => ⟨k, hj, rfl⟩⟩)
  clear hn
  go_wp2
  go_ret
  exact ⟨ret_bool HN.out, rfl⟩
end Go.Proofs.Ytmchbciofdokfaa

namespace Go.Proofs.Ytmchbciofdokfaa
open Go.RowKit
set_option linter.unusedSimpArgs false
set_option linter.unusedVariables false

theorem isPage_any (n : Int) (w : World) : Calls Try.prog 46 #[.int .i64 n] w fun e w' => e = .returned (.bool (decide (0 ≤ n ∧ n < 120))) ∧ w = w' := by
  by_cases h : 0 ≤ n
  · go_enter Try.func46, Try.ntmps46
    go_wp2
    go_ret
    exact ⟨ret_bool (by simp [h]), rfl⟩
  · go_enter Try.func46, Try.ntmps46
    go_wp2
    go_ret
    exact ⟨ret_bool (by simp; omega), rfl⟩
/-- What Page returns, whatever slice holds the bytes. -/
def PageOut (l : List Rec) (n : Int) (w : World) (e : Ending) (w' : World) : Prop :=
  (walkW l = none ∧ e = .returned (.tuple #[.slice none 0 0, .int .i64 0, .int .i64 50]) ∧ New w w') ∨
  (walkW l ≠ none ∧ ¬ (0 ≤ n ∧ n < 120) ∧ e = .returned (.tuple #[.slice none 0 0, .int .i64 0, .int .i64 2]) ∧ New w w') ∨
  (∃ W q c, walkW l = some W ∧ 0 ≤ n ∧ n < 120 ∧ e = .returned (.tuple #[.slice q 128 c, .int .i64 (W.stamp n.toNat : Int), .int .i64 0]) ∧ Bytes w' (.slice q 128 c) (W.page n.toNat) ∧ New w w')
theorem PageBack.out {l : List Rec} {n : Int} {w w' : World} {e : Ending} (h : PageBack l n w e w') : PageOut l n w e w' := by
  rcases h with h | h | ⟨W, b, h1, h2, h3, h4, h5, h6⟩
  · exact .inl h
  · exact .inr (.inl h)
  · exact .inr (.inr ⟨W, _, _, h1, h2, h3, h4, h5, h6⟩)
theorem partB_whole {p : ByteArray} (hz : p.size = 128) : partB p 0 128 = p := by
  unfold partB
  rw [List.drop_zero, List.take_of_length_le (by rw [data_len, hz]; omega), bytesOf_data]
set_option maxRecDepth 100000 in
set_option maxHeartbeats 4000000 in
theorem rpage_any (v : Value) (l : List Rec) (n : Int) (w : World) (h : Recs w v l) (hl : l.length ≤ 1000) : Calls Try.prog 20 #[v, .int .i64 n] w (PageOut l n w) := by
  have H := hid h
  have HL := hid hl
  clear h
  go_enter Try.func20, Try.ntmps20
  go_wp2_with fail
  refine (rwalk_any _ l _ H.out HL.out).mono ?_
  rintro e w1 (⟨hn, rfl, n1⟩ | ⟨W, wb, S, hs, rfl, hw, h1⟩)
  · have HX : Hid (PageOut l n w (.returned (.tuple #[.slice none 0 0, .int .i64 0, .int .i64 50])) w1) := hid (.inl ⟨hn, rfl, n1⟩)
    clear hn n1
    go_wp2
    go_ret3
    exact HX.out
  have HW := hid hw
  have HS := hid hs
  have HG := hid (good hs)
  clear hs hw h1
  go_wp2_with fail
  refine (isPage_any n _).mono ?_
  rintro e w' ⟨rfl, rfl⟩
  by_cases hp : 0 ≤ n ∧ n < 120
  case neg =>
    have HX : Hid (PageOut l n w (.returned (.tuple #[.slice none 0 0, .int .i64 0, .int .i64 2])) w1) := hid (.inr (.inl ⟨by rw [HS.out]; simp, hp, rfl, HW.out.new⟩))
    rw [decide_eq_false hp]
    clear hp
    go_wp2
    go_ret3
    exact HX.out
  rw [decide_eq_true hp]
  obtain ⟨z, rfl⟩ : ∃ z : Nat, n = (z : Int) := ⟨n.toNat, by omega⟩
  have hz : z < 120 := by omega
  have HP := hid hp
  clear hp
  have HZ := hid (HG.out.page z)
  have H1d := hid (HW.out.newer (New.refl w1).drew)
  have NA : Hid (New w1 (w1.alloc (.cells #[] 5)).drew) := hid ((New.refl w1).alloc _ _).drew
  have HA := hid (HW.out.newer NA.out)
  have GA : Hid ((w1.alloc (.cells #[] 5)).drew.heap[w1.heap.size]? = some (.cells #[] 5 (0, 0))) := hid (alloc_block w1 _)
  have BY : Hid (Bytes (w1.alloc (.cells #[] 5)).drew (.slice (some ⟨wb, 2 + z * 128, none⟩) 128 128) (W.page z)) := hid (by
    have h := ref_part HA.out (p := z) (o := 0) (k := 128) (c := 128) hz (by omega) (by omega) (by omega)
    rw [partB_whole HZ.out, Nat.add_zero] at h
    exact h)
  have k5 : (z : Int) < 120 := by omega
  have k6 : (0 : Int) ≤ (z : Int) := by omega
  have s1 : w1.drew.cell? ⟨wb, 15362 + z, none⟩ = some (.int .i64 (W.stamp z : Int)) := by rw [H1d.out.raw.cell (15362 + z) (by omega), H1d.out.stamp z hz]
  have s2 : (w1.alloc (.cells #[] 5)).drew.cell? ⟨wb, 15362 + z, none⟩ = some (.int .i64 (W.stamp z : Int)) := by rw [HA.out.raw.cell (15362 + z) (by omega), HA.out.stamp z hz]
  have hwl := HW.out.lt
  have HS128 : Hid ((W.page z).size ≤ 1000000) := hid (by rw [HZ.out]; decide)
  go_wp2_with fail
  go_region_held3 (fun w' : World => w'.cell? ⟨wb, 15362 + z, none⟩ = some (.int .i64 (W.stamp z : Int))) (first | with_reducible exact s1 | with_reducible exact s2 | with_reducible exact s3 | go_keep)
    ((refine step_app_bytes rfl _ _ rfl w1.heap.size _ (W.page z) rfl rfl GA.out BY.out HS128.out ?_; intro q10 c10 w10 hc10 hn10; have HC10 := hid hc10; have HN10 : Hid (New w1 w10) := hid (NA.out.trans hn10); have s3 := ((bcell HN10.out).1 wb (15362 + z) hwl).trans s1; clear hc10 hn10))
  rw [HZ.out]
  have HX : Hid (PageOut l (z : Int) w (.returned (.tuple #[.slice q10 128 c10, .int .i64 (W.stamp z : Int), .int .i64 0])) w10) := hid (.inr (.inr ⟨W, q10, c10, HS.out, HP.out.1, HP.out.2, by rw [Int.toNat_natCast], by have h := HC10.out.1; rw [HZ.out] at h; rw [Int.toNat_natCast]; exact h, HW.out.new.trans HN10.out⟩))
  go_wp2
  go_ret3
  exact HX.out
end Go.Proofs.Ytmchbciofdokfaa

namespace Go.Proofs.Ytmchbciofdokfaa
open Go.RowKit
open Go.ChangeMaps (setBlock)
set_option linter.unusedSimpArgs false
set_option linter.unusedVariables false

theorem contains_succ (v : Value) (l : List Nat) (k : Nat) (w : World) (h : RowAt w v l.length (natVals l)) : Calls Try.prog 47 #[v, .int .i64 ((k : Int) + 1)] w (ContainsIs l (k + 1) w) := contains_any v l (k + 1) w h
structure Buf (w1 wr : World) (b : Nat) (p : ByteArray) : Prop where
  new : New w1 wr
  at_ : wr.heap[b]? = some (.cells (byteVals p).toArray 5 (0, 0))
theorem Buf.newer {w1 wr w' : World} {b : Nat} {p : ByteArray} (h : Buf w1 wr b p) (hn : New wr w') : Buf w1 w' b p := ⟨h.new.trans hn, (Below.block hn b (Array.getElem?_eq_some_iff.1 h.at_).1).trans h.at_⟩
/-- What Only returns. -/
def OnlyOut (l : List Rec) (n : Int) (w : World) (e : Ending) (w' : World) : Prop :=
  (walkW l = none ∧ e = .returned (.tuple #[.slice none 0 0, .int .i64 50]) ∧ New w w') ∨
  (walkW l ≠ none ∧ ¬ (0 ≤ n ∧ n < 120) ∧ e = .returned (.tuple #[.slice none 0 0, .int .i64 2]) ∧ New w w') ∨
  (∃ W q c, walkW l = some W ∧ 0 ≤ n ∧ n < 120 ∧ e = .returned (.tuple #[.slice q 128 c, .int .i64 0]) ∧ Bytes w' (.slice q 128 c) (onlyB W n l l.length) ∧ New w w')
theorem zero_buf (w1 : World) : Buf w1 (w1.alloc (.cells (Array.replicate 128 (.int .u8 0)) 5)) w1.heap.size zeroPage := by
  refine ⟨(New.refl w1).alloc _ _, ?_⟩
  have e : (byteVals zeroPage).toArray = Array.replicate 128 (.int .u8 0) := by
    rw [zeroPage_vals]
    kernel_rfl
  rw [e]
  exact alloc_block w1 _
theorem only_no {W : PW} {n : Int} {k : Nat} {r : Rec} {p : ByteArray} (h : ¬ (r.kind = 1 ∧ r.page = n ∧ (W.unit r.unit).st = 2 ∧ (k + 1) ∈ (W.unit r.unit).left)) : onlyStep W n k r p = p := if_neg h
theorem only_yes {W : PW} {n : Int} {k : Nat} {r : Rec} {p : ByteArray} (h : r.kind = 1 ∧ r.page = n ∧ (W.unit r.unit).st = 2 ∧ (k + 1) ∈ (W.unit r.unit).left) : onlyStep W n k r p = layB p r.at_.toNat r.after := if_pos h
set_option maxRecDepth 100000 in
set_option maxHeartbeats 8000000 in
theorem only_any (v : Value) (l : List Rec) (n : Int) (w : World) (h : Recs w v l) (hl : l.length ≤ 1000) : Calls Try.prog 23 #[v, .int .i64 n] w (OnlyOut l n w) := by
  obtain ⟨p, c, rfl, hc, hm⟩ := h.form
  have H := hid h
  have HL := hid hl
  unfold maxLen at hm
  clear h
  go_enter Try.func23, Try.ntmps23
  go_wp2_with fail
  refine (of_any _ l _ H.out HL.out).mono ?_
  rintro e w1 (⟨hn, rfl, n1⟩ | ⟨W, wb, S, hs, rfl, hw, h1, h2⟩)
  · have HX : Hid (OnlyOut l n w (.returned (.tuple #[.slice none 0 0, .int .i64 50])) w1) := hid (.inl ⟨hn, rfl, n1⟩)
    clear hn n1
    go_wp2
    go_ret2
    exact HX.out
  have HW := hid hw
  have HS := hid hs
  have HG := hid (good hs)
  have HV := hid (walk_valid hs)
  clear hs hw h1 h2
  by_cases hn0 : n < 0
  · have HX : Hid (OnlyOut l n w (.returned (.tuple #[.slice none 0 0, .int .i64 2])) w1) := hid (.inr (.inl ⟨by rw [HS.out]; simp, by omega, rfl, HW.out.new⟩))
    have t0 : decide (n < 0) = true := by simpa using hn0
    clear hn0
    go_wp2
    go_ret2
    exact HX.out
  have t0 : decide (n < 0) = false := by simpa using hn0
  by_cases hn1 : 120 ≤ n
  · have HX : Hid (OnlyOut l n w (.returned (.tuple #[.slice none 0 0, .int .i64 2])) w1) := hid (.inr (.inl ⟨by rw [HS.out]; simp, by omega, rfl, HW.out.new⟩))
    have t1 : decide (120 ≤ n) = true := by simpa using hn1
    clear hn0 hn1
    go_wp2
    go_ret2
    exact HX.out
  have t1 : decide (120 ≤ n) = false := by simpa using hn1
  have HB : Hid (0 ≤ n ∧ n < 120) := hid ⟨by omega, by omega⟩
  have hmk := make_zero
  have B0 := hid (zero_buf w1)
  clear hn0 hn1
  go_wp2_with fail
  clear hmk t0 t1
  have HVW : Hid (∀ k, k ≤ l.length → (onlyB W n l k).size = 128) := hid (onlyB_size (fun r hr => (HV.out r hr).1))
  have HB0 : Hid (w1.heap.size ≤ w1.heap.size) := hid (Nat.le_refl _)
  obtain ⟨b, hb⟩ : ∃ b, w1.heap.size = b := ⟨_, rfl⟩
  rw [hb] at B0 ⊢
  have HBG : Hid (w1.heap.size ≤ b) := hid (Nat.le_of_eq hb)
  clear hb
  generalize w1.alloc (.cells (Array.replicate 128 (.int .u8 0)) 5) = w2 at *
  go_loopw [8, 9, 10, 26] (fun _ _ _ i wr => ∃ k : Nat, k ≤ l.length ∧ i = .int .i64 k ∧ Hid (Buf w1 wr b (onlyB W n l k))) (fun _ _ _ i _ => l.length - (intOf i).toNat)
  case atStart => exact ⟨0, Nat.zero_le _, rfl, B0⟩
  case round =>
    clear B0
    obtain ⟨k, hk, rfl, hBuf⟩ := hrel
    have HBUF := hid hBuf.out
    clear hBuf
    by_cases hlt : k < l.length
    · obtain ⟨bl, ol, p1, c1, p2, c2, p3, c3, rfl, hbl, hra, hcells⟩ := recs_facts H.out (HW.out.new.trans HBUF.out.new) hlt
      obtain ⟨y20, y21, y22, y23, y24, y25, y26, y27, y28, y29⟩ := rec_ten (hcells _ (New.refl _))
      have HRA := hid hra
      obtain ⟨hv1, hv2⟩ := HV.out _ (List.getElem_mem hlt)
      have HV1 := hid hv1
      have HV2 := hid hv2
      have HSZ := hid (HVW.out k (by omega))
      have HSTEP := hid (onlyB_succ (W := W) (n := n) hlt)
      have NA := hid ((New.refl wr).alloc (recCells l[k] (.slice p1 l[k].before.size c1) (.slice p2 l[k].after.size c2) (.slice p3 l[k].units.length c3)) 36)
      have QA := hid (alloc_block wr (.cells (recCells l[k] (.slice p1 l[k].before.size c1) (.slice p2 l[k].after.size c2) (.slice p3 l[k].units.length c3)) 36))
      clear hra hcells hv1 hv2
      generalize l[k] = r at *
      generalize hP : onlyB W n l k = P at *
      clear hP
      by_cases hk1 : r.kind = 1
      case neg =>
        have t1 : (r.kind != 1) = true := bne_iff_ne.2 hk1
        have HE := hid (HSTEP.out.trans (only_no (fun h => hk1 h.1)))
        clear hk1
        go_wp2
        go_roundw
        case rel => exact ⟨k + 1, by omega, by go_num, hid (by rw [HE.out]; exact HBUF.out.newer NA.out)⟩
        case measure => simp [intOf]; omega
      have t1 : (r.kind != 1) = false := by rw [hk1]; rfl
      by_cases hpg : r.page = n
      case neg =>
        have t2 : (r.page != n) = true := bne_iff_ne.2 hpg
        have HE := hid (HSTEP.out.trans (only_no (fun h => hpg h.2.1)))
        clear hk1 hpg
        go_wp2
        go_roundw
        case rel => exact ⟨k + 1, by omega, by go_num, hid (by rw [HE.out]; exact HBUF.out.newer NA.out)⟩
        case measure => simp [intOf]; omega
      have t2 : (r.page != n) = false := by rw [hpg]; simp
      have HKP := hid (And.intro hk1 hpg)
      have HSEEN := hid (HV2.out (by omega) (by omega))
      clear hk1 hpg
      go_wp2_with fail
      refine (valid_any r _ _ _ _ (HRA.out.new (HW.out.new.trans (HBUF.out.new.trans NA.out)))).mono ?_
      rintro e w5 ⟨rfl, n5⟩
      rw [HV1.out]
      have N5 := hid (NA.out.trans n5)
      have Q5 := hid ((Below.block n5 wr.heap.size (Array.getElem?_eq_some_iff.1 QA.out).1).trans QA.out)
      have B5 := hid (HBUF.out.newer N5.out)
      have W5 := hid (HW.out.newer B5.out.new)
      clear n5 y20 y21 y22 y23 y24 y25 y26 y27 y28 y29 NA QA t1 t2
      obtain ⟨xq, hxq⟩ : ∃ xq, wr.heap.size = xq := ⟨_, rfl⟩
      rw [hxq] at Q5 ⊢
      clear hxq
      obtain ⟨⟨xn, xb, xv⟩, hx, hxn⟩ : ∃ x ∈ S.lu, x.1 = r.unit := by
        by_cases hno : ∀ x ∈ S.lu, x.1 ≠ r.unit
        · have := HW.out.units.none _ hno
          have hs := HSEEN.out
          rw [this] at hs
          cases hs
        · simp only [Classical.not_forall] at hno
          obtain ⟨x, hx, hxn⟩ := hno
          exact ⟨x, hx, Classical.not_not.1 hxn⟩
      obtain rfl : xn = r.unit := hxn
      have HX := hid hx
      have W5d := hid (W5.out.newer (New.refl w5).drew)
      have lk := unit_look W5d.out hx
      obtain ⟨-, -, -, m3, -⟩ := W5d.out.cells
      have mq1 : w5.drew.cell? ⟨xq, 1, none⟩ = some (.int .i64 r.unit) := cells_of Q5.out 1
      clear hx
      go_wp2_with fail
      go_region
      have Q6 : Hid (w5.drew.heap[xq]? = _) := hid Q5.out
      have B6 := hid (B5.out.newer (New.refl w5).drew)
      obtain ⟨hu1, hu2⟩ := W5d.out.units.unit _ HX.out
      obtain ⟨lp, lc, hlv⟩ := own_len hu2
      have HROW : Hid (RowAt w5.drew (.slice lp (W.unit r.unit).left.length lc) (W.unit r.unit).left.length (natVals (W.unit r.unit).left)) := hid (by rw [← hlv]; exact RowAt.owned hu2)
      have u0 : w5.drew.cell? ⟨xb, 0, none⟩ = some (.int .i64 (W.unit r.unit).st) := cells_of hu1 0
      have u1 : w5.drew.cell? ⟨xb, 1, none⟩ = some (.slice lp (W.unit r.unit).left.length lc) := by rw [← hlv]; exact cells_of hu1 1
      clear lk m3 mq1 hu1 hu2 hlv Q5 B5 W5 N5
      generalize w5.drew = w6 at *
      by_cases hst : (W.unit r.unit).st = 2
      case neg =>
        have t3 : ((W.unit r.unit).st == 2) = false := beq_eq_false_iff_ne.2 hst
        have HE := hid (HSTEP.out.trans (only_no (fun h => hst h.2.2.1)))
        clear hst
        go_wp2
        go_roundw
        case rel => exact ⟨k + 1, by omega, by go_num, hid (by rw [HE.out]; exact B6.out)⟩
        case measure => simp [intOf]; omega
      have t3 : ((W.unit r.unit).st == 2) = true := beq_iff_eq.2 hst
      have HST := hid hst
      clear hst
      have hkw : (k : Int) ≤ 1000 := by have := HL.out; omega
      go_wp2_with fail
      refine (contains_succ _ (W.unit r.unit).left k _ HROW.out).mono ?_
      rintro e w' ⟨rfl, rfl⟩
      by_cases hin : (k + 1) ∈ (W.unit r.unit).left
      case neg =>
        have HE := hid (HSTEP.out.trans (only_no (fun h => hin h.2.2.2)))
        rw [decide_eq_false hin]
        clear hin
        go_wp2
        go_roundw
        case rel => exact ⟨k + 1, by omega, by go_num, hid (by rw [HE.out]; exact B6.out)⟩
        case measure => simp [intOf]; omega
      have HE := hid (HSTEP.out.trans (only_yes ⟨HKP.out.1, HKP.out.2, HST.out, hin⟩))
      rw [decide_eq_true hin]
      clear hin
      have hplace := place_bounds (valid_place HV1.out (by rw [lays, HKP.out.1]; rfl))
      obtain ⟨b0, b1, b2, b3, b4, b5⟩ := hplace
      obtain ⟨an, han, han2⟩ : ∃ n : Nat, r.at_ = (n : Int) ∧ n + r.after.size ≤ 128 := ⟨r.at_.toNat, by omega, by omega⟩
      have HAN := hid han
      obtain ⟨pA, cA, eA, hA1, hA2, hA3⟩ := HRA.out.after
      injection eA with eA1 _ eA3
      subst eA1 eA3
      obtain ⟨bA, oA, eA4, hbA, hcA⟩ := hA3 (by omega)
      subst eA4
      have B7 := hid (B6.out.newer (New.refl w6).drew)
      have hcp := buf_copy (w := w6.drew) B7.out.at_ HSZ.out (an := an) (bA := bA) (oA := oA) (ac := c2) (t := r.after) han2 (fun i hi => ((bcell (HW.out.new.trans B7.out.new)).1 bA (oA + i) hbA).trans (hcA i hi))
      have m3 : w6.drew.cell? ⟨xq, 3, none⟩ = some (.int .i64 (an : Int)) := by rw [← han]; exact cells_of Q6.out 3
      have m5 : w6.drew.cell? ⟨xq, 5, none⟩ = some (.slice (some ⟨bA, oA, none⟩) r.after.size c2) := cells_of Q6.out 5
      have k0 : (0 : Int) ≤ (an : Int) := by omega
      have k2 : (an : Int) ≤ 128 := by omega
      have k4 : ¬ 128 = an := by omega
      clear hA1 hA2 hA3 hcA b0 b1 b2 b3 b4 b5 han
      go_wp2_with fail
      go_region
      have B8 : Hid (Buf w1 (w6.drew.setRow b (byteVals (layB P an r.after)).toArray) b (layB P an r.after)) := hid ⟨setRow_new2 B7.out.new HBG.out _, setRow_heap w6.drew b _ _ 5 (0, 0) B7.out.at_⟩
      have HLE : Hid (layB P r.at_.toNat r.after = layB P an r.after) := hid (by have h : r.at_.toNat = an := by have := HAN.out; omega
                                                                                 rw [h])
      clear hcp m3 m5 k0 k2 k4
      generalize w6.drew.setRow b (byteVals (layB P an r.after)).toArray = w7 at *
      go_wp2
      go_roundw
      case rel => exact ⟨k + 1, by omega, by go_num, hid (by rw [HE.out, HLE.out]; exact B8.out)⟩
      case measure => simp [intOf]; omega
    · obtain rfl : k = l.length := by omega
      have HX : Hid (OnlyOut l n w (.returned (.tuple #[.slice (some ⟨b, 0, none⟩) 128 128, .int .i64 0])) wr) := hid (.inr (.inr ⟨W, _, _, HS.out, HB.out.1, HB.out.2, rfl, buf_bytes HBUF.out.at_ (HVW.out _ (Nat.le_refl _)), HW.out.new.trans HBUF.out.new⟩))
      go_wp2
      go_ret2
      exact HX.out
end Go.Proofs.Ytmchbciofdokfaa

namespace Go.Proofs.Ytmchbciofdokfaa
open Go.RowKit
set_option linter.unusedSimpArgs false
set_option linter.unusedVariables false

set_option maxRecDepth 100000 in
set_option maxHeartbeats 8000000 in
theorem ronly_any (v : Value) (l : List Rec) (n : Int) (w : World) (h : Recs w v l) (hl : l.length ≤ 1000) : Calls Try.prog 24 #[v, .int .i64 n] w (OnlyOut l n w) := by
  obtain ⟨p, c, rfl, hc, hm⟩ := h.form
  have H := hid h
  have HL := hid hl
  unfold maxLen at hm
  clear h
  go_enter Try.func24, Try.ntmps24
  go_wp2_with fail
  refine (rwalk_any _ l _ H.out HL.out).mono ?_
  rintro e w1 (⟨hn, rfl, n1⟩ | ⟨W, wb, S, hs, rfl, hw, h1⟩)
  · have HX : Hid (OnlyOut l n w (.returned (.tuple #[.slice none 0 0, .int .i64 50])) w1) := hid (.inl ⟨hn, rfl, n1⟩)
    clear hn n1
    go_wp2
    go_ret2
    exact HX.out
  have HW := hid hw
  have HS := hid hs
  have HG := hid (good hs)
  have HV := hid (walk_valid hs)
  clear hs hw h1
  go_wp2_with fail
  refine (isPage_any n _).mono ?_
  rintro e w' ⟨rfl, rfl⟩
  by_cases hp : 0 ≤ n ∧ n < 120
  case neg =>
    have HX : Hid (OnlyOut l n w (.returned (.tuple #[.slice none 0 0, .int .i64 2])) w1) := hid (.inr (.inl ⟨by rw [HS.out]; simp, hp, rfl, HW.out.new⟩))
    rw [decide_eq_false hp]
    clear hp
    go_wp2
    go_ret2
    exact HX.out
  rw [decide_eq_true hp]
  have HB := hid hp
  have hmk := make_zero
  have B0 := hid (zero_buf w1)
  clear hp
  go_wp2_with fail
  clear hmk
  have HVW : Hid (∀ k, k ≤ l.length → (onlyB W n l k).size = 128) := hid (onlyB_size (fun r hr => (HV.out r hr).1))
  obtain ⟨b, hb⟩ : ∃ b, w1.heap.size = b := ⟨_, rfl⟩
  rw [hb] at B0 ⊢
  have HBG : Hid (w1.heap.size ≤ b) := hid (Nat.le_of_eq hb)
  clear hb
  generalize w1.alloc (.cells (Array.replicate 128 (.int .u8 0)) 5) = w2 at *
  go_loopw [8, 9, 10] (fun i _ _ wr => ∃ k : Nat, k ≤ l.length ∧ i = .int .i64 k ∧ Hid (Buf w1 wr b (onlyB W n l k))) (fun i _ _ _ => l.length - (intOf i).toNat)
  case atStart => exact ⟨0, Nat.zero_le _, rfl, B0⟩
  case round =>
    clear B0
    obtain ⟨k, hk, rfl, hBuf⟩ := hrel
    have HBUF := hid hBuf.out
    clear hBuf
    by_cases hlt : k < l.length
    · obtain ⟨bl, ol, p1, c1, p2, c2, p3, c3, rfl, hbl, hra, hcells⟩ := recs_facts H.out (New.refl w) hlt
      obtain ⟨y20, y21, y22, y23, y24, y25, y26, y27, y28, y29⟩ := rec_ten (hcells _ (HW.out.new.trans HBUF.out.new))
      have HCL := hid hcells
      have HRA := hid hra
      obtain ⟨hv1, hv2⟩ := HV.out _ (List.getElem_mem hlt)
      have HV1 := hid hv1
      have HV2 := hid hv2
      have HSZ := hid (HVW.out k (by omega))
      have HSTEP := hid (onlyB_succ (W := W) (n := n) hlt)
      clear hra hcells hv1 hv2
      generalize l[k] = r at *
      generalize hP : onlyB W n l k = P at *
      clear hP
      by_cases hk1 : r.kind = 1
      case neg =>
        have t1 : (r.kind != 1) = true := bne_iff_ne.2 hk1
        have HE := hid (HSTEP.out.trans (only_no (fun h => hk1 h.1)))
        clear hk1
        go_wp2
        go_roundw
        case rel => exact ⟨k + 1, by omega, by go_num, hid (by rw [HE.out]; exact HBUF.out)⟩
        case measure => simp [intOf]; omega
      have t1 : (r.kind != 1) = false := by rw [hk1]; rfl
      by_cases hpg : r.page = n
      case neg =>
        have t2 : (r.page != n) = true := bne_iff_ne.2 hpg
        have HE := hid (HSTEP.out.trans (only_no (fun h => hpg h.2.1)))
        clear hk1 hpg
        go_wp2
        go_roundw
        case rel => exact ⟨k + 1, by omega, by go_num, hid (by rw [HE.out]; exact HBUF.out)⟩
        case measure => simp [intOf]; omega
      have t2 : (r.page != n) = false := by rw [hpg]; simp
      have HKP := hid (And.intro hk1 hpg)
      have HSEEN := hid (HV2.out (by omega) (by omega))
      have WR := hid (HW.out.newer HBUF.out.new)
      clear hk1 hpg
      go_wp2_with fail
      refine (find_any w wb S W r.unit _ WR.out).mono ?_
      rintro e w' (⟨hno, rfl, rfl⟩ | ⟨⟨xn, xb, xv⟩, hx, hxn, rfl, rfl⟩)
      · exfalso
        have := HW.out.units.none _ hno
        have hs := HSEEN.out
        rw [this] at hs
        cases hs
      obtain rfl : xn = r.unit := hxn
      have HX := hid hx
      clear hx t1 t2 y20 y21 y22 y23 y24 y25 y26 y27 y28 y29
      have HST0 := hid (HG.out.st r.unit)
      have HSORT := hid (HG.out.sorted r.unit)
      have HLFT : Hid ((W.unit r.unit).left.length ≤ 1000) := hid (Nat.le_trans (good_lefts HG.out r.unit) HL.out)
      obtain ⟨L, hL⟩ : ∃ L, layB P r.at_.toNat r.after = L := ⟨_, rfl⟩
      have HLL := hid hL
      clear hL
      have B1 : Hid (Buf w1 wr b (if (k + 1) ∈ (W.unit r.unit).left.take 0 then L else P)) := hid (by rw [List.take_zero, if_neg (by simp)]; exact HBUF.out)
      have hxl : xb < wr.heap.size := (Array.getElem?_eq_some_iff.1 (WR.out.units.unit _ HX.out).1).1
      have HSTEPS : Hid (∀ j, ((W.unit r.unit).st ≠ 2 → j = 0) → ((W.unit r.unit).st = 2 → j = (W.unit r.unit).left.length) → onlyB W n l (k + 1) = if (k + 1) ∈ (W.unit r.unit).left.take j then L else P) := hid (fun j h1 h2 => by
        rw [HSTEP.out]
        by_cases hst : (W.unit r.unit).st = 2
        · rw [h2 hst, List.take_length, ← HLL.out]
          unfold onlyStep
          by_cases hin : (k + 1) ∈ (W.unit r.unit).left
          · rw [if_pos hin, if_pos ⟨HKP.out.1, HKP.out.2, hst, hin⟩]
          · rw [if_neg hin, if_neg (fun h => hin h.2.2.2)]
        · rw [h1 hst, List.take_zero, if_neg (by simp), only_no (fun h => hst h.2.2.1)])
      clear HBUF WR hxl
      go_wp2_with fail
      rename World => wo
      go_loopw [10] (fun x wq => ∃ j : Nat, j ≤ (W.unit r.unit).left.length ∧ x = .int .i64 j ∧ Hid ((W.unit r.unit).st ≠ 2 → j = 0) ∧ Hid (Buf w1 wq b (if (k + 1) ∈ (W.unit r.unit).left.take j then L else P))) (fun x _ => (W.unit r.unit).left.length - (intOf x).toNat)
      case atStart => exact ⟨0, Nat.zero_le _, rfl, hid (fun _ => rfl), B1⟩
      case round =>
        clear B1
        obtain ⟨j, hj, rfl, hj0, hB⟩ := hrel
        have WQ := hid (HW.out.newer hB.out.new)
        obtain ⟨hu1, hu2⟩ := WQ.out.units.unit _ HX.out
        obtain ⟨lp, lc, hlv⟩ := own_len hu2
        have HROW : Hid (RowAt wr (.slice lp (W.unit r.unit).left.length lc) (W.unit r.unit).left.length (natVals (W.unit r.unit).left)) := hid (by rw [← hlv]; exact RowAt.owned hu2)
        have u1 : wr.cell? ⟨xb, 1, none⟩ = some (.int .i64 (W.unit r.unit).st) := cells_of hu1 1
        have u2 : wr.cell? ⟨xb, 2, none⟩ = some (.slice lp (W.unit r.unit).left.length lc) := by rw [← hlv]; exact cells_of hu1 2
        clear hu1 hu2 hlv
        by_cases hst : (W.unit r.unit).st = 2
        case neg =>
          have t3 : ((W.unit r.unit).st == 2) = false := beq_eq_false_iff_ne.2 hst
          have HE := hid (HSTEPS.out j hj0.out (fun h => absurd h hst))
          clear hst
          go_wp2
          go_roundw
          case rel => exact ⟨k + 1, by omega, by go_num, hid (by rw [HE.out]; exact hB.out)⟩
          case measure => simp [intOf]; omega
        have t3 : ((W.unit r.unit).st == 2) = true := beq_iff_eq.2 hst
        have HST := hid hst
        clear hst
        by_cases hjl : j < (W.unit r.unit).left.length
        case neg =>
          obtain rfl : j = (W.unit r.unit).left.length := by omega
          have HE := hid (HSTEPS.out _ hj0.out (fun _ => rfl))
          clear hjl
          go_wp2
          go_roundw
          case rel => exact ⟨k + 1, by omega, by go_num, hid (by rw [HE.out]; exact hB.out)⟩
          case measure => simp [intOf]; omega
        obtain ⟨p0, c0, e0, -, -, hcell⟩ := HROW.out
        injection e0 with e01 _ e03
        obtain ⟨gL, oL, e04, hgL, hcL⟩ := hcell (by omega)
        have hcL2 := hcL j (by unfold natVals; rw [List.length_map]; exact hjl)
        have hcv : (natVals (W.unit r.unit).left).getD j undef = .int .i64 (((W.unit r.unit).left[j] : Nat) : Int) := by
          unfold natVals
          rw [List.getD_eq_getElem?_getD, List.getElem?_map, List.getElem?_eq_getElem hjl]
          rfl
        rw [hcv] at hcL2
        subst e01 e04
        have HTK : Hid ((W.unit r.unit).left.take (j + 1) = (W.unit r.unit).left.take j ++ [(W.unit r.unit).left[j]]) := hid (List.take_append_getElem hjl).symm
        have HNI : Hid ((W.unit r.unit).left[j] ∉ (W.unit r.unit).left.take j) := hid (fun hm => by
          obtain ⟨i, hi, e⟩ := List.mem_iff_getElem.1 hm
          rw [List.length_take] at hi
          rw [List.getElem_take] at e
          have := List.pairwise_iff_getElem.1 HSORT.out i j (by omega) hjl (by omega)
          omega)
        have hj1000 : (j : Int) ≤ 1000 := by have := HLFT.out; omega
        have hk1000 : (k : Int) ≤ 1000 := by have := HL.out; omega
        have HGT1 := hid (by omega : ((W.unit r.unit).left.length) - (j + 1) < (W.unit r.unit).left.length - j)
        clear hcell hcL hcv e03
        generalize (W.unit r.unit).left[j] = y at *
        by_cases hy : y = k + 1
        case neg =>
          have t4 : ((y : Int) == (k : Int) + 1) = false := beq_eq_false_iff_ne.2 (by omega)
          have HE : Hid ((if (k + 1) ∈ (W.unit r.unit).left.take (j + 1) then L else P) = if (k + 1) ∈ (W.unit r.unit).left.take j then L else P) := hid (by
            rw [HTK.out]
            by_cases hin : (k + 1) ∈ (W.unit r.unit).left.take j
            · rw [if_pos hin, if_pos (List.mem_append.2 (.inl hin))]
            · rw [if_neg hin, if_neg (fun h => by
                rcases List.mem_append.1 h with h | h
                · exact hin h
                · exact hy (List.mem_singleton.1 h).symm)])
          clear hy
          go_wp2
          go_roundw
          case rel => exact ⟨j + 1, by omega, by go_num, hid (fun h => absurd HST.out h), hid (by rw [HE.out]; exact hB.out)⟩
          case measure => simp [intOf]; omega
        subst hy
        have HP0 : Hid ((if (k + 1) ∈ (W.unit r.unit).left.take j then L else P) = P) := hid (if_neg HNI.out)
        have HP1 : Hid ((if (k + 1) ∈ (W.unit r.unit).left.take (j + 1) then L else P) = L) := hid (if_pos (by rw [HTK.out]; exact List.mem_append.2 (.inr (List.mem_singleton.2 rfl))))
        have BQ : Hid (Buf w1 wr b P) := hid (by have h := hB.out; rw [HP0.out] at h; exact h)
        rw [show (((k + 1 : Nat) : Int)) = (k : Int) + 1 from rfl] at hcL2
        have t4 : ((k : Int) + 1 == (k : Int) + 1) = true := beq_self_eq_true _
        have hplace := place_bounds (valid_place HV1.out (by rw [lays, HKP.out.1]; rfl))
        obtain ⟨b0, b1, b2, b3, b4, b5⟩ := hplace
        obtain ⟨an, han, han2⟩ : ∃ n : Nat, r.at_ = (n : Int) ∧ n + r.after.size ≤ 128 := ⟨r.at_.toNat, by omega, by omega⟩
        have HAN := hid han
        obtain ⟨pA, cA, eA, hA1, hA2, hA3⟩ := HRA.out.after
        injection eA with eA1 _ eA3
        subst eA1 eA3
        obtain ⟨bA, oA, eA4, hbA, hcA⟩ := hA3 (by omega)
        subst eA4
        have B7 := hid (BQ.out.newer (New.refl wr).drew)
        have hcp := buf_copy (w := wr.drew) B7.out.at_ HSZ.out (an := an) (bA := bA) (oA := oA) (ac := c2) (t := r.after) han2 (fun i hi => ((bcell (HW.out.new.trans B7.out.new)).1 bA (oA + i) hbA).trans (hcA i hi))
        obtain ⟨y20, y21, y22, y23, y24, y25, y26, y27, y28, y29⟩ := rec_ten (HCL.out wr.drew (HW.out.new.trans B7.out.new))
        rw [han] at y23
        have k0 : (0 : Int) ≤ (an : Int) := by omega
        have k2 : (an : Int) ≤ 128 := by omega
        have k4 : ¬ 128 = an := by omega
        clear hA1 hA2 hA3 hcA b0 b1 b2 b3 b4 b5 han
        go_wp2_with fail
        go_region
        have B8 : Hid (Buf w1 (wr.drew.setRow b (byteVals (layB P an r.after)).toArray) b L) := hid (by
          have h : r.at_.toNat = an := by have := HAN.out; omega
          rw [← HLL.out, h]
          exact ⟨setRow_new2 B7.out.new HBG.out _, setRow_heap wr.drew b _ _ 5 (0, 0) B7.out.at_⟩)
        clear hcp k0 k2 k4 y20 y21 y22 y23 y24 y25 y26 y27 y28 y29 hcL2 u1 u2 t4
        generalize wr.drew.setRow b (byteVals (layB P an r.after)).toArray = w7 at *
        go_wp2
        go_roundw
        case rel => exact ⟨j + 1, by omega, by go_num, hid (fun h => absurd HST.out h), hid (by rw [HP1.out]; exact B8.out)⟩
        case measure => simp [intOf]; omega
    · obtain rfl : k = l.length := by omega
      have HX : Hid (OnlyOut l n w (.returned (.tuple #[.slice (some ⟨b, 0, none⟩) 128 128, .int .i64 0])) wr) := hid (.inr (.inr ⟨W, _, _, HS.out, HB.out.1, HB.out.2, rfl, buf_bytes HBUF.out.at_ (HVW.out _ (Nat.le_refl _)), HW.out.new.trans HBUF.out.new⟩))
      go_wp2
      go_ret2
      exact HX.out
end Go.Proofs.Ytmchbciofdokfaa

namespace Go.Proofs.Ytmchbciofdokfaa
open Go.RowKit
set_option linter.unusedSimpArgs false
set_option linter.unusedVariables false

/-- A page, its stamp, and an error. -/
noncomputable def pageV (l : List Rec) (n : Int) : ByteArray × Int × Int :=
  match walkW l with
  | none => (ByteArray.empty, 0, 50)
  | some W => if 0 ≤ n ∧ n < 120 then (W.page n.toNat, (W.stamp n.toNat : Int), 0) else (ByteArray.empty, 0, 2)
theorem bytes_nothing (w : World) : Bytes w (.slice none 0 0) ByteArray.empty := ⟨none, 0, rfl, Nat.le_refl _, Nat.zero_le _, fun h => absurd h (by decide)⟩
def PageVal (l : List Rec) (n : Int) (w : World) (e : Ending) (w' : World) : Prop :=
  ∃ q c, e = .returned (.tuple #[.slice q (pageV l n).1.size c, .int .i64 (pageV l n).2.1, .int .i64 (pageV l n).2.2]) ∧ Bytes w' (.slice q (pageV l n).1.size c) (pageV l n).1 ∧ New w w'
theorem PageOut.val {l : List Rec} {n : Int} {w w' : World} {e : Ending} (h : PageOut l n w e w') : PageVal l n w e w' := by
  unfold PageVal
  rcases h with ⟨h1, h2, h3⟩ | ⟨h1, h2, h3, h4⟩ | ⟨W, q, c, h1, h2, h3, h4, h5, h6⟩
  · have e1 : pageV l n = (ByteArray.empty, 0, 50) := by unfold pageV; rw [h1]
    rw [e1]
    exact ⟨none, 0, h2, bytes_nothing w', h3⟩
  · have e1 : pageV l n = (ByteArray.empty, 0, 2) := by
      unfold pageV
      cases hw : walkW l with
      | none => exact absurd hw h1
      | some W => exact if_neg h2
    rw [e1]
    exact ⟨none, 0, h3, bytes_nothing w', h4⟩
  · have e1 : pageV l n = (W.page n.toNat, (W.stamp n.toNat : Int), 0) := by
      unfold pageV
      rw [h1]
      exact if_pos ⟨h2, h3⟩
    have hz := (good h1).page n.toNat
    rw [e1]
    refine ⟨q, c, ?_, ?_, h6⟩
    · show e = .returned (.tuple #[.slice q (W.page n.toNat).size c, _, _])
      rw [hz]
      exact h4
    · show Bytes w' (.slice q (W.page n.toNat).size c) (W.page n.toNat)
      rw [hz]
      exact h5
noncomputable def onlyV (l : List Rec) (n : Int) : ByteArray × Int :=
  match walkW l with
  | none => (ByteArray.empty, 50)
  | some W => if 0 ≤ n ∧ n < 120 then (onlyB W n l l.length, 0) else (ByteArray.empty, 2)
def OnlyVal (l : List Rec) (n : Int) (w : World) (e : Ending) (w' : World) : Prop :=
  ∃ q c, e = .returned (.tuple #[.slice q (onlyV l n).1.size c, .int .i64 (onlyV l n).2]) ∧ Bytes w' (.slice q (onlyV l n).1.size c) (onlyV l n).1 ∧ New w w'
theorem OnlyOut.val {l : List Rec} {n : Int} {w w' : World} {e : Ending} (h : OnlyOut l n w e w') : OnlyVal l n w e w' := by
  unfold OnlyVal
  rcases h with ⟨h1, h2, h3⟩ | ⟨h1, h2, h3, h4⟩ | ⟨W, q, c, h1, h2, h3, h4, h5, h6⟩
  · have e1 : onlyV l n = (ByteArray.empty, 50) := by unfold onlyV; rw [h1]
    rw [e1]
    exact ⟨none, 0, h2, bytes_nothing w', h3⟩
  · have e1 : onlyV l n = (ByteArray.empty, 2) := by
      unfold onlyV
      cases hw : walkW l with
      | none => exact absurd hw h1
      | some W => exact if_neg h2
    rw [e1]
    exact ⟨none, 0, h3, bytes_nothing w', h4⟩
  · have e1 : onlyV l n = (onlyB W n l l.length, 0) := by
      unfold onlyV
      rw [h1]
      exact if_pos ⟨h2, h3⟩
    have hz := onlyB_size (W := W) (n := n) (fun r hr => (walk_valid h1 r hr).1) l.length (Nat.le_refl _)
    rw [e1]
    refine ⟨q, c, ?_, ?_, h6⟩
    · show e = .returned (.tuple #[.slice q (onlyB W n l l.length).size c, _])
      rw [hz]
      exact h4
    · show Bytes w' (.slice q (onlyB W n l l.length).size c) (onlyB W n l l.length)
      rw [hz]
      exact h5
theorem few_len {l : List Rec} (h : fewB l = true) : l.length ≤ 60 := by
  unfold fewB at h
  simp at h
  exact h.2
set_option maxRecDepth 100000 in
set_option maxHeartbeats 4000000 in
theorem pages_law (v : Value) (l : List Rec) (n : Int) (w : World) (h : Recs w v l) :
    Calls Try.prog 5 #[v, .int .i64 n] w fun e w' => e = .returned (.bool true) ∧ New w w' := by
  have H := hid h
  clear h
  go_enter Try.func5, Try.ntmps5
  go_wp2_with fail
  with_reducible refine (few_any _ l _ H.out).mono ?_
  rintro e w1 ⟨rfl, n1⟩
  have N1 := hid n1
  clear n1
  obtain ⟨F, hF⟩ : ∃ F, fewB l = F := ⟨_, rfl⟩
  rw [hF]
  cases F
  · clear hF
    go_wp2_with fail
    with_reducible refine (awake_any _).mono ?_
    rintro e w2 ⟨rfl, n2⟩
    have HX := hid (N1.out.trans n2)
    clear n2
    go_wp2
    go_ret
    exact ⟨rfl, HX.out⟩
  have HL : Hid (l.length ≤ 1000) := hid (by have := few_len hF; omega)
  clear hF
  go_wp2_with fail
  refine (pageBack_any _ l n _ (H.out.new N1.out) HL.out).mono ?_
  intro e w2 hb2
  obtain ⟨q2, c2, rfl, hy2, n2⟩ := (PageBack.out hb2).val
  have Y2 := hid hy2
  have N2 := hid (N1.out.trans n2)
  clear hb2 hy2 n2
  go_wp2_with fail
  refine (rpage_any _ l n _ (H.out.new N2.out) HL.out).mono ?_
  intro e w3 hb3
  obtain ⟨q3, c3, rfl, hy3, n3⟩ := hb3.val
  have Y3 := hid hy3
  have Y2' := hid (Y2.out.new n3)
  have N3 := hid (N2.out.trans n3)
  clear hb3 hy3 n3
  generalize pageV l n = X at *
  obtain ⟨X1, X2, X3⟩ := X
  go_wp2_with fail
  refine (sound_any _ l _ (H.out.new N3.out) HL.out).mono ?_
  rintro e w4 ⟨rfl, n4⟩
  have HN4 := hid n4
  have N4 := hid (N3.out.trans n4)
  clear n4
  go_wp2_with fail
  refine (rsound_any _ l _ (H.out.new N4.out) HL.out).mono ?_
  rintro e w5 ⟨rfl, n5⟩
  have HN5 := hid n5
  have N5 := hid (N4.out.trans n5)
  clear n5
  generalize (walkW l).isSome = SB at *
  have hcv1 := Bytes.convert (Y2'.out.new (HN4.out.trans HN5.out)) 33 5 9 Try.underlying33 Try.underlying5 Try.underlying9
  have hcv2 := Bytes.convert (Y3.out.new (HN4.out.trans HN5.out)) 33 5 9 Try.underlying33 Try.underlying5 Try.underlying9
  go_wp2_with fail
  refine (only_any _ l n _ (H.out.new N5.out) HL.out).mono ?_
  intro e w6 hb6
  obtain ⟨q6, c6, rfl, hy6, n6⟩ := hb6.val
  have Y6 := hid hy6
  have N6 := hid (N5.out.trans n6)
  clear hb6 hy6 n6 hcv1 hcv2
  go_wp2_with fail
  refine (ronly_any _ l n _ (H.out.new N6.out) HL.out).mono ?_
  intro e w7 hb7
  obtain ⟨q7, c7, rfl, hy7, n7⟩ := hb7.val
  have N7 := hid (N6.out.trans n7)
  have hcv1 := Bytes.convert (Y6.out.new n7) 33 5 9 Try.underlying33 Try.underlying5 Try.underlying9
  have hcv2 := Bytes.convert hy7 33 5 9 Try.underlying33 Try.underlying5 Try.underlying9
  clear hb7 hy7 n7 Y6
  generalize onlyV l n = Y at *
  obtain ⟨Z1, Z2⟩ := Y
  go_wp2_with fail
  with_reducible refine (awake_any _).mono ?_
  rintro e w8 ⟨rfl, n8⟩
  have HX := hid (N7.out.trans n8)
  clear n8
  go_wp2
  go_ret
  exact ⟨rfl, HX.out⟩
end Go.Proofs.Ytmchbciofdokfaa
