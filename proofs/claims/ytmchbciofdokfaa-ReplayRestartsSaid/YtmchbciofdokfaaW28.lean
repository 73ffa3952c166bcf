/- Awake, in plain words: what restart appends to one change. Awake returns true. -/
import Derived.Test.YtmchbciofdokfaaW25
import Derived.Test.YtmchbciofdokfaaW26
namespace Go.Proofs.Ytmchbciofdokfaa
open Go.RowKit
set_option linter.unusedSimpArgs false
set_option linter.unusedVariables false

def awakeR : Rec := ⟨1, 1, 0, 5, ⟨#[0]⟩, ⟨#[7]⟩, 0, 0, ByteArray.empty, []⟩
def awakeU : Rec := ⟨2, 1, 0, 5, ByteArray.empty, ⟨#[0]⟩, 1, 0, ByteArray.empty, []⟩
def awakeE : Rec := ⟨4, 1, 0, 0, ByteArray.empty, ByteArray.empty, 0, 0, ByteArray.empty, []⟩
theorem awake_ok : Ok pw0 awakeR := by
  refine ⟨by decide, fun h => absurd h (by decide), by decide, fun h => absurd h (by decide), fun _ => ⟨?_, ?_⟩, fun h => absurd h (by decide), fun h => absurd h (by decide), fun h => absurd h (by decide)⟩
  · rintro ⟨n, _, _, k, hk, _⟩
    cases hk
  · show partB zeroPage 5 1 = ⟨#[0]⟩
    apply ByteArray.ext
    decide
theorem awake_opens : IsOpens (next pw0 awakeR).unit [⟨1, 1, ByteArray.empty⟩] := by
  refine ⟨by simp, fun o => ?_⟩
  constructor
  · intro h
    rw [List.mem_singleton] at h
    subst h
    exact ⟨⟨rfl, by decide⟩, rfl⟩
  · rintro ⟨h1, h2⟩
    by_cases hu : o.unit = 1
    · rw [List.mem_singleton, h2, hu]
      rfl
    · have e : (next pw0 awakeR).unit o.unit = au0 := by
        show (if o.unit = 1 then _ else _) = _
        rw [if_neg hu]
        rfl
      rw [e] at h1
      cases h1.1
theorem awake_plain {W : PW} {o : List Opn} {O : List Rec} {t : Todo} (hw : walkW [awakeR] = some W) (ho : IsOpens W.unit o) (hs : Steps [awakeR] (todo0 W o) O t) (ht : t.open_ = []) : O = [awakeU, awakeE] := by
  have hw2 : walkW ([] ++ [awakeR]) = some (next pw0 awakeR) := walk_yes walk_nil awake_ok
  rw [List.nil_append, hw] at hw2
  injection hw2 with hw2
  subst hw2
  have e := opens_one ho awake_opens
  subst e
  have e0 : todo0 (next pw0 awakeR) [⟨1, 1, ByteArray.empty⟩] = ⟨[⟨1, 1, ByteArray.empty⟩], fun n => ((next pw0 awakeR).unit n).left⟩ := by
    unfold todo0
    simp
  rw [e0] at hs
  have s1 := Step.undo (l := [awakeR]) (T1 := []) (T2 := []) (o := ⟨1, 1, ByteArray.empty⟩) (f := fun n => ((next pw0 awakeR).unit n).left) (by simp) (by simp) (by simp)
  have hl : ((next pw0 awakeR).unit 1).left = [1] := rfl
  have s2 := Step.over (l := [awakeR]) (T1 := []) (T2 := []) (o := ⟨1, 0, ByteArray.empty⟩) (f := popL (fun n => ((next pw0 awakeR).unit n).left) 1) (by simp) rfl
  have e1 : undoRec [awakeR] (fun n => ((next pw0 awakeR).unit n).left) ⟨1, 1, ByteArray.empty⟩ = awakeU := rfl
  have key : Steps [awakeR] ⟨[⟨1, 1, ByteArray.empty⟩], fun n => ((next pw0 awakeR).unit n).left⟩ (([] ++ [awakeU]) ++ [awakeE]) ⟨[], popL (fun n => ((next pw0 awakeR).unit n).left) 1⟩ := .snoc (.snoc .nil s1) s2
  exact hs.one key ht rfl
end Go.Proofs.Ytmchbciofdokfaa

namespace Go.Proofs.Ytmchbciofdokfaa
open Go.RowKit
set_option linter.unusedSimpArgs false
set_option linter.unusedVariables false

theorem bytes_made {w : World} {k : Nat} {s : ByteArray} (h : w.heap[k]? = some (.cells (byteVals s).toArray 5 (0, 0))) (hs : s.size ≤ 1000) : Bytes w (.slice (some ⟨k, 0, none⟩) s.size s.size) s := by
  refine ⟨_, s.size, rfl, Nat.le_refl _, by unfold maxLen; omega, fun _ => ⟨k, 0, rfl, (Array.getElem?_eq_some_iff.1 h).1, fun i hi => ?_⟩⟩
  rw [Nat.zero_add, cells_of h i, List.getElem?_toArray, List.getD_eq_getElem?_getD, List.getElem?_eq_getElem hi]
  rfl
theorem bytes_none (w : World) : Bytes w (.slice none 0 0) ByteArray.empty := row_none w
theorem opens_none (w : World) : Opens w (.slice none 0 0) [] := row_none w
theorem recs_one {w : World} {k : Nat} {r : Rec} {bv av uv : Value} (h : w.heap[k]? = some (.cells (recCells r bv av uv) 36 (0, 0))) (hr : RecAt w r bv av uv) : Recs w (.slice (some ⟨k, 0, none⟩) 1 1) [r] := by
  refine ⟨_, 1, rfl, Nat.le_refl _, by decide, fun _ => ⟨k, 0, rfl, (Array.getElem?_eq_some_iff.1 h).1, fun i hi => ?_⟩⟩
  have : i = 0 := by simpa using hi
  subst this
  exact ⟨bv, av, uv, hr, fun j hj => by rw [show 0 + 0 * 10 + j = j by omega]; exact cells_of h j⟩
theorem recs_two {w : World} {k : Nat} {r s : Rec} {bv av uv bv' av' uv' : Value} (h : w.heap[k]? = some (.cells (recCells r bv av uv ++ recCells s bv' av' uv') 36 (0, 0))) (hr : RecAt w r bv av uv) (hs : RecAt w s bv' av' uv') : Recs w (.slice (some ⟨k, 0, none⟩) 2 2) [r, s] := by
  refine ⟨_, 2, rfl, Nat.le_refl _, by decide, fun _ => ⟨k, 0, rfl, (Array.getElem?_eq_some_iff.1 h).1, fun i hi => ?_⟩⟩
  have : i = 0 ∨ i = 1 := by simp at hi; omega
  rcases this with rfl | rfl
  · exact ⟨bv, av, uv, hr, fun j hj => by
      rw [show 0 + 0 * 10 + j = j by omega, cells_of h j, Array.getElem?_append_left (by simpa using hj)]
      rfl⟩
  · exact ⟨bv', av', uv', hs, fun j hj => by
      rw [show 0 + 1 * 10 + j = 10 + j by omega, cells_of h (10 + j), Array.getElem?_append_right (by simp)]
      simp⟩
def AwakeIs (w : World) (e : Ending) (w' : World) : Prop := e = .returned (.bool true) ∧ New w w'
theorem awake_in (w : World) : Recs (((w.alloc (.cells #[.int .u8 0] 5)).alloc (.cells #[.int .u8 7] 5)).alloc (.cells #[.int .i64 1, .int .i64 1, .int .i64 0, .int .i64 5, .slice (some ⟨w.heap.size, 0, none⟩) 1 1, .slice (some ⟨w.heap.size + 1, 0, none⟩) 1 1, .int .i64 0, .int .i64 0, .string ⟨#[]⟩, .slice none 0 0] 36)) (.slice (some ⟨w.heap.size + 1 + 1, 0, none⟩) 1 1) [awakeR] ∧ New w (((w.alloc (.cells #[.int .u8 0] 5)).alloc (.cells #[.int .u8 7] 5)).alloc (.cells #[.int .i64 1, .int .i64 1, .int .i64 0, .int .i64 5, .slice (some ⟨w.heap.size, 0, none⟩) 1 1, .slice (some ⟨w.heap.size + 1, 0, none⟩) 1 1, .int .i64 0, .int .i64 0, .string ⟨#[]⟩, .slice none 0 0] 36)) := by
  have n1 : New w (w.alloc (.cells #[.int .u8 0] 5)) := Below.alloc (New.refl w) (Nat.le_refl _) _
  have n2 : New (w.alloc (.cells #[.int .u8 0] 5)) ((w.alloc (.cells #[.int .u8 0] 5)).alloc (.cells #[.int .u8 7] 5)) := Below.alloc (New.refl _) (Nat.le_refl _) _
  have n3 : New ((w.alloc (.cells #[.int .u8 0] 5)).alloc (.cells #[.int .u8 7] 5)) (((w.alloc (.cells #[.int .u8 0] 5)).alloc (.cells #[.int .u8 7] 5)).alloc (.cells #[.int .i64 1, .int .i64 1, .int .i64 0, .int .i64 5, .slice (some ⟨w.heap.size, 0, none⟩) 1 1, .slice (some ⟨w.heap.size + 1, 0, none⟩) 1 1, .int .i64 0, .int .i64 0, .string ⟨#[]⟩, .slice none 0 0] 36)) := Below.alloc (New.refl _) (Nat.le_refl _) _
  have s1 : (w.alloc (.cells #[.int .u8 0] 5)).heap.size = w.heap.size + 1 := by simp
  have s2 : ((w.alloc (.cells #[.int .u8 0] 5)).alloc (.cells #[.int .u8 7] 5)).heap.size = w.heap.size + 1 + 1 := by simp
  have b0 := alloc_block w (.cells #[.int .u8 0] 5)
  have b1 := alloc_block (w.alloc (.cells #[.int .u8 0] 5)) (.cells #[.int .u8 7] 5)
  have b2 := alloc_block ((w.alloc (.cells #[.int .u8 0] 5)).alloc (.cells #[.int .u8 7] 5)) (.cells #[.int .i64 1, .int .i64 1, .int .i64 0, .int .i64 5, .slice (some ⟨w.heap.size, 0, none⟩) 1 1, .slice (some ⟨w.heap.size + 1, 0, none⟩) 1 1, .int .i64 0, .int .i64 0, .string ⟨#[]⟩, .slice none 0 0] 36)
  rw [s1] at b1
  rw [s2] at b2
  have k0 := (Below.block (n2.trans n3) w.heap.size (by rw [s1]; omega)).trans b0
  have k1 := (Below.block n3 (w.heap.size + 1) (by rw [s2]; omega)).trans b1
  exact ⟨recs_one (r := awakeR) b2 ⟨bytes_made (s := ⟨#[0]⟩) k0 (by decide), bytes_made (s := ⟨#[7]⟩) k1 (by decide), opens_none _⟩, (n1.trans n2).trans n3⟩
theorem awake_out (w4 : World) : Recs ((w4.alloc (.cells #[.int .u8 0] 5)).alloc (.cells #[.int .i64 2, .int .i64 1, .int .i64 0, .int .i64 5, .slice none 0 0, .slice (some ⟨w4.heap.size, 0, none⟩) 1 1, .int .i64 1, .int .i64 0, .string ⟨#[]⟩, .slice none 0 0, .int .i64 4, .int .i64 1, .int .i64 0, .int .i64 0, .slice none 0 0, .slice none 0 0, .int .i64 0, .int .i64 0, .string ⟨#[]⟩, .slice none 0 0] 36)) (.slice (some ⟨w4.heap.size + 1, 0, none⟩) 2 2) [awakeU, awakeE] ∧ New w4 ((w4.alloc (.cells #[.int .u8 0] 5)).alloc (.cells #[.int .i64 2, .int .i64 1, .int .i64 0, .int .i64 5, .slice none 0 0, .slice (some ⟨w4.heap.size, 0, none⟩) 1 1, .int .i64 1, .int .i64 0, .string ⟨#[]⟩, .slice none 0 0, .int .i64 4, .int .i64 1, .int .i64 0, .int .i64 0, .slice none 0 0, .slice none 0 0, .int .i64 0, .int .i64 0, .string ⟨#[]⟩, .slice none 0 0] 36)) := by
  have n1 : New w4 (w4.alloc (.cells #[.int .u8 0] 5)) := Below.alloc (New.refl w4) (Nat.le_refl _) _
  have n2 : New (w4.alloc (.cells #[.int .u8 0] 5)) ((w4.alloc (.cells #[.int .u8 0] 5)).alloc (.cells #[.int .i64 2, .int .i64 1, .int .i64 0, .int .i64 5, .slice none 0 0, .slice (some ⟨w4.heap.size, 0, none⟩) 1 1, .int .i64 1, .int .i64 0, .string ⟨#[]⟩, .slice none 0 0, .int .i64 4, .int .i64 1, .int .i64 0, .int .i64 0, .slice none 0 0, .slice none 0 0, .int .i64 0, .int .i64 0, .string ⟨#[]⟩, .slice none 0 0] 36)) := Below.alloc (New.refl _) (Nat.le_refl _) _
  have s1 : (w4.alloc (.cells #[.int .u8 0] 5)).heap.size = w4.heap.size + 1 := by simp
  have b0 := alloc_block w4 (.cells #[.int .u8 0] 5)
  have b1 := alloc_block (w4.alloc (.cells #[.int .u8 0] 5)) (.cells #[.int .i64 2, .int .i64 1, .int .i64 0, .int .i64 5, .slice none 0 0, .slice (some ⟨w4.heap.size, 0, none⟩) 1 1, .int .i64 1, .int .i64 0, .string ⟨#[]⟩, .slice none 0 0, .int .i64 4, .int .i64 1, .int .i64 0, .int .i64 0, .slice none 0 0, .slice none 0 0, .int .i64 0, .int .i64 0, .string ⟨#[]⟩, .slice none 0 0] 36)
  rw [s1] at b1
  have k0 := (Below.block n2 w4.heap.size (by rw [s1]; omega)).trans b0
  exact ⟨recs_two (r := awakeU) (s := awakeE) b1 ⟨bytes_none _, bytes_made (s := ⟨#[0]⟩) k0 (by decide), opens_none _⟩ ⟨bytes_none _, bytes_none _, opens_none _⟩, n1.trans n2⟩
set_option maxRecDepth 100000 in
set_option maxHeartbeats 2000000 in
theorem awake_any (w : World) : Calls Try.prog 10 #[] w (AwakeIs w) := by
  have HA := hid (awake_in w)
  go_enter Try.func10, Try.ntmps10
  go_wp2_with fail
  refine (restart_any _ [awakeR] _ HA.out.1 (by decide)).mono ?_
  rintro e w4 (⟨hn, _, _⟩ | ⟨W, o, O, t, v4, hw, ho, hst, ht, rfl, hr, hn⟩)
  · have := walk_yes walk_nil awake_ok
    rw [List.nil_append, hn] at this
    cases this
  · have hO := awake_plain hw ho hst ht
    subst hO
    have HR := hid hr
    have HN := hid hn
    have HB := hid (awake_out w4)
    obtain ⟨pv, cv, rfl, -, -⟩ := hr.form
    clear hw ho hst ht hr hn
    go_wp2_with fail
    refine (sameRecords_any _ _ [awakeU, awakeE] [awakeU, awakeE] _ (HR.out.new HB.out.2) HB.out.1).mono ?_
    rintro e w5 ⟨rfl, hn5⟩
    have HX : Hid (AwakeIs w (.returned (.bool true)) w5) := hid ⟨rfl, (HA.out.2.trans HN.out).trans (HB.out.2.trans hn5)⟩
    rw [show decide ([awakeU, awakeE] = [awakeU, awakeE]) = true by simp]
    clear hn5
    go_wp2
    go_ret
    exact HX.out
end Go.Proofs.Ytmchbciofdokfaa
