/- Blocks of pages: pool.Block, pool.PageOf and those of the specification. Pages of blocks: pool.PageOf, progenyref04.Block and PageOf. A pool in memory: its words, and the small functions. Finding a page's frame: the closure of use, slices.IndexFunc at frames. pool.Pool.out: a frame's page goes out. pool.New, Frames, and SameInts of the specification. slices.Delete of one frame out of a row of frames. The laying (lays138) is written by the shelf's tool. pool.Pool.out: a frame's page goes out. (written by pout.py) pool.Pool.use: a page that a frame has. -/
import Derived.Test.YtdccbceaajnajaaGreatA7
import Derived.Test.YtdccbceaajnajaaGreatD4
import Derived.Test.YtdccbceaajnajaaGreatT21
import Derived.Test.YtdccbceaajnajaaGreatA9
import Derived.OwnWalk
import Derived.Test.YtdccbceaajnajaaGreatU2
import Derived.Test.YtdccbceaajnajaaGreatD46
import Derived.Deep.Onto
import Derived.Shelf.SlicesE.Delete
import Derived.BigQuiet
import Derived.Deep.RegionWith
namespace Go.Proofs.YtdccbceaajnajaaGreat
open Go.RowKit
set_option linter.unusedSimpArgs false
set_option linter.unusedVariables false

theorem bytesOf_append (a b : List UInt8) : bytesOf a ++ bytesOf b = bytesOf (a ++ b) := by
  apply ByteArray.ext
  simp [bytesOf]
theorem Bytes.takeM {w : World} {p : Option Addr} {c : Nat} {l : List UInt8} (h : Bytes w (.slice p l.length c) (bytesOf l)) (k : Nat) (hk : k ≤ l.length) : Bytes w (.slice p k c) (bytesOf (l.take k)) := by
  have e := bytesOf_extract l 0 k
  rw [List.drop_zero] at e
  rw [← e]
  rw [← bytesOf_size l] at h hk
  exact h.take k hk
theorem Bytes.dropM {w : World} {q : Addr} {c : Nat} {l : List UInt8} (h : Bytes w (.slice (some q) l.length c) (bytesOf l)) (k : Nat) (hk : k < l.length) : Bytes w (.slice (some (q.add k)) (l.length - k) (c - k)) (bytesOf (l.drop k)) := by
  have e := bytesOf_extract l k l.length
  rw [List.take_length] at e
  rw [← bytesOf_size l] at h hk
  have := h.drop k hk
  rw [bytesOf_size] at this
  rw [e] at this
  exact this

set_option maxHeartbeats 1600000 in
set_option maxRecDepth 100000 in
theorem concat_three (g : Nat) (u1 u2 u3 : Value) (s1 s2 s3 : ByteArray) (w : World) (h1 : Bytes w u1 s1) (h2 : Bytes w u2 s2) (h3 : Bytes w u3 s3) (c1 : w.cell? ⟨g, 0, none⟩ = some u1) (c2 : w.cell? ⟨g, 1, none⟩ = some u2) (c3 : w.cell? ⟨g, 2, none⟩ = some u3) (hg : g < w.heap.size) (hs1 : s1.size ≤ 1000) (hs2 : s2.size ≤ 1000) (hs3 : s3.size ≤ 1000) :
    Calls Tryz.prog 130 #[.slice (some ⟨g, 0, none⟩) 3 3] w (ContentBack (s1 ++ s2 ++ s3) w) := by
  have H1 := hid h1
  have H2 := hid h2
  have H3 := hid h3
  obtain ⟨p1, k1, rfl, _⟩ := h1
  obtain ⟨p2, k2, rfl, _⟩ := h2
  obtain ⟨p3, k3, rfl, _⟩ := h3
  go_enter Tryz.func130, Tryz.ntmps130
  go_wp2
  refine wp_loop_rounds 4 ?_
  rw [rounds_succ]
  go_wp2
  rw [rounds_succ]
  go_wp2
  rw [rounds_succ]
  go_wp2
  rw [rounds_succ]
  go_wp2_with fail
  refine (grow_at _ (s1.size + s2.size + s3.size) _ (by omega) (by omega)).mono ?_
  rintro e w1 ⟨p, c, rfl, hown, hn1⟩
  have d1 := (hn1.cell g 0 hg).trans c1
  have d2 := (hn1.cell g 1 hg).trans c2
  have d3 := (hn1.cell g 2 hg).trans c3
  have hB1 := hid (H1.out.later hn1)
  go_wp2
  refine wp_loop_rounds 4 ?_
  rw [rounds_succ]
  go_wp2_with (at_builtin; refine app_all rfl _ _ rfl w.heap.size _ 0 [] rfl hown _ s1 rfl hB1.out ?ca ?cb ?_)
  case ca => omega
  case cb => exact hn1.size
  intro v2 w2 own2 grow2 _
  obtain ⟨p4, k4, rfl⟩ : ∃ A k, v2 = .slice A (s1.size) k := by
    rcases own2.2 with ⟨rfl, e⟩ | ⟨g, cap, cur, rfl, _⟩
    · exact ⟨_, _, by rw [e]⟩
    · exact ⟨_, _, rfl⟩
  have hn2 : New w w2 := hn1.grown grow2 hn1.size (fun k hk => (hown.lt k hk).1)
  have e1 := (hn2.cell g 0 hg).trans c1
  have e2 := (hn2.cell g 1 hg).trans c2
  have e3 := (hn2.cell g 2 hg).trans c3
  have hB2 := hid (H2.out.later hn2)
  have OWN2 := hid own2
  clear own2 d1 d2 d3
  go_wp2
  rw [rounds_succ]
  go_wp2_with (at_builtin; refine app_all rfl _ _ rfl w.heap.size _ (s1.size) _ rfl OWN2.out _ s2 rfl hB2.out ?ca ?cb ?_)
  case ca => omega
  case cb => exact hn2.size
  intro v3 w3 own3 grow3 _
  obtain ⟨p5, k5, rfl⟩ : ∃ A k, v3 = .slice A (s1.size + s2.size) k := by
    rcases own3.2 with ⟨rfl, e⟩ | ⟨g, cap, cur, rfl, _⟩
    · exact ⟨_, _, by rw [e]⟩
    · exact ⟨_, _, rfl⟩
  have hn3 : New w w3 := hn2.grown grow3 hn2.size (fun k hk => (OWN2.out.lt k hk).1)
  have f1 := (hn3.cell g 0 hg).trans c1
  have f2 := (hn3.cell g 1 hg).trans c2
  have f3 := (hn3.cell g 2 hg).trans c3
  have hB3 := hid (H3.out.later hn3)
  have OWN3 := hid own3
  clear own3 e1 e2 e3
  go_wp2
  rw [rounds_succ]
  go_wp2_with (at_builtin; refine app_all rfl _ _ rfl w.heap.size _ (s1.size + s2.size) _ rfl OWN3.out _ s3 rfl hB3.out ?ca ?cb ?_)
  case ca => omega
  case cb => exact hn3.size
  intro v4 w4 own4 grow4 _
  obtain ⟨p6, k6, rfl⟩ : ∃ A k, v4 = .slice A (s1.size + s2.size + s3.size) k := by
    rcases own4.2 with ⟨rfl, e⟩ | ⟨g, cap, cur, rfl, _⟩
    · exact ⟨_, _, by rw [e]⟩
    · exact ⟨_, _, rfl⟩
  have hn4 : New w w4 := hn3.grown grow4 hn3.size (fun k hk => (OWN3.out.lt k hk).1)
  have OWN4 := hid own4
  clear own4
  go_wp2
  rw [rounds_succ]
  go_wp2
  go_ret
  have hsz : (s1 ++ s2 ++ s3).size = s1.size + s2.size + s3.size := by simp
  have HC : Content w4 (.slice p6 (s1 ++ s2 ++ s3).size k6) (s1 ++ s2 ++ s3) := by rw [hsz]; exact own_content OWN4.out hsz (by rw [byteVals_append, byteVals_append]; simp)
  rw [hsz] at HC
  refine ⟨p6, k6, ?_, by rw [hsz]; exact HC, hn4⟩
  rw [hsz]
  rfl

/-- May a page have this stamp? -/
def pgOk (l : List UInt8) (st : Int) : Bool := decide (l.length = 128) && wi 0 st 1000000
def blkB (l : List UInt8) (st : Int) : List UInt8 := numB st ++ l ++ numB st
/-- What Block returns. -/
def BlockBack (l : List UInt8) (st : Int) (w : World) (e : Ending) (w' : World) : Prop := ∃ p k c, ∃ er : Int, e = .returned (.tuple #[.slice p k c, .int .i64 er]) ∧ New w w' ∧
  ((pgOk l st = true → er = 0 ∧ k = 136 ∧ Content w' (.slice p k c) (bytesOf (blkB l st))) ∧ (pgOk l st = false → er = 2 ∧ (.slice p k c : Value) = .slice none 0 0))
theorem blkB_length {l : List UInt8} {st : Int} (h : l.length = 128) : (blkB l st).length = 136 := by
  simp only [blkB, List.length_append, numB_length, h]

set_option maxHeartbeats 1600000 in
theorem block_any (v : Value) (l : List UInt8) (st : Int) (w : World) (h : Bytes w v (bytesOf l)) (hl : l.length ≤ 1000) : Calls Tryz.prog 105 #[v, .int .i64 st] w (BlockBack l st w) := by
  have HB := hid h
  obtain ⟨p, c, rfl, h1, h2, -⟩ := h
  rw [bytesOf_size] at h1 HB ⊢
  have hno : pgOk l st = false → BlockBack l st w (.returned (.tuple #[.slice none 0 0, .int .i64 2])) w := fun hf =>
    ⟨none, 0, 0, 2, rfl, New.refl w, fun h => by rw [hf] at h; exact absurd h (by decide), fun _ => ⟨rfl, rfl⟩⟩
  have HNO := hid hno
  clear hno
  by_cases a1 : l.length = 128
  case neg =>
    have q1 : ((l.length : Int) == 128) = false := by simp; omega
    have q2 : ((l.length : Int) != 128) = true := by simp; omega
    have HF : Hid (pgOk l st = false) := hid (by unfold pgOk; rw [decide_eq_false a1]; rfl)
    clear a1
    go_enter Tryz.func105, Tryz.ntmps105
    go_wp2
    go_ret2
    exact HNO.out HF.out
  have q1 : ((l.length : Int) == 128) = true := by simp; omega
  have q2 : ((l.length : Int) != 128) = false := by simp; omega
  by_cases a2 : st < 0
  · have q3 : decide (st < 0) = true := by simpa using a2
    have HF : Hid (pgOk l st = false) := hid (by unfold pgOk; rw [wi_no.2 (by omega), Bool.and_false])
    clear a1 a2
    go_enter Tryz.func105, Tryz.ntmps105
    go_wp2
    go_ret2
    exact HNO.out HF.out
  have q3 : decide (st < 0) = false := by simpa using a2
  by_cases a3 : 1000000 < st
  · have q4 : decide ((1000000 : Int) < st) = true := by simpa using a3
    have HF : Hid (pgOk l st = false) := hid (by unfold pgOk; rw [wi_no.2 (by omega), Bool.and_false])
    clear a1 a2 a3
    go_enter Tryz.func105, Tryz.ntmps105
    go_wp2
    go_ret2
    exact HNO.out HF.out
  have q4 : decide ((1000000 : Int) < st) = false := by simpa using a3
  have HF : Hid (pgOk l st = true) := hid (by unfold pgOk; rw [decide_eq_true a1, wi_iff.2 (by omega)]; rfl)
  have b1 : 0 ≤ st := by omega
  have b2 : st ≤ 4294967295 := by omega
  have LL := hid a1
  clear a1 a2 a3
  go_enter Tryz.func105, Tryz.ntmps105
  go_wp2_with fail
  refine (octNumber_yes st _ b1 b2).mono ?_
  rintro e w1 ⟨u, rfl, hu, n1⟩
  have hs4 : (numB st).length = 4 := numB_length st
  have hu' := hid hu
  obtain ⟨p1, c1, rfl, -⟩ := id hu
  have HB1 := hid (HB.out.renew n1)
  have N1 := hid n1
  clear hu n1
  go_wp2_with fail
  refine (concat_three _ _ _ _ (bytesOf (numB st)) (bytesOf l) (bytesOf (numB st)) _ (hu'.out.renew ((New.refl w1).alloc _ _)) (HB1.out.renew ((New.refl w1).alloc _ _)) (hu'.out.renew ((New.refl w1).alloc _ _)) ?c1 ?c2 ?c3 (by simp) (by rw [bytesOf_size, hs4]; omega) (by rw [bytesOf_size]; omega) (by rw [bytesOf_size, hs4]; omega)).mono ?_
  case c1 => exact cells_of (heap_alloc_new w1 _) 0
  case c2 => exact cells_of (heap_alloc_new w1 _) 1
  case c3 => exact cells_of (heap_alloc_new w1 _) 2
  rintro e w2 ⟨p2, c2, rfl, hc, n2⟩
  rw [bytesOf_append, bytesOf_append] at hc ⊢
  have HC := hid hc
  have N2 := hid ((N1.out.alloc _ _).trans n2)
  clear hc n2
  go_wp2
  go_ret2
  have e136 : (bytesOf (numB st ++ l ++ numB st)).size = 136 := by rw [bytesOf_size]; exact blkB_length LL.out
  exact ⟨p2, _, c2, 0, rfl, N2.out, fun _ => ⟨rfl, e136, HC.out⟩, fun h => by rw [HF.out] at h; exact absurd h (by decide)⟩

end Go.Proofs.YtdccbceaajnajaaGreat

namespace Go.Proofs.YtdccbceaajnajaaGreat
open Go.RowKit
set_option linter.unusedSimpArgs false
set_option linter.unusedVariables false

/-- The stamp in front of a block, and the one behind it. -/
def frontN (l : List UInt8) : Int := (rdNum (some l)).1
def backN (l : List UInt8) : Int := (rdNum (some (l.drop 132))).1
def pageE (l : List UInt8) : Bool := decide (l.length = 136) && decide (frontN l = backN l) && decide (frontN l ≤ 1000000)
def pageL (l : List UInt8) : List UInt8 := (l.take 132).drop 4
/-- What PageOf returns. -/
def PageBack (l : List UInt8) (w : World) (e : Ending) (w' : World) : Prop := ∃ p k c, ∃ st er : Int, e = .returned (.tuple #[.slice p k c, .int .i64 st, .int .i64 er]) ∧ New w w' ∧
  ((pageE l = true → er = 0 ∧ st = frontN l ∧ k = 128 ∧ Content w' (.slice p k c) (bytesOf (pageL l))) ∧ (pageE l = false → er = 3 ∧ st = 0 ∧ (.slice p k c : Value) = .slice none 0 0))
theorem PageBack.no {l : List UInt8} {w w' : World} (h : pageE l = false) (hn : New w w') : PageBack l w (.returned (.tuple #[.slice none 0 0, .int .i64 0, .int .i64 3])) w' :=
  ⟨none, 0, 0, 0, 3, rfl, hn, fun h' => by rw [h] at h'; exact absurd h' (by decide), fun _ => ⟨rfl, rfl, rfl⟩⟩
theorem rdNum_len {l : List UInt8} (h : 4 ≤ l.length) : ∃ m, (rdNum (some l)).2 = some m ∧ l = numB (rdNum (some l)).1 ++ m := by
  cases hm : (rdNum (some l)).2 with
  | some m =>
    have := rdNum_some hm
    injection this with this
    exact ⟨m, rfl, this⟩
  | none =>
    exfalso
    revert hm
    simp only [rdNum, rdTake]
    simp [h]
theorem pageL_length {l : List UInt8} (h : l.length = 136) : (pageL l).length = 128 := by
  simp [pageL, h]

theorem bytes_some {w : World} {p : Option Addr} {n c : Nat} {s : ByteArray} (h : Bytes w (.slice p n c) s) (h0 : 0 < s.size) : ∃ q, p = some q := by
  obtain ⟨p', c', e, _, _, h3⟩ := h
  obtain ⟨b, o, e2, _⟩ := h3 h0
  injection e with e1 _ _
  exact ⟨_, e1.trans e2⟩
theorem New.turned {w w1 w2 : World} {x : Nat} (h : New w w1) (ht : Turn (· = x) w1 w2) (hx : w.heap.size ≤ x) : New w w2 := Below.trans h (ht.below (fun k e => e ▸ hx) h.size)

set_option maxHeartbeats 3200000 in
theorem pageOf_any (v : Value) (l : List UInt8) (w : World) (h : Bytes w v (bytesOf l)) (hl : l.length ≤ 1000000) : Calls Tryz.prog 83 #[v] w (PageBack l w) := by
  have HB := hid h
  obtain ⟨p, c, rfl, h1, h2, -⟩ := h
  rw [bytesOf_size] at h1 HB ⊢
  unfold maxLen at h2
  by_cases a1 : l.length = 136
  case neg =>
    have q1 : ((l.length : Int) == 136) = false := by simp; omega
    have q2 : ((l.length : Int) != 136) = true := by simp; omega
    have HF : Hid (pageE l = false) := hid (by unfold pageE; rw [decide_eq_false a1]; rfl)
    clear a1
    go_enter Tryz.func83, Tryz.ntmps83
    go_wp2
    go_ret3
    exact PageBack.no HF.out (New.refl w)
  rw [a1] at h1 HB ⊢
  obtain ⟨q, rfl⟩ := bytes_some HB.out (by rw [bytesOf_size]; omega)
  have HB2 : Hid (Bytes w (.slice (some q) l.length c) (bytesOf l)) := hid (by rw [a1]; exact HB.out)
  have HD : Hid (Bytes w (.slice (some (q.add 132)) 4 (c - 132)) (bytesOf (l.drop 132))) := hid (by have := HB2.out.dropM 132 (by omega); rw [a1] at this; exact this)
  have HP : Hid (Bytes w (.slice (some (q.add 4)) 128 (c - 4)) (bytesOf (pageL l))) := hid (by
    have h4 : (l.take 132).length = 132 := by rw [List.length_take]; omega
    have h5 := HB2.out.takeM 132 (by omega)
    have h6 : Bytes w (.slice (some q) (l.take 132).length c) (bytesOf (l.take 132)) := by rw [h4]; exact h5
    have := h6.dropM 4 (by omega)
    rw [h4] at this
    exact this)
  obtain ⟨F, s1, E1⟩ : ∃ a b, rdNum (some l) = (a, b) := ⟨_, _, rfl⟩
  obtain ⟨B, s2, E2⟩ : ∃ a b, rdNum (some (l.drop 132)) = (a, b) := ⟨_, _, rfl⟩
  have eF : frontN l = F := by unfold frontN; rw [E1]
  have eB : backN l = B := by unfold backN; rw [E2]
  have E1 := hid E1
  have E2 := hid E2
  have EF := hid eF
  have EB := hid eB
  have A1 := hid a1
  have HL := hid hl
  have g1 : ¬ c = 132 := by omega
  have g2 : ¬ c = 4 := by omega
  clear eF eB a1 hl HB
  go_enter Tryz.func83, Tryz.ntmps83
  go_wp2_with fail
  refine (newReader_any _ l _ (by have := HB2.out; rw [A1.out] at this; exact this) HL.out).mono ?_
  rintro e w1 ⟨x1, rfl, hr1, n1, hx1⟩
  go_wp2_with fail
  refine (number_at x1 _ _ _ _ E1.out hr1).mono ?_
  rintro e w2 ⟨⟨er1, rfl⟩, hr2, ht2⟩
  have N2 := hid (n1.turned ht2 hx1)
  clear hr1 n1 hr2 ht2
  go_wp2_with fail
  refine (newReader_any _ (l.drop 132) _ (HD.out.renew N2.out) (by rw [List.length_drop]; have := HL.out; omega)).mono ?_
  rintro e w3 ⟨x2, rfl, hr3, n3, hx3⟩
  go_wp2_with fail
  refine (number_at x2 _ _ _ _ E2.out hr3).mono ?_
  rintro e w4 ⟨⟨er2, rfl⟩, hr4, ht4⟩
  have N4 := hid (N2.out.trans (n3.turned ht4 hx3))
  clear hr3 n3 hr4 ht4 hx1 hx3
  by_cases b1 : F = B
  case neg =>
    have q1 : (F == B) = false := by simpa using b1
    have q2 : (F != B) = true := by simpa using b1
    have HF : Hid (pageE l = false) := hid (by unfold pageE; rw [EF.out, EB.out, decide_eq_false b1]; simp)
    clear b1
    go_wp2
    go_ret3
    exact PageBack.no HF.out N4.out
  have q1 : (F == B) = true := by simpa using b1
  have q2 : (F != B) = false := by simpa using b1
  by_cases b2 : 1000000 < F
  · have q3 : decide ((1000000 : Int) < F) = true := by simpa using b2
    have HF : Hid (pageE l = false) := hid (by unfold pageE; rw [EF.out, EB.out, decide_eq_false (by omega : ¬ F ≤ 1000000)]; simp)
    clear b1 b2
    go_wp2
    go_ret3
    exact PageBack.no HF.out N4.out
  have q3 : decide ((1000000 : Int) < F) = false := by simpa using b2
  have HF : Hid (pageE l = true) := hid (by unfold pageE; rw [EF.out, EB.out, decide_eq_true A1.out, decide_eq_true b1, decide_eq_true (by omega : F ≤ 1000000)]; rfl)
  clear b1 b2
  have hs : (bytesOf (pageL l)).size = 128 := by rw [bytesOf_size]; exact pageL_length A1.out
  have HS := hid hs
  clear hs
  go_wp2_with fail
  refine (cloneBytes_any _ (bytesOf (pageL l)) _ (HP.out.renew N4.out) (by have := HS.out; omega)).mono ?_
  rintro e w5 ⟨p5, c5, rfl, hc5, n5⟩
  rw [HS.out] at hc5 ⊢
  have HC := hid hc5
  have N5 := hid (N4.out.trans n5)
  clear hc5 n5
  go_wp2
  go_ret3
  exact ⟨p5, 128, c5, F, 0, rfl, N5.out, fun _ => ⟨rfl, EF.out.symm, rfl, HC.out⟩, fun h => by rw [HF.out] at h; exact absurd h (by decide)⟩

set_option maxHeartbeats 1600000 in
theorem refBlock_any (v : Value) (l : List UInt8) (st : Int) (w : World) (h : Bytes w v (bytesOf l)) (hl : l.length ≤ 1000) : Calls Tryz.prog 106 #[v, .int .i64 st] w (BlockBack l st w) := by
  have HB := hid h
  obtain ⟨p, c, rfl, h1, h2, -⟩ := h
  rw [bytesOf_size] at h1 HB ⊢
  have hno : pgOk l st = false → BlockBack l st w (.returned (.tuple #[.slice none 0 0, .int .i64 2])) w := fun hf =>
    ⟨none, 0, 0, 2, rfl, New.refl w, fun h => by rw [hf] at h; exact absurd h (by decide), fun _ => ⟨rfl, rfl⟩⟩
  have HNO := hid hno
  clear hno
  by_cases a1 : l.length = 128
  case neg =>
    have q1 : ((l.length : Int) == 128) = false := by simp; omega
    have q2 : ((l.length : Int) != 128) = true := by simp; omega
    have HF : Hid (pgOk l st = false) := hid (by unfold pgOk; rw [decide_eq_false a1]; rfl)
    clear a1
    go_enter Tryz.func106, Tryz.ntmps106
    go_wp2
    go_ret2
    exact HNO.out HF.out
  have q1 : ((l.length : Int) == 128) = true := by simp; omega
  have q2 : ((l.length : Int) != 128) = false := by simp; omega
  by_cases a2 : st < 0
  · have q3 : decide (st < 0) = true := by simpa using a2
    have HF : Hid (pgOk l st = false) := hid (by unfold pgOk; rw [wi_no.2 (by omega), Bool.and_false])
    clear a1 a2
    go_enter Tryz.func106, Tryz.ntmps106
    go_wp2
    go_ret2
    exact HNO.out HF.out
  have q3 : decide (st < 0) = false := by simpa using a2
  by_cases a3 : 1000000 < st
  · have q4 : decide ((1000000 : Int) < st) = true := by simpa using a3
    have HF : Hid (pgOk l st = false) := hid (by unfold pgOk; rw [wi_no.2 (by omega), Bool.and_false])
    clear a1 a2 a3
    go_enter Tryz.func106, Tryz.ntmps106
    go_wp2
    go_ret2
    exact HNO.out HF.out
  have q4 : decide ((1000000 : Int) < st) = false := by simpa using a3
  have HF : Hid (pgOk l st = true) := hid (by unfold pgOk; rw [decide_eq_true a1, wi_iff.2 (by omega)]; rfl)
  have b1 : 0 ≤ st := by omega
  have b2 : st ≤ 4294967295 := by omega
  have LL := hid a1
  clear a1 a2 a3
  go_enter Tryz.func106, Tryz.ntmps106
  go_wp2_with fail
  refine (refNumberOf_any st _ b1 b2).mono ?_
  rintro e w1 ⟨p1, c1, rfl, ho1, n1⟩
  have hs4 : (numB st).length = 4 := numB_length st
  rw [hs4] at ho1 ⊢
  have HN : Hid (Bytes w1 (.slice p1 (bytesOf (numB st)).size c1) (bytesOf (numB st))) := hid (by have := own_bytes (s := bytesOf (numB st)) ho1 (by rw [bytesOf_size, hs4]) rfl; rw [bytesOf_size, hs4]; exact this)
  have HS4 : Hid ((bytesOf (numB st)).size = 4) := hid (by rw [bytesOf_size, hs4])
  have HSL : Hid ((bytesOf l).size = 128) := hid (by rw [bytesOf_size, LL.out])
  have HB1 : Hid (Bytes w1 (.slice p (bytesOf l).size c) (bytesOf l)) := hid (by rw [bytesOf_size]; exact HB.out.renew n1)
  have N1 := hid n1
  clear ho1 n1 hs4
  go_wp2_with (at_builtin; refine app_all rfl _ _ rfl w1.heap.size _ 0 [] rfl (World.ownsRow_lit w1 #[] 0 (Nat.le_refl _) (by decide) rfl) (.slice p1 (bytesOf (numB st)).size c1) (bytesOf (numB st)) (by rw [HS4.out]; rfl) (HN.out.renew ((New.refl w1).alloc #[] 5)) ?ca ?cb ?_)
  case ca => have := HS4.out; omega
  case cb => simp
  intro v2 w2 own2 grow2 _
  obtain ⟨p2, c2, rfl⟩ := own_len own2
  have OWN2 := hid own2
  have NW2 : Hid (New w1 w2) := hid (((New.refl w1).alloc #[] 5).grown grow2 (by simp) (fun k hk => by simp [Value.ownBlock] at hk; omega))
  have HN2 := hid (HN.out.renew NW2.out)
  have HB2 := hid (HB1.out.renew NW2.out)
  clear own2 grow2
  go_wp2_with (at_builtin; refine app_all rfl _ _ rfl w1.heap.size _ (0 + (bytesOf (numB st)).size) _ rfl OWN2.out (.slice p (bytesOf l).size c) (bytesOf l) (by rw [bytesOf_size]; rfl) HB2.out ?ca ?cb ?_)
  case ca => have := HS4.out; have := HSL.out; omega
  case cb => exact NW2.out.size
  intro v3 w3 own3 grow3 _
  obtain ⟨p3, c3, rfl⟩ := own_len own3
  have NW3 := hid (NW2.out.grown grow3 NW2.out.size (fun k hk => (OWN2.out.lt k hk).1))
  have HN3 := hid (HN.out.renew NW3.out)
  have OWN3 := hid own3
  clear own3 grow3
  go_wp2_with (at_builtin; refine app_all rfl _ _ rfl w1.heap.size _ (0 + (bytesOf (numB st)).size + (bytesOf l).size) _ rfl OWN3.out (.slice p1 (bytesOf (numB st)).size c1) (bytesOf (numB st)) (by rw [HS4.out]; rfl) HN3.out ?ca ?cb ?_)
  case ca => have := HS4.out; have := HSL.out; omega
  case cb => exact NW3.out.size
  intro v4 w4 own4 grow4 _
  obtain ⟨p4, c4, rfl⟩ := own_len own4
  have N4 := hid (N1.out.trans (NW3.out.grown grow4 NW3.out.size (fun k hk => (OWN3.out.lt k hk).1)))
  have OWN4 := hid own4
  clear own4 grow4
  go_wp2
  go_ret2
  have hsz : (bytesOf (blkB l st)).size = 0 + (bytesOf (numB st)).size + (bytesOf l).size + (bytesOf (numB st)).size := by
    rw [bytesOf_size, blkB_length LL.out, HS4.out, HSL.out]
  have hC := own_content (s := bytesOf (blkB l st)) OWN4.out hsz (by unfold blkB; rw [← bytesOf_append, ← bytesOf_append, byteVals_append, byteVals_append]; simp)
  exact ⟨p4, _, c4, 0, rfl, N4.out, fun _ => ⟨rfl, by rw [HS4.out, HSL.out], hC⟩, fun h => by rw [HF.out] at h; exact absurd h (by decide)⟩

end Go.Proofs.YtdccbceaajnajaaGreat

namespace Go.Proofs.YtdccbceaajnajaaGreat
open Go.RowKit
set_option linter.unusedSimpArgs false
set_option linter.unusedVariables false

/-- A page that is in a pool. -/
structure AFrame where
  page : Nat
  b : ByteArray
  stamp : Nat
  dirty : Bool
/-- What a pool is; the least recently used frame first, each with the block in which it lies. -/
structure APool where
  size : Nat
  frames : List (Nat × AFrame)
  reads : Nat
def FrameAt (w : World) (k : Nat) (f : AFrame) : Prop := ∃ v, w.heap[k]? = some (.cells #[.int .i64 (f.page : Int), v, .int .i64 (f.stamp : Int), .bool f.dirty] 93 (0, 0)) ∧ Content w v f.b
def ptrVals (l : List (Nat × AFrame)) : List Value := l.map fun p => .pointer (some ⟨p.1, 0, none⟩)
/-- A pool lies at block pb, its row of frames at block os; its disk at b, its log at tb. -/
structure PoolAt (w : World) (pb : Nat) (os : Option Nat) (b tb : Nat) (P : APool) : Prop where
  base : ∃ v, w.heap[pb]? = some (.cells #[.pointer (some ⟨b, 0, none⟩), .pointer (some ⟨tb, 0, none⟩), .int .i64 (P.size : Int), v, .int .i64 (P.reads : Int)] 90 (0, 0)) ∧ v.ownBlock = os ∧ w.ownsRow 0 91 1 v P.frames.length (ptrVals P.frames)
  frames : ∀ p ∈ P.frames, FrameAt w p.1 p.2
  nodup : (P.frames.map (·.1)).Nodup
theorem FrameAt.turn {S : Nat → Prop} {w w' : World} {k : Nat} {f : AFrame} (h : FrameAt w k f) (ht : Turn S w w') (h1 : ¬ S k) (h5 : Apart S w) : FrameAt w' k f := by
  obtain ⟨v, e1, e2⟩ := h
  exact ⟨v, by rw [ht.block k (Array.getElem?_eq_some_iff.1 e1).1 h1]; exact e1, e2.turn ht h5⟩
theorem PoolAt.turn {S : Nat → Prop} {w w' : World} {pb b tb : Nat} {os : Option Nat} {P : APool} (h : PoolAt w pb os b tb P) (ht : Turn S w w') (h1 : ¬ S pb) (h2 : ∀ k, os = some k → ¬ S k) (h3 : ∀ p ∈ P.frames, ¬ S p.1) (h5 : Apart S w) : PoolAt w' pb os b tb P := by
  obtain ⟨⟨v, e1, e2, e3⟩, h4, h6⟩ := h
  exact ⟨⟨v, by rw [ht.block pb (Array.getElem?_eq_some_iff.1 e1).1 h1]; exact e1, e2, own_turn e3 ht (fun k hk => h2 k (e2 ▸ hk))⟩, fun p hp => (h4 p hp).turn ht (h3 p hp) h5, h6⟩
theorem PoolAt.new {w w' : World} {pb b tb : Nat} {os : Option Nat} {P : APool} (h : PoolAt w pb os b tb P) (hn : New w w') : PoolAt w' pb os b tb P :=
  h.turn (S := fun _ => False) (Turn.of_new hn) (fun h => h) (fun _ _ h => h) (fun _ _ h => h) (apart_none w)
/-- The blocks of a pool. -/
def pools (pb : Nat) (os : Option Nat) (P : APool) : Nat → Prop := fun k => k = pb ∨ os = some k ∨ ∃ p ∈ P.frames, p.1 = k
theorem PoolAt.typed {w : World} {pb b tb : Nat} {os : Option Nat} {P : APool} (h : PoolAt w pb os b tb P) {k : Nat} (hk : pools pb os P k) : ∃ c t, w.heap[k]? = some (.cells c t (0, 0)) ∧ (t = 90 ∨ t = 91 ∨ t = 93) := by
  obtain ⟨⟨v, e1, e2, e3⟩, h4, h6⟩ := h
  rcases hk with rfl | hk | ⟨p, hp, rfl⟩
  · exact ⟨_, _, e1, .inl rfl⟩
  · rw [← e2] at hk
    rcases e3.2 with ⟨e, _⟩ | ⟨g, cap, cur, e, hg, hh, r⟩
    · rw [e] at hk; simp [Value.ownBlock] at hk
    · rw [e] at hk
      simp only [Value.ownBlock, Option.some.injEq] at hk
      subst hk
      exact ⟨_, _, hh, .inr (.inl rfl)⟩
  · obtain ⟨v, e, _⟩ := h4 p hp
    exact ⟨_, _, e, .inr (.inr rfl)⟩
theorem pool_cells {w : World} {pb b tb : Nat} {os : Option Nat} {P : APool} (h : PoolAt w pb os b tb P) : ∃ p c, (∀ o, w.cell? ⟨pb, o, none⟩ = #[.pointer (some ⟨b, 0, none⟩), .pointer (some ⟨tb, 0, none⟩), .int .i64 (P.size : Int), .slice p P.frames.length c, .int .i64 (P.reads : Int)][o]?) ∧ (∀ o, w.frozen? ⟨pb, o, none⟩ = false) := by
  obtain ⟨v, e1, e2, e3⟩ := h.base
  obtain ⟨p, c, rfl⟩ := own_len e3
  exact ⟨p, c, cells_of e1, frozen_of e1⟩

theorem pnone_no (pb : Nat) (n : Int) (w : World) (h : w.cell? ⟨pb, 2, none⟩ = some (.int .i64 n)) (hn : n ≠ 0) : Calls Tryz.prog 44 #[.pointer (some ⟨pb, 0, none⟩)] w fun e w' => e = .returned (.bool false) ∧ w = w' := by
  have q1 : (n == 0) = false := by simpa using hn
  clear hn
  go_enter Tryz.func44, Tryz.ntmps44
  go_wp2
  go_ret
  exact ⟨rfl, rfl⟩
def isP (n : Int) : Bool := decide (0 ≤ n) && decide (n < 120)
theorem isPage_num (n : Int) (w : World) : Calls Tryz.prog 79 #[.int .i64 n] w fun e w' => e = .returned (.bool (isP n)) ∧ w = w' := by
  by_cases h : 0 ≤ n
  · have q1 : decide (0 ≤ n) = true := by simpa using h
    by_cases h2 : n < 120
    · have q2 : decide (n < 120) = true := by simpa using h2
      have e : Hid (isP n = true) := hid (by unfold isP; rw [q1, q2]; rfl)
      go_enter Tryz.func79, Tryz.ntmps79
      go_wp2
      go_ret
      exact ⟨by rw [e.out]; rfl, rfl⟩
    · have q2 : decide (n < 120) = false := by simpa using h2
      have e : Hid (isP n = false) := hid (by unfold isP; rw [q2, Bool.and_false])
      go_enter Tryz.func79, Tryz.ntmps79
      go_wp2
      go_ret
      exact ⟨by rw [e.out]; rfl, rfl⟩
  · have q1 : decide (0 ≤ n) = false := by simpa using h
    have e : Hid (isP n = false) := hid (by unfold isP; rw [q1, Bool.false_and])
    go_enter Tryz.func79, Tryz.ntmps79
    go_wp2
    go_ret
    exact ⟨by rw [e.out]; rfl, rfl⟩
theorem reads_any (pb : Nat) (os : Option Nat) (b tb : Nat) (P : APool) (w : World) (h : PoolAt w pb os b tb P) (hs : P.size ≠ 0) : Calls Tryz.prog 20 #[.pointer (some ⟨pb, 0, none⟩)] w fun e w' => e = .returned (.int .i64 (P.reads : Int)) ∧ w = w' := by
  obtain ⟨p, c, hc, hf⟩ := pool_cells h
  clear h
  go_enter Tryz.func20, Tryz.ntmps20
  go_wp2_with fail
  refine (pnone_no pb _ _ (hc 2) (by omega)).mono ?_
  rintro e w' ⟨rfl, rfl⟩
  go_wp2
  go_ret
  exact ⟨rfl, rfl⟩
/-- What a pool answers where it is asked for a page. -/
theorem asked_any (pb : Nat) (os : Option Nat) (b tb : Nat) (P : APool) (n : Int) (w : World) (h : PoolAt w pb os b tb P) (hs : P.size ≠ 0) : Calls Tryz.prog 48 #[.pointer (some ⟨pb, 0, none⟩), .int .i64 n] w fun e w' => e = .returned (.int .i64 (if isP n then 0 else 2)) ∧ w = w' := by
  obtain ⟨p, c, hc, hf⟩ := pool_cells h
  clear h
  cases hp : isP n with
  | true =>
    go_enter Tryz.func48, Tryz.ntmps48
    go_wp2_with fail
    refine (pnone_no pb _ _ (hc 2) (by omega)).mono ?_
    rintro e w' ⟨rfl, rfl⟩
    go_wp2_with fail
    refine (isPage_num n _).mono ?_
    rintro e w' ⟨rfl, rfl⟩
    rw [hp]
    go_wp2
    go_ret
    exact ⟨rfl, rfl⟩
  | false =>
    go_enter Tryz.func48, Tryz.ntmps48
    go_wp2_with fail
    refine (pnone_no pb _ _ (hc 2) (by omega)).mono ?_
    rintro e w' ⟨rfl, rfl⟩
    go_wp2_with fail
    refine (isPage_num n _).mono ?_
    rintro e w' ⟨rfl, rfl⟩
    rw [hp]
    go_wp2
    go_ret
    exact ⟨rfl, rfl⟩

end Go.Proofs.YtdccbceaajnajaaGreat

namespace Go.Proofs.YtdccbceaajnajaaGreat
open Go.RowKit
set_option linter.unusedSimpArgs false
set_option linter.unusedVariables false

theorem frame_cells {w : World} {k : Nat} {f : AFrame} (h : FrameAt w k f) : ∃ p c, (∀ o, w.cell? ⟨k, o, none⟩ = #[.int .i64 (f.page : Int), .slice p f.b.size c, .int .i64 (f.stamp : Int), .bool f.dirty][o]?) ∧ (∀ o, w.frozen? ⟨k, o, none⟩ = false) ∧ Content w (.slice p f.b.size c) f.b := by
  obtain ⟨v, e1, e2⟩ := h
  obtain ⟨p, c, rfl, -⟩ := id e2.1
  exact ⟨p, c, cells_of e1, frozen_of e1, e2⟩
theorem FrameAt.lt {w : World} {k : Nat} {f : AFrame} (h : FrameAt w k f) : k < w.heap.size := by
  obtain ⟨v, e1, _⟩ := h; exact (Array.getElem?_eq_some_iff.1 e1).1
theorem FrameAt.new {w w' : World} {k : Nat} {f : AFrame} (h : FrameAt w k f) (hn : New w w') : FrameAt w' k f := h.turn (S := fun _ => False) (Turn.of_new hn) (fun h => h) (apart_none w)

theorem use1_any (k : Nat) (f : AFrame) (n : Int) (gb : Nat) (w : World) (hf : FrameAt w k f) (hb : w.cell? ⟨gb, 0, none⟩ = some (.int .i64 n)) :
    Calls Tryz.prog 81 #[.pointer (some ⟨k, 0, none⟩), .pointer (some ⟨gb, 0, none⟩)] w fun e w' => e = .returned (.bool (decide ((f.page : Int) = n))) ∧ New w w' := by
  obtain ⟨p, c, hc, -, -⟩ := frame_cells hf
  have hk := hf.lt
  have hg : gb < w.heap.size := World.block_lt_of_cell? w _ hb
  have c0 : ∀ P : After w, P.w.cell? ⟨k, 0, none⟩ = some (.int .i64 (f.page : Int)) := fun P => by rw [P.new.cell _ _ hk]; exact hc 0
  have b0 : ∀ P : After w, P.w.cell? ⟨gb, 0, none⟩ = some (.int .i64 n) := fun P => by rw [P.new.cell _ _ hg]; exact hb
  clear hf hc
  obtain ⟨B, hB⟩ : ∃ B, B = decide ((f.page : Int) = n) := ⟨_, rfl⟩
  have q1 : ((f.page : Int) == n) = B := by rw [hB]; rfl
  rw [← hB]
  clear hB
  go_enter Tryz.func81, Tryz.ntmps81
  go_wp2
  refine wp_region_new (by kernel_rfl) (by kernel_rfl) ?_
  repeat (go_big_quiet_step (fail))
  refine wpQuiet_nil ?_
  rintro _ ⟨P, rfl⟩
  go_wp2
  go_ret
  exact ⟨by first | rfl | rw [q1] | simp [q1], P.new⟩

set_option maxHeartbeats 1600000 in
theorem idxF_any (v : Value) (l : List (Nat × AFrame)) (n : Int) (gb : Nat) (w : World) (h : w.ownsRow 0 91 1 v l.length (ptrVals l)) (hz : ∀ p ∈ l, FrameAt w p.1 p.2) (hb : w.cell? ⟨gb, 0, none⟩ = some (.int .i64 n)) (hl : l.length ≤ 1000000) :
    Calls Tryz.prog 80 #[v, .func (.func 81) #[] #[.pointer (some ⟨gb, 0, none⟩)]] w fun e w' => New w w' ∧ ((e = .returned (.int .i64 (-1)) ∧ ∀ p ∈ l, (p.2.page : Int) ≠ n) ∨ ∃ i : Nat, ∃ hi : i < l.length, e = .returned (.int .i64 i) ∧ (l[i].2.page : Int) = n ∧ ∀ k (hk : k < i), (l[k].2.page : Int) ≠ n) := by
  have HO := hid h
  have HZ := hid hz
  have hgb : gb < w.heap.size := World.block_lt_of_cell? w _ hb
  obtain ⟨q, k, rfl⟩ := own_len h
  clear h hz
  go_enter Tryz.func80, Tryz.ntmps80
  go_wp2
  go_loopw [5, 8] (fun _ i wr => ∃ j : Nat, j ≤ l.length ∧ i = .int .i64 j ∧ Hid (New w wr) ∧ Hid (∀ k, (hk : k < l.length) → k < j → (l[k].2.page : Int) ≠ n)) (fun _ i _ => l.length - (intOf i).toNat)
  case atStart => exact ⟨0, Nat.zero_le _, rfl, hid (New.refl _), hid fun k hk h => absurd h (Nat.not_lt_zero _)⟩
  case round =>
    obtain ⟨j, hj, rfl, hn, hall⟩ := hrel
    by_cases hlt : j < l.length
    · have ho := own_old HO.out hn.out
      obtain ⟨g, cap, e, _, hg⟩ := ho.form (by omega)
      injection e with e1 e8 e9
      subst e1
      clear e8 e9
      have d0 := ho.cellAt j (by omega)
      have x0 : (ptrVals l)[j]? = some (.pointer (some ⟨(l[j]).1, 0, none⟩)) := by simp [ptrVals, hlt]
      rw [x0] at d0
      have hb' := hb
      rw [← hn.out.cell _ _ hgb] at hb'
      have HF := hid ((HZ.out _ (List.getElem_mem hlt)).new hn.out)
      have HALL : Hid ((l[j].2.page : Int) ≠ n → ∀ k, (hk : k < l.length) → k < j + 1 → (l[k].2.page : Int) ≠ n) := fun h k hk hk2 => by
        rcases Nat.lt_or_ge k j with h' | h'
        · exact hall.out k hk h'
        · obtain rfl : k = j := by omega
          exact h
      have HFOUND : Hid (∀ k, (hk : k < j) → (l[k].2.page : Int) ≠ n) := fun k hk => hall.out k (by omega) hk
      have HLT := hid hlt
      clear ho x0 hall
      by_cases e3 : (l[j].2.page : Int) = n
      · have t3 : Hid (decide ((l[j].2.page : Int) = n) = true) := hid (by simp [e3])
        have HEQ := hid e3
        clear e3
        have HRES : Hid (∀ w', New w w' → (New w w' ∧ (((Ending.returned (.int .i64 (j : Int))) = .returned (.int .i64 (-1)) ∧ ∀ p ∈ l, (p.2.page : Int) ≠ n) ∨ ∃ i : Nat, ∃ hi : i < l.length, (Ending.returned (.int .i64 (j : Int))) = .returned (.int .i64 i) ∧ (l[i].2.page : Int) = n ∧ ∀ k (hk : k < i), (l[k].2.page : Int) ≠ n))) := hid fun w' hw => ⟨hw, .inr ⟨j, HLT.out, rfl, HEQ.out, HFOUND.out⟩⟩
        clear HEQ HFOUND
        generalize hx : l[j].2 = f at *
        generalize hy : l[j].1 = kb at *
        clear hx hy
        go_wp2_with fail
        refine (use1_any kb f n gb _ HF.out hb').mono ?_
        rintro e w2 ⟨rfl, hn2⟩
        rw [t3.out]
        go_wp2
        go_ret
        exact HRES.out _ (hn.out.trans hn2)
      · have t3 : Hid (decide ((l[j].2.page : Int) = n) = false) := hid (by simp [e3])
        have HNE := hid e3
        clear e3
        have HALL2 := hid (HALL.out HNE.out)
        clear HALL HFOUND HNE
        generalize hx : l[j].2 = f at *
        generalize hy : l[j].1 = kb at *
        clear hx hy HLT
        go_wp2_with fail
        refine (use1_any kb f n gb _ HF.out hb').mono ?_
        rintro e w2 ⟨rfl, hn2⟩
        rw [t3.out]
        go_wp2
        go_roundw
        case rel => exact ⟨j + 1, by omega, by go_num, hid (hn.out.trans hn2), HALL2⟩
        case measure => simp [intOf]; omega
    · obtain rfl : j = l.length := by omega
      go_wp2
      go_ret
      exact ⟨hn.out, .inl ⟨rfl, fun z hz => by
        obtain ⟨i, hi, rfl⟩ := List.mem_iff_getElem.1 hz
        exact hall.out i hi hi⟩⟩

end Go.Proofs.YtdccbceaajnajaaGreat

namespace Go.Proofs.YtdccbceaajnajaaGreat
open Go.RowKit
set_option linter.unusedSimpArgs false
set_option linter.unusedVariables false

/-- A frame's page is one. -/
structure FrameOk (f : AFrame) : Prop where
  page : f.page < 120
  size : f.b.size = 128
  stamp : f.stamp ≤ 1000000
/-- A disk, a log and a pool, all made since w0. -/
structure Sys (w0 w : World) (b : Nat) (ow : Option Nat) (tb : Nat) (ot : Option Nat) (pb : Nat) (os : Option Nat) (A : ADisk) (T : ATape) (P : APool) : Prop where
  log : Log w0 w b ow tb ot A T
  pool : PoolAt w pb os b tb P
  pp : ∀ k, pools pb os P k → w0.heap.size ≤ k
theorem Sys.newer {w0 w w' : World} {b tb pb : Nat} {ow ot os : Option Nat} {A : ADisk} {T : ATape} {P : APool} (h : Sys w0 w b ow tb ot pb os A T P) (hn : New w w') : Sys w0 w' b ow tb ot pb os A T P :=
  ⟨h.log.newer hn, h.pool.new hn, h.pp⟩
theorem logs_apart {w0 w : World} {b tb : Nat} {ow ot : Option Nat} {A : ADisk} {T : ATape} (h : Log w0 w b ow tb ot A T) {k : Nat} (hk : logs b ow tb ot k) : ∃ c t, w.heap[k]? = some (.cells c t (0, 0)) ∧ (t = 80 ∨ t = 111 ∨ t = 87 ∨ t = 70) := by
  rcases hk with hk | rfl | hk
  · obtain ⟨c, t, e, ht⟩ := h.disk.typed hk
    exact ⟨c, t, e, by rcases ht with rfl | rfl <;> simp⟩
  · obtain ⟨v, e, _⟩ := h.tape
    exact ⟨_, _, e, by simp⟩
  · obtain ⟨c, e⟩ := h.tape.row hk
    exact ⟨c, _, e, by simp⟩
theorem logs_not {w0 w : World} {b tb : Nat} {ow ot : Option Nat} {A : ADisk} {T : ATape} (h : Log w0 w b ow tb ot A T) {k : Nat} {c : Array Value} {t : TypeId} {fr : Nat × Nat} (hk : w.heap[k]? = some (.cells c t fr)) (h1 : t ≠ 80) (h2 : t ≠ 111) (h3 : t ≠ 87) (h4 : t ≠ 70) : ¬ logs b ow tb ot k := by
  intro hs
  obtain ⟨c', t', e', ht⟩ := logs_apart h hs
  rw [hk] at e'
  injection e' with e'
  injection e' with _ e2 _
  rcases ht with rfl | rfl | rfl | rfl
  · exact h1 e2
  · exact h2 e2
  · exact h3 e2
  · exact h4 e2
theorem logs_apart5 {w0 w : World} {b tb : Nat} {ow ot : Option Nat} {A : ADisk} {T : ATape} (h : Log w0 w b ow tb ot A T) : Apart (logs b ow tb ot) w := by
  intro k c fr hk e
  exact logs_not h e (by decide) (by decide) (by decide) (by decide) hk
/-- The log moved; the pool stands. -/
theorem Sys.moved {w0 w w' : World} {b tb pb : Nat} {ow ot os ow' ot' : Option Nat} {A A' : ADisk} {T T' : ATape} {P : APool} (h : Sys w0 w b ow tb ot pb os A T P) (hL : Log w0 w' b ow' tb ot' A' T') (ht : Turn (logs b ow tb ot) w w') : Sys w0 w' b ow' tb ot' pb os A' T' P := by
  have hn : ∀ k, pools pb os P k → ¬ logs b ow tb ot k := fun k hk => by
    obtain ⟨c, t, e, ht⟩ := h.pool.typed hk
    exact logs_not h.log e (by rcases ht with rfl | rfl | rfl <;> decide) (by rcases ht with rfl | rfl | rfl <;> decide) (by rcases ht with rfl | rfl | rfl <;> decide) (by rcases ht with rfl | rfl | rfl <;> decide)
  exact ⟨hL, h.pool.turn ht (hn _ (.inl rfl)) (fun k hk => hn k (.inr (.inl hk))) (fun p hp => hn _ (.inr (.inr ⟨p, hp, rfl⟩))) (logs_apart5 h.log), h.pp⟩

/-- What out returns, and what it leaves. -/
def outStamped (T : ATape) (f : AFrame) : Bool := decide (T.forced < f.stamp)
def outA1 (A : ADisk) (T : ATape) (f : AFrame) : ADisk := if outStamped T f then forceA A T else A
def outT1 (A : ADisk) (T : ATape) (f : AFrame) : ATape := if outStamped T f then forceT A T else T
def outE1 (A : ADisk) (T : ATape) (f : AFrame) : Int := if outStamped T f then forceE A T else 0
def outBlk (f : AFrame) : ByteArray := bytesOf (blkB f.b.data.toList (f.stamp : Int))
def outE (A : ADisk) (T : ATape) (f : AFrame) : Int := if f.dirty then (if outE1 A T f = 0 then writeE (outA1 A T f) (f.page : Int) (outBlk f) else outE1 A T f) else 0
def outA (A : ADisk) (T : ATape) (f : AFrame) : ADisk := if f.dirty then (if outE1 A T f = 0 then writeA (outA1 A T f) (f.page : Int) (outBlk f) else outA1 A T f) else A
def outT (A : ADisk) (T : ATape) (f : AFrame) : ATape := if f.dirty then outT1 A T f else T
def outF (A : ADisk) (T : ATape) (f : AFrame) : AFrame := if outE A T f = 0 then { f with dirty := false } else f

end Go.Proofs.YtdccbceaajnajaaGreat

namespace Go.Proofs.YtdccbceaajnajaaGreat
open Go.RowKit
set_option linter.unusedSimpArgs false
set_option linter.unusedVariables false

/-- A list of whole numbers that lies in memory. -/
def Ints (w : World) (v : Value) (l : List Int) : Prop := RowAt w v l.length (l.map fun n : Int => Value.int .i64 n)
theorem Ints.new {w w' : World} {v : Value} {l : List Int} (h : Ints w v l) (hn : New w w') : Ints w' v l := RowAt.new h hn
theorem Ints.at {w : World} {b o : Nat} {l : List Int} (hc : ∀ i, i < (l.map fun n : Int => Value.int .i64 n).length → w.cell? ⟨b, o + i, none⟩ = some ((l.map fun n : Int => Value.int .i64 n).getD i undef)) {i : Nat} (hi : i < l.length) : w.cell? ⟨b, o + i, none⟩ = some (.int .i64 l[i]) := by
  rw [hc i (by simpa using hi)]
  simp [List.getD_eq_getElem?_getD, hi]
/-- Numbers that come back in new memory. -/
def IntsBack (l : List Int) (w : World) (e : Ending) (w' : World) : Prop := ∃ v, e = .returned v ∧ Ints w' v l ∧ New w w'

theorem info3_ : (Tryz.prog.info? 3).map (fun i => (i.zero, i.size, i.bytes)) = some (some (.int .i64 0), 1, 8) := by kernel_rfl
set_option maxRecDepth 10000 in
theorem app_int {ops : Array Oper} {rest : List Oper} {o : Oper} {a : Act} {w : World} {Q : Exit → Act → World → Prop} (hgd : o.guard = none) (sl x : Operand)
    (ho : o.op = .call { callee := .builtin .append, args := #[sl, x], argTypes := #[49, 49] }) (base : Nat)
    (v : Value) (n : Nat) (xs : List Value) (hs : a.eval sl = v) (hown : w.ownsRow base 3 1 v n xs) (q : Addr) (s : Int) (hx : a.eval x = .slice (some q) 1 1)
    (hn : w.cell? q = some (.int .i64 s)) (hb : n + 1 ≤ 1000000000) (hbase : base ≤ w.heap.size)
    (h : ∀ v' w', w'.ownsRow base 3 1 v' (n + 1) (xs ++ [.int .i64 s]) → w.grownBy w' v.ownBlock → (v'.ownBlock = v.ownBlock ∨ v'.ownBlock = some w.heap.size) → wpList Tryz.prog ops Q rest (a.put o.dst v') w') : wpList Tryz.prog ops Q (o :: rest) a w := by
  obtain ⟨i0, hi, hz0, hz1, hz2⟩ := info_parts info3_
  exact wpList_append_own_at w hgd sl x 49 ho base 3 i0 _ 1 8 Tryz.underlying49 hi hz0 hz1 hz2 rfl (by decide) v n xs hs hown q 1 1 [.int .i64 s] hx rfl
    (fun j u hj => by
      cases j with
      | zero => simp at hj; subst hj; rw [show q.add 0 = q by simp [Addr.add]]; exact hn
      | succ j => simp at hj) (fun u hu => by simp at hu; subst hu; rfl) (by unfold maxLen; omega) (by omega) hbase fun v' w' h1 h2 _ h4 => h v' w' h1 h2 h4

set_option maxRecDepth 100000 in
set_option maxHeartbeats 4000000 in
theorem sameInts_any (u v : Value) (l m : List Int) (w : World) (h1 : Ints w u l) (h2 : Ints w v m) : Calls Tryz.prog 24 #[u, v] w fun e w' => e = .returned (.bool (decide (l = m))) ∧ New w w' := by
  obtain ⟨p, c, rfl, g1, g2, x1⟩ := h1
  obtain ⟨q, d, rfl, g3, g4, x2⟩ := h2
  unfold maxLen at g2 g4
  have X1 := hid x1
  have X2 := hid x2
  clear x1 x2
  by_cases hlen : l.length = m.length
  · have HL := hid hlen
    have q1 : ((l.length : Int) == (m.length : Int)) = true := by simp; omega
    have q2 : ((l.length : Int) != (m.length : Int)) = false := by simp; omega
    clear hlen
    go_enter Tryz.func24, Tryz.ntmps24
    go_wp2
    clear q1 q2
    go_loopw [5] (fun i wr => ∃ k : Nat, k ≤ l.length ∧ i = .int .i64 k ∧ Hid (l.take k = m.take k ∧ New w wr)) (fun i _ => l.length - (intOf i).toNat)
    case atStart => exact ⟨0, Nat.zero_le _, rfl, hid ⟨rfl, New.refl w⟩⟩
    case round =>
      obtain ⟨k, hk, rfl, hyp⟩ := hrel
      by_cases hlt : k < l.length
      · have hlt2 : k < m.length := by have := HL.out; omega
        obtain ⟨b1, o1, rfl, hb1, hc1⟩ := X1.out (by omega)
        obtain ⟨b2, o2, rfl, hb2, hc2⟩ := X2.out (by omega)
        have y1 := Ints.at hc1 hlt
        have y2 := Ints.at hc2 hlt2
        have HTL := hid (show l.take (k + 1) = l.take k ++ [l[k]] from (List.take_append_getElem hlt).symm)
        have HTM := hid (show m.take (k + 1) = m.take k ++ [m[k]] from (List.take_append_getElem hlt2).symm)
        have HNE : Hid (l[k] ≠ m[k] → l ≠ m) := hid (fun h e => h (by subst e; rfl))
        obtain ⟨r, er⟩ : ∃ r, r = l[k] := ⟨_, rfl⟩
        obtain ⟨s, es⟩ : ∃ s, s = m[k] := ⟨_, rfl⟩
        rw [← er] at y1 HTL HNE
        rw [← es] at y2 HTM HNE
        clear er es hc1 hc2
        have HN := hid hyp.out.2
        have z1 : ∀ P : After wr, P.w.cell? ⟨b1, o1 + k, none⟩ = some (.int .i64 r) := fun P => by rw [(HN.out.trans P.new).cell _ _ hb1]; exact y1
        have z2 : ∀ P : After wr, P.w.cell? ⟨b2, o2 + k, none⟩ = some (.int .i64 s) := fun P => by rw [(HN.out.trans P.new).cell _ _ hb2]; exact y2
        clear y1 y2
        by_cases hrs : r = s
        · have q3 : (r == s) = true := by simpa using hrs
          have q4 : (r != s) = false := by simpa using hrs
          have HRS := hid hrs
          clear hrs
          go_wp2_with fail
          refine wp_region_new (by kernel_rfl) (by kernel_rfl) ?_
          repeat (go_big_quiet_step (fail))
          refine wpQuiet_nil ?_
          rintro _ ⟨P, rfl⟩
          clear z1 z2
          have HP := hid (HN.out.trans P.new)
          go_wp2
          go_roundw
          case rel => exact ⟨k + 1, by omega, by go_num, hid ⟨by rw [HTL.out, HTM.out, hyp.out.1, HRS.out], HP.out⟩⟩
          case measure => simp [intOf]; omega
        · have q3 : (r == s) = false := by simpa using hrs
          have q4 : (r != s) = true := by simpa using hrs
          have HRS := hid hrs
          clear hrs
          go_wp2_with fail
          refine wp_region_new (by kernel_rfl) (by kernel_rfl) ?_
          repeat (go_big_quiet_step (fail))
          refine wpQuiet_nil ?_
          rintro _ ⟨P, rfl⟩
          clear z1 z2
          have HP := hid (HN.out.trans P.new)
          go_wp2
          go_ret
          exact ⟨by rw [decide_eq_false (HNE.out HRS.out)]; rfl, HP.out⟩
      · obtain rfl : k = l.length := by omega
        have HY := hid hyp
        clear hyp
        go_wp2
        go_ret
        have e := HY.out.out.1
        rw [List.take_length, List.take_of_length_le (by have := HL.out; omega)] at e
        exact ⟨by rw [decide_eq_true e]; rfl, HY.out.out.2⟩
  · have q1 : ((l.length : Int) == (m.length : Int)) = false := by simp; omega
    have q2 : ((l.length : Int) != (m.length : Int)) = true := by simp; omega
    have q3 : (l.length == m.length) = false := by simpa using hlen
    have q4 : (l.length != m.length) = true := by simpa using hlen
    have HL := hid hlen
    clear hlen
    go_enter Tryz.func24, Tryz.ntmps24
    go_wp2
    go_ret
    exact ⟨by rw [decide_eq_false (fun e => HL.out (by rw [e]))]; rfl, New.refl w⟩

/-- What New of a disk and a log returns. -/
def PNewBack (b tb : Nat) (n : Int) (w : World) (e : Ending) (w' : World) : Prop := New w w' ∧ (2 ≤ n ∧ n ≤ 16 → ∃ pb, w.heap.size ≤ pb ∧ e = .returned (.tuple #[.pointer (some ⟨pb, 0, none⟩), .int .i64 0]) ∧ PoolAt w' pb none b tb ⟨n.toNat, [], 0⟩) ∧ (¬ (2 ≤ n ∧ n ≤ 16) → e = .returned (.tuple #[.pointer none, .int .i64 2]))
set_option maxHeartbeats 1600000 in
theorem pnew_any (b : Nat) (ow : Option Nat) (A : ADisk) (tb : Nat) (n : Int) (w : World) (h : DiskAt w b ow A) (hb3 : A.waits.length ≤ 1000000000) : Calls Tryz.prog 16 #[.pointer (some ⟨b, 0, none⟩), .pointer (some ⟨tb, 0, none⟩), .int .i64 n] w (PNewBack b tb n w) := by
  have H := hid h
  have B := hid hb3
  clear h hb3
  by_cases h1 : n < 2
  · have q1 : decide (n < 2) = true := by simpa using h1
    have HN : Hid (¬ (2 ≤ n ∧ n ≤ 16)) := hid (by omega)
    clear h1
    go_enter Tryz.func16, Tryz.ntmps16
    go_wp2_with fail
    refine (copy_any b ow A _ H.out B.out).mono ?_
    rintro e w1 ⟨c, oc, rfl, hD, n1, -, -⟩
    go_wp2
    go_ret2
    exact ⟨n1, fun h => absurd h HN.out, fun _ => rfl⟩
  have q1 : decide (n < 2) = false := by simpa using h1
  by_cases h2 : 16 < n
  · have q2 : decide ((16 : Int) < n) = true := by simpa using h2
    have HN : Hid (¬ (2 ≤ n ∧ n ≤ 16)) := hid (by omega)
    clear h1 h2
    go_enter Tryz.func16, Tryz.ntmps16
    go_wp2_with fail
    refine (copy_any b ow A _ H.out B.out).mono ?_
    rintro e w1 ⟨c, oc, rfl, hD, n1, -, -⟩
    go_wp2
    go_ret2
    exact ⟨n1, fun h => absurd h HN.out, fun _ => rfl⟩
  have q2 : decide ((16 : Int) < n) = false := by simpa using h2
  have HN : Hid (2 ≤ n ∧ n ≤ 16) := hid (by omega)
  obtain ⟨m, rfl⟩ : ∃ m : Nat, n = (m : Int) := ⟨n.toNat, by omega⟩
  clear h1 h2
  go_enter Tryz.func16, Tryz.ntmps16
  go_wp2_with fail
  refine (copy_any b ow A _ H.out B.out).mono ?_
  rintro e w1 ⟨c, oc, rfl, hD, n1, -, -⟩
  go_wp2
  go_ret2
  refine ⟨n1.alloc _ _, fun _ => ?_, fun h => absurd HN.out h⟩
  refine ⟨w1.heap.size, n1.size, rfl, ⟨⟨_, heap_alloc_new w1 _, rfl, World.ownsRow_nil _ _ _ _⟩, fun p hp => absurd hp (List.not_mem_nil), List.nodup_nil⟩⟩

end Go.Proofs.YtdccbceaajnajaaGreat

namespace Go.Proofs
open Go.Shelf
def Tryz.lays138_ren : Go.Shelf.Ren := ⟨fun | 45 => 82 | n => n, fun | 22 => 88 | 23 => 91 | 3 => 3 | 4 => 4 | 0 => 0 | n => n, fun | n => n⟩
theorem Tryz.lays138 : Go.Proofs.SlLaysE.n45 Tryz.prog Tryz.lays138_ren := {
  mixed := by kernel_rfl
  f45 := ⟨Tryz.f82.name, by decide, Tryz.func82.trans (congrArg some (by kernel_rfl))⟩
  t0 := Tryz.underlying0
  a0 := Tryz.isAgg0
  z0 := Tryz.sizeOf0
  v0 := Tryz.zeroValue0
  t3 := Tryz.underlying3
  a3 := Tryz.isAgg3
  z3 := Tryz.sizeOf3
  v3 := Tryz.zeroValue3
  t4 := Tryz.underlying4
  a4 := Tryz.isAgg4
  z4 := Tryz.sizeOf4
  v4 := Tryz.zeroValue4
  t22 := Tryz.underlying88
  a22 := Tryz.isAgg88
  z22 := Tryz.sizeOf88
  v22 := Tryz.zeroValue88
  a23 := Tryz.isAgg91
  z23 := Tryz.sizeOf91 }

end Go.Proofs
namespace Go.Proofs.YtdccbceaajnajaaGreat
open Go.RowKit Go.Sort Go.Lib
set_option linter.unusedSimpArgs false
set_option linter.unusedVariables false

def encF (o : Option Nat) : Value := .pointer (o.map fun k => ⟨k, 0, none⟩)
theorem ptrVals_enc (l : List (Nat × AFrame)) : ptrVals l = (l.map fun (p : Nat × AFrame) => (some p.1 : Option Nat)).map encF := by
  simp only [ptrVals, List.map_map]
  rfl
theorem putCells_take (d : Array (Option Nat)) (c : Array Value) (m : Nat) (h1 : m ≤ d.size) (h2 : d.size ≤ c.size) : (putCells encF 0 d c).toList.take m = (d.toList.take m).map encF := by
  apply List.ext_getElem?
  intro k
  by_cases hk : k < m
  · rw [List.getElem?_take, if_pos hk, List.getElem?_map, List.getElem?_take, if_pos hk, Array.getElem?_toList, Array.getElem?_toList]
    simp only [putCells, Array.getElem?_mapIdx]
    rw [Array.getElem?_eq_getElem (by omega : k < c.size), Array.getElem?_eq_getElem (by omega : k < d.size)]
    simp only [Option.map_some]
    rw [if_pos ⟨Nat.zero_le _, by omega⟩, Nat.sub_zero, getElem!_pos d k (by omega)]
  · rw [List.getElem?_eq_none (by rw [List.length_take]; omega), List.getElem?_eq_none (by rw [List.length_map, List.length_take]; omega)]
theorem heap_putRow (w : World) (g : Nat) (d : Array (Option Nat)) (k : Nat) : (putRow encF w g 0 d).heap[k]? = if g = k then w.heap[k]?.map (onCells (putCells encF 0 d)) else w.heap[k]? := by
  simp only [putRow, mapBlock, Array.getElem?_modify]

theorem delete_any (w : World) (base : Nat) (v : Value) (l : List (Nat × AFrame)) (i : Nat) (hi : i < l.length) (h : w.ownsRow base 91 1 v l.length (ptrVals l)) (hl : l.length ≤ 1000000) :
    Calls Tryz.prog 82 #[v, .int .i64 i, .int .i64 ((i : Int) + 1)] w fun e w' => ∃ v', e = .returned v' ∧ v'.ownBlock = v.ownBlock ∧ w'.ownsRow base 91 1 v' (l.length - 1) (ptrVals (l.eraseIdx i)) ∧ Turn (fun k => v.ownBlock = some k) w w' ∧ w'.heap.size = w.heap.size := by
  obtain ⟨i0, hi0, hz0, hz1, hz2⟩ := info_parts (show (Tryz.prog.info? 91).map (fun i => (i.zero, i.size, i.bytes)) = some (some (.pointer none), 1, 8) by kernel_rfl)
  rcases h.2 with ⟨e, e0⟩ | ⟨g, cap, cur, rfl, hg, hh, hn, hm, hs, ht⟩
  · omega
  have hcur : ∀ j, j < l.length → cur[j]? = some (encF ((l.map fun (p : Nat × AFrame) => (some p.1 : Option Nat)).toArray)[j]!) := fun j hj => by
    have := congrArg (fun m => m[j]?) ht
    simp only [Nat.mul_one] at this
    rw [List.getElem?_take, if_pos hj, Array.getElem?_toList] at this
    rw [this, ptrVals_enc, List.getElem?_map, List.getElem?_map, List.getElem?_eq_getElem hj, getElem!_pos _ j (by simpa using hj)]
    simp
  have hH : Holds encF w g 0 (l.map fun (p : Nat × AFrame) => (some p.1 : Option Nat)).toArray := fun j hj => by
    have hj' : j < l.length := by simpa using hj
    refine ⟨?_, ?_⟩
    · rw [Nat.zero_add, cells_of hh]
      exact hcur j hj'
    · exact frozen_of hh _
  have hsz : (l.map fun (p : Nat × AFrame) => (some p.1 : Option Nat)).toArray.size = l.length := by simp
  have key := AnyE.slices_Delete Tryz.lays138 encF (fun _ => rfl) none Tryz.zeroValue91 i0 hi0 hz1 g 0 cap i (i + 1) (l.map fun (p : Nat × AFrame) => (some p.1 : Option Nat)).toArray w hH (by rw [hsz]; exact hn) (by unfold maxLen at hm; omega) (by omega) (by rw [hsz]; omega)
  rw [hsz] at key
  refine Calls.mono key ?_
  rintro e w' ⟨rfl, q, rfl⟩
  have e1 : l.length - (i + 1 - i) = l.length - 1 := by omega
  rw [e1]
  obtain ⟨D, hD⟩ : ∃ D : List (Option Nat), D = ((l.map fun (p : Nat × AFrame) => (some p.1 : Option Nat)).toArray.toList.take i ++ (l.map fun (p : Nat × AFrame) => (some p.1 : Option Nat)).toArray.toList.drop (i + 1) ++ List.replicate (i + 1 - i) none) := ⟨_, rfl⟩
  rw [← hD]
  have hd : D.length = l.length := by
    rw [hD]
    simp
    omega
  refine ⟨_, rfl, rfl, ⟨?_, .inr ⟨g, cap, putCells encF 0 D.toArray cur, rfl, hg, ?_, by omega, hm, ?_, ?_⟩⟩, ⟨rfl, rfl, rfl, by simp [Sort.ahead], fun k hk hne => ?_⟩, by simp [Sort.ahead]⟩
  · simp [ptrVals, List.length_eraseIdx, hi]
  · rw [heap_putRow, if_pos rfl]
    show w.heap[g]?.map _ = _
    rw [hh]
    rfl
  · simp only [putCells, Array.size_mapIdx]
    exact hs
  · rw [Nat.mul_one, putCells_take _ _ _ (by rw [List.size_toArray, hd]; omega) (by rw [List.size_toArray, hd]; omega), ptrVals_enc, List.eraseIdx_eq_take_drop_succ, hD]
    refine congrArg (List.map encF) ?_
    have hlen : l.length - 1 = (List.map (fun (p : Nat × AFrame) => (some p.1 : Option Nat)) (l.take i ++ l.drop (i + 1))).length := by simp; omega
    rw [hlen, List.map_append, List.map_take, List.map_drop]
    exact List.take_left
  · rw [heap_putRow, if_neg (fun e => hne (by rw [e]; rfl))]
    rfl

end Go.Proofs.YtdccbceaajnajaaGreat

namespace Go.Proofs.YtdccbceaajnajaaGreat
open Go.RowKit
set_option linter.unusedSimpArgs false
set_option linter.unusedVariables false

def setF (P : APool) (k : Nat) (g : AFrame) : APool := { P with frames := P.frames.map fun p => if p.1 = k then (p.1, g) else p }
theorem setF_blocks (P : APool) (k : Nat) (g : AFrame) : (setF P k g).frames.map (·.1) = P.frames.map (·.1) := by
  simp only [setF, List.map_map]
  apply List.map_congr_left
  intro p _
  simp only [Function.comp]
  split <;> rfl
theorem setF_ptrs (P : APool) (k : Nat) (g : AFrame) : ptrVals (setF P k g).frames = ptrVals P.frames := by
  have := congrArg (List.map fun j : Nat => (Value.pointer (some ⟨j, 0, none⟩))) (setF_blocks P k g)
  simpa [ptrVals, List.map_map, Function.comp_def] using this
theorem setF_length (P : APool) (k : Nat) (g : AFrame) : (setF P k g).frames.length = P.frames.length := by simp [setF]
theorem setF_pools {P : APool} {pb : Nat} {os : Option Nat} {k : Nat} {g : AFrame} {j : Nat} (h : pools pb os (setF P k g) j) : pools pb os P j := by
  rcases h with h | h | ⟨p, hp, rfl⟩
  · exact .inl h
  · exact .inr (.inl h)
  · have : p.1 ∈ (setF P k g).frames.map (·.1) := List.mem_map.2 ⟨p, hp, rfl⟩
    rw [setF_blocks] at this
    obtain ⟨q, hq, e⟩ := List.mem_map.1 this
    exact .inr (.inr ⟨q, hq, e⟩)
theorem nodup_eq {l : List (Nat × AFrame)} (h : (l.map (·.1)).Nodup) {p q : Nat × AFrame} (hp : p ∈ l) (hq : q ∈ l) (e : p.1 = q.1) : p = q := by
  induction l with
  | nil => cases hp
  | cons x l ih =>
    rw [List.map_cons, List.nodup_cons] at h
    rcases List.mem_cons.1 hp with hp | hp <;> rcases List.mem_cons.1 hq with hq | hq
    · rw [hp, hq]
    · exact absurd (List.mem_map.2 ⟨q, hq, by rw [← e, hp]⟩) h.1
    · exact absurd (List.mem_map.2 ⟨p, hp, by rw [e, hq]⟩) h.1
    · exact ih h.2 hp hq
theorem setF_same {P : APool} {k : Nat} {f : AFrame} (hn : (P.frames.map (·.1)).Nodup) (hm : (k, f) ∈ P.frames) : setF P k f = P := by
  have : (P.frames.map fun p => if p.1 = k then (p.1, f) else p) = P.frames := by
    refine (List.map_congr_left fun p hp => ?_).trans (List.map_id _)
    by_cases e : p.1 = k
    · have e2 := nodup_eq hn hp hm e
      rw [if_pos e, e2]
      rfl
    · rw [if_neg e]
      rfl
  cases P
  simp only [setF] at this ⊢
  rw [this]
theorem PoolAt.put {w w' : World} {pb b tb : Nat} {os : Option Nat} {P : APool} (h : PoolAt w pb os b tb P) {k : Nat} {f g : AFrame} (hm : (k, f) ∈ P.frames) (hg : FrameAt w' k g) (ht : Turn (· = k) w w') : PoolAt w' pb os b tb (setF P k g) := by
  have hk := (h.frames _ hm)
  obtain ⟨v0, k0, -⟩ := hk
  have b5 : Apart (· = k) w := apart_of k0 (by decide)
  obtain ⟨⟨v, e1, e2, e3⟩, h4, h6⟩ := h
  have hpb : ¬ pb = k := fun e => by subst e; exact type_ne e1 k0 (by decide) rfl
  refine ⟨⟨v, ?_, e2, ?_⟩, fun p hp => ?_, ?_⟩
  · rw [ht.block pb (Array.getElem?_eq_some_iff.1 e1).1 hpb]; exact e1
  · rw [setF_length, setF_ptrs]
    exact own_turn e3 ht (fun j hj e => own_ne e3 k0 (by decide) (e ▸ hj))
  · obtain ⟨q, hq, rfl⟩ := List.mem_map.1 hp
    by_cases e : q.1 = k
    · rw [if_pos e, e]; exact hg
    · rw [if_neg e]; exact (h4 q hq).turn ht e b5
  · rw [setF_blocks]; exact h6
theorem FrameAt.cleaned {w : World} {k : Nat} {f : AFrame} (h : FrameAt w k f) : FrameAt (w.setCell ⟨k, 3, none⟩ (.bool false)) k { f with dirty := false } ∧ Turn (· = k) w (w.setCell ⟨k, 3, none⟩ (.bool false)) := by
  obtain ⟨v, e1, e2⟩ := h
  have ht := turn_set w k 3 (.bool false)
  exact ⟨⟨v, heap_setCell_same w k 3 _ 93 _ e1, e2.turn ht (apart_of e1 (by decide))⟩, ht⟩
theorem Sys.cleaned {w0 w : World} {b tb pb : Nat} {ow ot os : Option Nat} {A : ADisk} {T : ATape} {P : APool} (h : Sys w0 w b ow tb ot pb os A T P) {k : Nat} {f : AFrame} (hm : (k, f) ∈ P.frames) :
    Sys w0 (w.setCell ⟨k, 3, none⟩ (.bool false)) b ow tb ot pb os A T (setF P k { f with dirty := false }) ∧ Turn (· = k) w (w.setCell ⟨k, 3, none⟩ (.bool false)) := by
  obtain ⟨hg, ht⟩ := (h.pool.frames _ hm).cleaned
  obtain ⟨v, e1, -⟩ := h.pool.frames _ hm
  have hk : w0.heap.size ≤ k := h.pp _ (.inr (.inr ⟨_, hm, rfl⟩))
  have hlt : k < w.heap.size := (Array.getElem?_eq_some_iff.1 e1).1
  have b5 : Apart (· = k) w := apart_of e1 (by decide)
  have b90 : Apart90 (· = k) w := fun j c fr hk hh => by subst hk; exact type_ne e1 hh (by decide) rfl
  obtain ⟨tv, te, -⟩ := id h.log.tape
  have nt : ¬ tb = k := fun e => by subst e; exact type_ne te e1 (by decide) rfl
  refine ⟨⟨{ h.log with disk := disk_keep h.log.disk ht (fun j hj => by subst hj; exact ⟨_, _, _, e1, by decide, by decide, by decide⟩), tape := h.log.tape.turn ht nt (fun j hj e => ?_) b5 b90, new := Below.trans h.log.new (ht.below (fun j e => e ▸ hk) h.log.new.size) }, h.pool.put hm hg ht, fun j hj => h.pp j (setF_pools hj)⟩, ht⟩
  obtain ⟨c, hc⟩ := h.log.tape.row hj
  subst e
  exact type_ne hc e1 (by decide) rfl

/-- Behind out. -/
def OutBack (w0 : World) (b : Nat) (ow : Option Nat) (tb : Nat) (ot : Option Nat) (pb : Nat) (os : Option Nat) (A : ADisk) (T : ATape) (P : APool) (k : Nat) (f : AFrame) (w : World) (e : Ending) (w' : World) : Prop :=
  ∃ ow', e = .returned (.int .i64 (outE A T f)) ∧ Sys w0 w' b ow' tb ot pb os (outA A T f) (outT A T f) (setF P k (outF A T f)) ∧ Turn (fun j => logs b ow tb ot j ∨ j = k) w w' ∧ (∀ k, ow' = some k → ow = some k ∨ w.heap.size ≤ k)
theorem Lim.force {A : ADisk} {n : Nat} (h : Lim A n) (T : ATape) : Lim (forceA A T) (n + 1) := by
  unfold forceA
  split
  · exact h.flush
  · exact h.mono (by omega)
theorem frame_block {f : AFrame} (h : FrameOk f) : pgOk f.b.data.toList (f.stamp : Int) = true ∧ outBlk f = bytesOf (blkB f.b.data.toList (f.stamp : Int)) ∧ (outBlk f).size = 136 := by
  have hl : f.b.data.toList.length = 128 := by have := h.size; rw [← bytesOf_data f.b, bytesOf_size] at this; exact this
  refine ⟨?_, rfl, ?_⟩
  · unfold pgOk
    rw [decide_eq_true hl, wi_iff.2 (by have := h.stamp; omega)]
    rfl
  · unfold outBlk
    rw [bytesOf_size]
    exact blkB_length hl

theorem turn_logs {b tb : Nat} {ow ow1 ot : Option Nat} {w w1 w2 : World} (h : Turn (logs b ow tb ot) w w1) (h2 : Turn (logs b ow1 tb ot) w1 w2) (how : ∀ j, ow1 = some j → ow = some j ∨ w.heap.size ≤ j) : Turn (logs b ow tb ot) w w2 := by
  refine ⟨h2.os.trans h.os, h2.tape.trans h.tape, h2.output.trans h.output, Nat.le_trans h.size h2.size, fun k hk hs => ?_⟩
  rw [h2.block k (Nat.lt_of_lt_of_le hk h.size) (fun h1 => ?_)]
  · exact h.block k hk hs
  · rcases h1 with (h1 | h1) | h1
    · exact hs (.inl (.inl h1))
    · rcases how k h1 with h2 | h2
      · exact hs (.inl (.inr h2))
      · omega
    · exact hs (.inr h1)

set_option maxHeartbeats 4000000 in
set_option maxRecDepth 100000 in
theorem out_any (w0 : World) (b : Nat) (ow : Option Nat) (tb : Nat) (ot : Option Nat) (pb : Nat) (os : Option Nat) (A : ADisk) (T : ATape) (P : APool) (k : Nat) (f : AFrame) (n : Nat) (w : World) (S : Sys w0 w b ow tb ot pb os A T P) (hm : (k, f) ∈ P.frames) (ok : FrameOk f) (L : Lim A n) (hn : n ≤ 100000) :
    Calls Tryz.prog 68 #[.pointer (some ⟨pb, 0, none⟩), .pointer (some ⟨k, 0, none⟩)] w (OutBack w0 b ow tb ot pb os A T P k f w) := by
  obtain ⟨p, c, hc, hf⟩ := pool_cells S.pool
  obtain ⟨fp, fc, gc, gf, -⟩ := frame_cells (S.pool.frames _ hm)
  have HS := hid S
  have HM := hid hm
  have HOK := hid ok
  have HL := hid L
  have HLN := hid hn
  have HB := hid (frame_block ok)
  clear S hm ok L hn
  cases hd : f.dirty with
  | false =>
    rw [hd] at gc
    have e0 : outE A T f = 0 := by simp [outE, hd]
    have e1 : outF A T f = f := by
      unfold outF
      rw [if_pos e0]
      cases f
      simp at hd
      simp [hd]
    have HRES : Hid (OutBack w0 b ow tb ot pb os A T P k f w (.returned (.int .i64 0)) w) := hid ⟨ow, by rw [e0], by
      rw [e1, setF_same HS.out.pool.nodup HM.out]
      simp only [outA, outT, hd]
      exact HS.out, Turn.refl _ _, fun k h => .inl h⟩
    clear hd e0 e1
    go_enter Tryz.func68, Tryz.ntmps68
    go_wp2
    go_ret
    exact HRES.out
  | true =>
    rw [hd] at gc
    have HD := hid hd
    clear hd
    by_cases hst : T.forced < f.stamp
    · have q1 : decide ((T.forced : Int) < (f.stamp : Int)) = true := by simpa using hst
      have q1n : decide (T.forced < f.stamp) = true := by simpa using hst
      have q1p : T.forced < f.stamp := hst
      have HST : Hid (outStamped T f = true) := hid (by simpa [outStamped] using hst)
      clear hst
      have HT : Hid (∀ Q : After w, TapeAt Q.w tb ot b T) := hid fun Q => HS.out.log.tape.new Q.new
      have kb := HS.out.pool.base
      have lpb : pb < w.heap.size := by obtain ⟨v, e1, _⟩ := kb; exact (Array.getElem?_eq_some_iff.1 e1).1
      have lk : k < w.heap.size := (HS.out.pool.frames _ HM.out).lt
      have g0 : ∀ Q : After w, Q.w.cell? ⟨k, 2, none⟩ = some (.int .i64 (f.stamp : Int)) := fun Q => by rw [Q.new.cell _ _ lk]; exact gc 2
      have p0 : ∀ Q : After w, Q.w.cell? ⟨pb, 1, none⟩ = some (.pointer (some ⟨tb, 0, none⟩)) := fun Q => by rw [Q.new.cell _ _ lpb]; exact hc 1
      clear kb lpb lk
      go_enter Tryz.func68, Tryz.ntmps68
      go_wp2_with fail
      refine wp_region_new (by kernel_rfl) (by kernel_rfl) ?_
      repeat (go_big_quiet_step (with_reducible refine calls_after_same (forced_any tb ot b T _ (HT.out _))))
      refine wpQuiet_nil ?_
      rintro _ ⟨Q, rfl⟩
      have S0 := hid (HS.out.newer Q.new)
      have N0 := hid Q.new
      generalize Q.w = wq at *
      clear g0 p0
      clear hc hf gc gf
      obtain ⟨p, c, hc, hf⟩ := pool_cells S0.out.pool
      obtain ⟨fp, fc, gc, gf, -⟩ := frame_cells (S0.out.pool.frames _ HM.out)
      go_wp2_with fail
      refine (force_any w0 b ow tb ot A T _ S0.out.log (by have := HL.out.falls; have := HLN.out; omega) (by have := HL.out.acts; have := HLN.out; omega) (by have := HL.out.waits; have := HLN.out; omega)).mono ?_
      rintro e w1 ⟨ow1, rfl, hl1, ht1, how1⟩
      have S1 := hid (S0.out.moved hl1 ht1)
      have T1 := hid ((Turn.of_new (S := logs b ow tb ot) N0.out).trans ht1)
      have O1 : Hid (∀ j, ow1 = some j → ow = some j ∨ w.heap.size ≤ j) := hid fun j hj => (how1 j hj).imp id (Nat.le_trans N0.out.size)
      have L1 := hid (HL.out.force T)
      clear hl1 ht1 how1 hc hf gc gf q1 q1n q1p
      by_cases hfe : forceE A T = 0
      · have D1 : Hid (outE1 A T f = 0) := hid (by unfold outE1; rw [HST.out]; exact hfe)
        have D2 : Hid (outA1 A T f = forceA A T) := hid (by unfold outA1; rw [HST.out]; rfl)
        have D3 : Hid (outT1 A T f = forceT A T) := hid (by unfold outT1; rw [HST.out]; rfl)
        rw [hfe]
        clear hfe
        obtain ⟨p, c, hc, hf⟩ := pool_cells S1.out.pool
        obtain ⟨fp, fc, gc, gf, cont⟩ := frame_cells (S1.out.pool.frames _ HM.out)
        rw [HD.out] at gc
        have CONT := hid cont
        clear cont
        have HBY : Hid (Bytes w1 (.slice fp f.b.size fc) (bytesOf f.b.data.toList)) := hid (by rw [bytesOf_data]; exact CONT.out.1)
        have HSZ : Hid (f.b.data.toList.length ≤ 1000) := hid (by have := HOK.out.size; rw [← bytesOf_data f.b, bytesOf_size] at this; omega)
        have ND := hid ((New.refl w1).drew)
        go_wp2_with fail
        go_region_with (go_at_call 105; refine (block_any (.slice fp f.b.size fc) f.b.data.toList (f.stamp : Int) _ (HBY.out.renew ND.out) HSZ.out).mono ?_; rintro e w2 ⟨p2, k2, c2, er2, rfl, n2, hb2, -⟩; obtain ⟨rfl, rfl, hb3⟩ := hb2 HB.out.1)
        all_goals
          rw [← HB.out.2.1] at hb3
          have S2 := hid (S1.out.newer (ND.out.trans n2))
          have CB := hid hb3
          clear hb2 hb3
          have N2 := hid (ND.out.trans n2)
          clear n2 hc hf gc gf
          obtain ⟨p', c', hc, hf⟩ := pool_cells S2.out.pool
          obtain ⟨fp', fc', gc, gf, -⟩ := frame_cells (S2.out.pool.frames _ HM.out)
          rw [HD.out] at gc
          have CB2 : Hid (Bytes w2.drew (.slice p2 136 c2) (outBlk f)) := hid (CB.out.1.renew (New.refl w2).drew)
          have ND2 := hid ((New.refl w2).drew)
          have S2d := hid (S2.out.newer ND2.out)
          go_wp2_with fail
          go_region_with (go_at_call 59; refine (write_any b ow1 (forceA A T) (f.page : Int) _ (outBlk f) _ S2d.out.log.disk CB2.out (bytes_not_disk S2d.out.log.disk CB2.out) (by have := L1.out.falls; have := HLN.out; omega) (by have := L1.out.acts; have := HLN.out; omega) (by have := L1.out.waits; have := HLN.out; omega)).mono ?_; rintro e w3 hmv; obtain ⟨ow3, rfl, hl3, ht3, how3⟩ := S2d.out.log.moved hmv)
          all_goals
            have T3 : Hid (Turn (logs b ow1 tb ot) w2.drew w3) := hid (ht3.mono (fun j _ h => by rcases h with h | h; exact Or.inl (Or.inl h); exact Or.inl (Or.inr h)))
            have S3 := hid (S2d.out.moved hl3 T3.out)
            have O3 : Hid (∀ k, ow3 = some k → ow = some k ∨ w.heap.size ≤ k) := hid (fun j hj => by
              rcases how3 j hj with h | h
              · exact O1.out j h
              · exact .inr (Nat.le_trans (Nat.le_trans T1.out.size N2.out.size) h))
            have TW : Hid (Turn (fun j => logs b ow tb ot j ∨ j = k) w w3) := hid ((turn_logs T1.out ((Turn.of_new (N2.out.trans ND2.out)).trans T3.out) O1.out).mono fun j _ h => Or.inl h)
            clear hmv hl3 ht3 how3 hc hf gc gf
            obtain ⟨p'', c'', hc, hf⟩ := pool_cells S3.out.pool
            obtain ⟨fp'', fc'', gc, gf, -⟩ := frame_cells (S3.out.pool.frames _ HM.out)
            by_cases hwe : writeE (forceA A T) (f.page : Int) (outBlk f) = 0
            · have D4 : Hid (outE A T f = 0) := hid (by unfold outE; rw [HD.out, if_pos rfl, if_pos D1.out, D2.out, hwe])
              have D5 : Hid (outF A T f = { f with dirty := false }) := hid (by unfold outF; rw [if_pos D4.out])
              have D6 : Hid (outA A T f = writeA (forceA A T) (f.page : Int) (outBlk f)) := hid (by unfold outA; rw [HD.out, if_pos rfl, if_pos D1.out, D2.out])
              have D7 : Hid (outT A T f = forceT A T) := hid (by unfold outT; rw [HD.out, if_pos rfl, D3.out])
              rw [hwe]
              clear hwe
              go_wp2
              go_ret
              obtain ⟨S4, T4⟩ := S3.out.cleaned HM.out
              refine ⟨ow3, by rw [D4.out]; rfl, ?_, TW.out.trans (T4.mono fun j _ h => .inr h), O3.out⟩
              rw [D5.out, D6.out, D7.out]
              exact S4
            · have q2 : (writeE (forceA A T) (f.page : Int) (outBlk f) == 0) = false := by simpa using hwe
              have q3 : (writeE (forceA A T) (f.page : Int) (outBlk f) != 0) = true := by simpa using hwe
              have D4 : Hid (outE A T f = writeE (forceA A T) (f.page : Int) (outBlk f)) := hid (by unfold outE; rw [HD.out, if_pos rfl, if_pos D1.out, D2.out])
              have D5 : Hid (outF A T f = f) := hid (by unfold outF; rw [D4.out, if_neg hwe])
              have D6 : Hid (outA A T f = writeA (forceA A T) (f.page : Int) (outBlk f)) := hid (by unfold outA; rw [HD.out, if_pos rfl, if_pos D1.out, D2.out])
              have D7 : Hid (outT A T f = forceT A T) := hid (by unfold outT; rw [HD.out, if_pos rfl, D3.out])
              clear hwe
              go_wp2
              go_ret
              refine ⟨ow3, by rw [D4.out]; rfl, ?_, TW.out, O3.out⟩
              rw [D5.out, D6.out, D7.out, setF_same HS.out.pool.nodup HM.out]
              exact S3.out
      · have q2 : (forceE A T == 0) = false := by simpa using hfe
        have q3 : (forceE A T != 0) = true := by simpa using hfe
        have E1 : outE1 A T f = forceE A T := by unfold outE1; rw [HST.out]; rfl
        have D0 : Hid (outE A T f = forceE A T) := hid (by unfold outE; rw [HD.out, if_pos rfl, E1, if_neg hfe])
        have D1 : Hid (outF A T f = f) := hid (by unfold outF; rw [D0.out, if_neg hfe])
        have D2 : Hid (outA A T f = forceA A T) := hid (by unfold outA; rw [HD.out, if_pos rfl, E1, if_neg hfe]; unfold outA1; rw [HST.out]; rfl)
        have D3 : Hid (outT A T f = forceT A T) := hid (by unfold outT; rw [HD.out, if_pos rfl]; unfold outT1; rw [HST.out]; rfl)
        clear hfe E1
        go_wp2
        go_ret
        refine ⟨ow1, by rw [D0.out]; rfl, ?_, T1.out.mono (fun j _ h => .inl h), O1.out⟩
        rw [D1.out, D2.out, D3.out, setF_same HS.out.pool.nodup HM.out]
        exact S1.out
    · have q1 : decide ((T.forced : Int) < (f.stamp : Int)) = false := by simpa using hst
      have q1n : decide (T.forced < f.stamp) = false := by simpa using hst
      have q1p : ¬ T.forced < f.stamp := hst
      have HST : Hid (outStamped T f = false) := hid (by simpa [outStamped] using hst)
      clear hst
      have D1 : Hid (outE1 A T f = 0) := hid (by unfold outE1; rw [HST.out]; rfl)
      have D2 : Hid (outA1 A T f = A) := hid (by unfold outA1; rw [HST.out]; rfl)
      have D3 : Hid (outT1 A T f = T) := hid (by unfold outT1; rw [HST.out]; rfl)
      have O1 : Hid (∀ k, ow = some k → ow = some k ∨ w.heap.size ≤ k) := hid fun k h => .inl h
      have HT : Hid (∀ Q : After w, TapeAt Q.w tb ot b T) := hid fun Q => HS.out.log.tape.new Q.new
      have kb := HS.out.pool.base
      have lpb : pb < w.heap.size := by obtain ⟨v, e1, _⟩ := kb; exact (Array.getElem?_eq_some_iff.1 e1).1
      have lk : k < w.heap.size := (HS.out.pool.frames _ HM.out).lt
      have g0 : ∀ Q : After w, Q.w.cell? ⟨k, 2, none⟩ = some (.int .i64 (f.stamp : Int)) := fun Q => by rw [Q.new.cell _ _ lk]; exact gc 2
      have p0 : ∀ Q : After w, Q.w.cell? ⟨pb, 1, none⟩ = some (.pointer (some ⟨tb, 0, none⟩)) := fun Q => by rw [Q.new.cell _ _ lpb]; exact hc 1
      clear kb lpb lk
      go_enter Tryz.func68, Tryz.ntmps68
      go_wp2_with fail
      refine wp_region_new (by kernel_rfl) (by kernel_rfl) ?_
      repeat (go_big_quiet_step (with_reducible refine calls_after_same (forced_any tb ot b T _ (HT.out _))))
      refine wpQuiet_nil ?_
      rintro _ ⟨Q, rfl⟩
      have S0 := hid (HS.out.newer Q.new)
      have N0 := hid Q.new
      generalize Q.w = wq at *
      clear g0 p0
      clear hc hf gc gf
      have T1 : Hid (Turn (logs b ow tb ot) w wq) := hid (Turn.of_new N0.out)
      obtain ⟨p, c, hc, hf⟩ := pool_cells S0.out.pool
      obtain ⟨fp, fc, gc, gf, cont⟩ := frame_cells (S0.out.pool.frames _ HM.out)
      rw [HD.out] at gc
      have CONT := hid cont
      clear cont
      have HBY : Hid (Bytes wq (.slice fp f.b.size fc) (bytesOf f.b.data.toList)) := hid (by rw [bytesOf_data]; exact CONT.out.1)
      have HSZ : Hid (f.b.data.toList.length ≤ 1000) := hid (by have := HOK.out.size; rw [← bytesOf_data f.b, bytesOf_size] at this; omega)
      have ND := hid ((New.refl wq).drew)
      go_wp2_with fail
      go_region_with (go_at_call 105; refine (block_any (.slice fp f.b.size fc) f.b.data.toList (f.stamp : Int) _ (HBY.out.renew ND.out) HSZ.out).mono ?_; rintro e w2 ⟨p2, k2, c2, er2, rfl, n2, hb2, -⟩; obtain ⟨rfl, rfl, hb3⟩ := hb2 HB.out.1)
      all_goals
        rw [← HB.out.2.1] at hb3
        have S2 := hid (S0.out.newer (ND.out.trans n2))
        have CB := hid hb3
        clear hb2 hb3
        have N2 := hid (ND.out.trans n2)
        clear n2 hc hf gc gf
        obtain ⟨p', c', hc, hf⟩ := pool_cells S2.out.pool
        obtain ⟨fp', fc', gc, gf, -⟩ := frame_cells (S2.out.pool.frames _ HM.out)
        rw [HD.out] at gc
        have CB2 : Hid (Bytes w2.drew (.slice p2 136 c2) (outBlk f)) := hid (CB.out.1.renew (New.refl w2).drew)
        have ND2 := hid ((New.refl w2).drew)
        have S2d := hid (S2.out.newer ND2.out)
        go_wp2_with fail
        go_region_with (go_at_call 59; refine (write_any b ow (A) (f.page : Int) _ (outBlk f) _ S2d.out.log.disk CB2.out (bytes_not_disk S2d.out.log.disk CB2.out) (by have := HL.out.falls; have := HLN.out; omega) (by have := HL.out.acts; have := HLN.out; omega) (by have := HL.out.waits; have := HLN.out; omega)).mono ?_; rintro e w3 hmv; obtain ⟨ow3, rfl, hl3, ht3, how3⟩ := S2d.out.log.moved hmv)
        all_goals
          have T3 : Hid (Turn (logs b ow tb ot) w2.drew w3) := hid (ht3.mono (fun j _ h => by rcases h with h | h; exact Or.inl (Or.inl h); exact Or.inl (Or.inr h)))
          have S3 := hid (S2d.out.moved hl3 T3.out)
          have O3 : Hid (∀ k, ow3 = some k → ow = some k ∨ w.heap.size ≤ k) := hid (fun j hj => by
            rcases how3 j hj with h | h
            · exact O1.out j h
            · exact .inr (Nat.le_trans (Nat.le_trans T1.out.size N2.out.size) h))
          have TW : Hid (Turn (fun j => logs b ow tb ot j ∨ j = k) w w3) := hid ((turn_logs T1.out ((Turn.of_new (N2.out.trans ND2.out)).trans T3.out) O1.out).mono fun j _ h => Or.inl h)
          clear hmv hl3 ht3 how3 hc hf gc gf
          obtain ⟨p'', c'', hc, hf⟩ := pool_cells S3.out.pool
          obtain ⟨fp'', fc'', gc, gf, -⟩ := frame_cells (S3.out.pool.frames _ HM.out)
          by_cases hwe : writeE (A) (f.page : Int) (outBlk f) = 0
          · have D4 : Hid (outE A T f = 0) := hid (by unfold outE; rw [HD.out, if_pos rfl, if_pos D1.out, D2.out, hwe])
            have D5 : Hid (outF A T f = { f with dirty := false }) := hid (by unfold outF; rw [if_pos D4.out])
            have D6 : Hid (outA A T f = writeA (A) (f.page : Int) (outBlk f)) := hid (by unfold outA; rw [HD.out, if_pos rfl, if_pos D1.out, D2.out])
            have D7 : Hid (outT A T f = T) := hid (by unfold outT; rw [HD.out, if_pos rfl, D3.out])
            rw [hwe]
            clear hwe
            go_wp2
            go_ret
            obtain ⟨S4, T4⟩ := S3.out.cleaned HM.out
            refine ⟨ow3, by rw [D4.out]; rfl, ?_, TW.out.trans (T4.mono fun j _ h => .inr h), O3.out⟩
            rw [D5.out, D6.out, D7.out]
            exact S4
          · have q2 : (writeE (A) (f.page : Int) (outBlk f) == 0) = false := by simpa using hwe
            have q3 : (writeE (A) (f.page : Int) (outBlk f) != 0) = true := by simpa using hwe
            have D4 : Hid (outE A T f = writeE (A) (f.page : Int) (outBlk f)) := hid (by unfold outE; rw [HD.out, if_pos rfl, if_pos D1.out, D2.out])
            have D5 : Hid (outF A T f = f) := hid (by unfold outF; rw [D4.out, if_neg hwe])
            have D6 : Hid (outA A T f = writeA (A) (f.page : Int) (outBlk f)) := hid (by unfold outA; rw [HD.out, if_pos rfl, if_pos D1.out, D2.out])
            have D7 : Hid (outT A T f = T) := hid (by unfold outT; rw [HD.out, if_pos rfl, D3.out])
            clear hwe
            go_wp2
            go_ret
            refine ⟨ow3, by rw [D4.out]; rfl, ?_, TW.out, O3.out⟩
            rw [D5.out, D6.out, D7.out, setF_same HS.out.pool.nodup HM.out]
            exact S3.out

end Go.Proofs.YtdccbceaajnajaaGreat

namespace Go.Proofs.YtdccbceaajnajaaGreat
open Go.RowKit
set_option linter.unusedSimpArgs false
set_option linter.unusedVariables false

theorem info154_ : (Tryz.prog.info? 91).map (fun i => (i.zero, i.size, i.bytes)) = some (some (.pointer none), 1, 8) := by kernel_rfl
set_option maxRecDepth 10000 in
theorem app_frame {ops : Array Oper} {rest : List Oper} {o : Oper} {a : Act} {w : World} {Q : Exit → Act → World → Prop} (hgd : o.guard = none) (sl x : Operand)
    (ho : o.op = .call { callee := .builtin .append, args := #[sl, x], argTypes := #[88, 88] }) (base : Nat)
    (v : Value) (n : Nat) (xs : List Value) (hs : a.eval sl = v) (hown : w.ownsRow base 91 1 v n xs) (q : Addr) (k : Nat) (hx : a.eval x = .slice (some q) 1 1)
    (hn : w.cell? q = some (.pointer (some ⟨k, 0, none⟩))) (hb : n + 1 ≤ 1000000000) (hbase : base ≤ w.heap.size)
    (h : ∀ v' w', w'.ownsRow base 91 1 v' (n + 1) (xs ++ [.pointer (some ⟨k, 0, none⟩)]) → w.grownBy w' v.ownBlock → (v'.ownBlock = v.ownBlock ∨ v'.ownBlock = some w.heap.size) → wpList Tryz.prog ops Q rest (a.put o.dst v') w') : wpList Tryz.prog ops Q (o :: rest) a w := by
  obtain ⟨i0, hi, hz0, hz1, hz2⟩ := info_parts info154_
  exact wpList_append_own_at w hgd sl x 88 ho base 91 i0 _ 1 8 Tryz.underlying88 hi hz0 hz1 hz2 rfl (by decide) v n xs hs hown q 1 1 [.pointer (some ⟨k, 0, none⟩)] hx rfl
    (fun j u hj => by
      cases j with
      | zero => simp at hj; subst hj; rw [show q.add 0 = q by simp [Addr.add]]; exact hn
      | succ j => simp at hj) (fun u hu => by simp at hu; subst hu; rfl) (by unfold maxLen; omega) (by omega) hbase fun v' w' h1 h2 _ h4 => h v' w' h1 h2 h4

def poolCells (b tb sz : Nat) (v : Value) (rd : Nat) : Array Value := #[.pointer (some ⟨b, 0, none⟩), .pointer (some ⟨tb, 0, none⟩), .int .i64 (sz : Int), v, .int .i64 (rd : Int)]
theorem pool_open {w : World} {pb b tb : Nat} {os : Option Nat} {P : APool} (h : PoolAt w pb os b tb P) : ∃ p c, w.heap[pb]? = some (.cells (poolCells b tb P.size (.slice p P.frames.length c) P.reads) 90 (0, 0)) ∧ (Value.slice p P.frames.length c).ownBlock = os ∧ w.ownsRow 0 91 1 (.slice p P.frames.length c) P.frames.length (ptrVals P.frames) := by
  obtain ⟨v, e1, e2, e3⟩ := h.base
  obtain ⟨p, c, rfl⟩ := own_len e3
  exact ⟨p, c, e1, e2, e3⟩
theorem PoolAt.not5 {w : World} {pb b tb : Nat} {os : Option Nat} {P : APool} (h : PoolAt w pb os b tb P) : Apart (fun k => k = pb ∨ os = some k) w := by
  intro k c fr hk e
  obtain ⟨c', t', e', ht⟩ := h.typed (k := k) (by rcases hk with h | h; exact .inl h; exact .inr (.inl h))
  rw [e'] at e
  injection e with e
  injection e with _ e2 _
  subst e2
  rcases ht with h | h | h <;> exact absurd h (by decide)
/-- A pool whose row has been laid anew. -/
theorem PoolAt.laid {w w' : World} {pb b tb : Nat} {os : Option Nat} {P : APool} (h : PoolAt w pb os b tb P) (ht : Turn (fun k => k = pb ∨ os = some k) w w') (v : Value) (P' : APool)
    (e1 : w'.heap[pb]? = some (.cells (poolCells b tb P'.size v P'.reads) 90 (0, 0))) (own : w'.ownsRow 0 91 1 v P'.frames.length (ptrVals P'.frames)) (nd : (P'.frames.map (·.1)).Nodup)
    (fr : ∀ p ∈ P'.frames, p ∈ P.frames ∨ FrameAt w' p.1 p.2) : PoolAt w' pb v.ownBlock b tb P' := by
  refine ⟨⟨v, e1, rfl, own⟩, fun p hp => ?_, nd⟩
  rcases fr p hp with hq | hq
  · refine (h.frames p hq).turn ht ?_ h.not5
    obtain ⟨u, k0, -⟩ := h.frames p hq
    obtain ⟨v0, b0, b1, b2⟩ := h.base
    rintro (e | e)
    · rw [e] at k0
      exact type_ne b0 k0 (by decide) rfl
    · exact own_ne b2 k0 (by decide) (b1.trans e)
  · exact hq
theorem Sys.laid {w0 w w' : World} {b tb pb : Nat} {ow ot os os' : Option Nat} {A : ADisk} {T : ATape} {P P' : APool} (h : Sys w0 w b ow tb ot pb os A T P) (ht : Turn (fun k => k = pb ∨ os = some k) w w') (hp : PoolAt w' pb os' b tb P') (ho : ∀ k, pools pb os' P' k → w0.heap.size ≤ k) : Sys w0 w' b ow tb ot pb os' A T P' := by
  have hty : ∀ k, (k = pb ∨ os = some k) → ∃ c t, w.heap[k]? = some (.cells c t (0, 0)) ∧ (t = 90 ∨ t = 91 ∨ t = 93) := fun k hk => h.pool.typed (by rcases hk with h | h; exact .inl h; exact .inr (.inl h))
  have hge : ∀ k, (k = pb ∨ os = some k) → w0.heap.size ≤ k := fun k hk => h.pp k (by rcases hk with h | h; exact .inl h; exact .inr (.inl h))
  have b90 : Apart90 (fun k => k = pb ∨ os = some k) w := fun j c fr hk hh => by
    obtain ⟨c', t, e, ht⟩ := hty j hk
    exact type_ne e hh (by rcases ht with rfl | rfl | rfl <;> decide) rfl
  obtain ⟨tv, te, -⟩ := id h.log.tape
  refine ⟨{ h.log with disk := disk_keep h.log.disk ht (fun j hj => ?_), tape := h.log.tape.turn ht (fun hk => ?_) (fun j hj hk => ?_) h.pool.not5 b90, new := Below.trans h.log.new (ht.below hge h.log.new.size) }, hp, ho⟩
  · obtain ⟨c, t, e, ht⟩ := hty j hj
    exact ⟨c, t, _, e, by rcases ht with rfl | rfl | rfl <;> decide, by rcases ht with rfl | rfl | rfl <;> decide, by rcases ht with rfl | rfl | rfl <;> decide⟩
  · obtain ⟨c, t, e, ht⟩ := hty tb hk
    exact type_ne te e (by rcases ht with rfl | rfl | rfl <;> decide) rfl
  · obtain ⟨c, t, e, ht⟩ := hty j hk
    obtain ⟨c2, hc⟩ := h.log.tape.row hj
    exact type_ne hc e (by rcases ht with rfl | rfl | rfl <;> decide) rfl

end Go.Proofs.YtdccbceaajnajaaGreat
