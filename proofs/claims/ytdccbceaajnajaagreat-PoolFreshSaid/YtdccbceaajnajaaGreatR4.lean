/- slices.Sort at numbers. pool.Pool.Dirty. pool.Pool.Clean. -/
import Derived.Test.YtdccbceaajnajaaGreatP9
import Derived.Test.YtdccbceaajnajaaGreatR0
import Derived.Test.YtdccbceaajnajaaGreatQ8
import Derived.Test.YtdccbceaajnajaaGreatR3
namespace Go.Proofs.YtdccbceaajnajaaGreat
open Go.RowKit Go.Sort Go.Lib
set_option linter.unusedSimpArgs false
set_option linter.unusedVariables false

def sortI (l : List Int) : List Int := l.mergeSort fun x y => decide (x ≤ y)
theorem sortI_length (l : List Int) : (sortI l).length = l.length := List.length_mergeSort _
theorem putCells_takeI (d : Array Int) (c : Array Value) (m : Nat) (h1 : m ≤ d.size) (h2 : d.size ≤ c.size) : (putCells (Value.int .i64) 0 d c).toList.take m = (d.toList.take m).map (Value.int .i64) := by
  apply List.ext_getElem?
  intro k
  by_cases hk : k < m
  · rw [List.getElem?_take, if_pos hk, List.getElem?_map, List.getElem?_take, if_pos hk, Array.getElem?_toList, Array.getElem?_toList]
    simp only [putCells, Array.getElem?_mapIdx]
    rw [Array.getElem?_eq_getElem (by omega : k < c.size), Array.getElem?_eq_getElem (by omega : k < d.size)]
    simp only [Option.map_some]
    rw [if_pos ⟨Nat.zero_le _, by omega⟩, Nat.sub_zero, getElem!_pos d k (by omega)]
  · rw [List.getElem?_eq_none (by rw [List.length_take]; omega), List.getElem?_eq_none (by rw [List.length_map, List.length_take]; omega)]
theorem heap_putRowI (w : World) (g : Nat) (d : Array Int) (k : Nat) : (putRow (Value.int .i64) w g 0 d).heap[k]? = if g = k then w.heap[k]?.map (onCells (putCells (Value.int .i64) 0 d)) else w.heap[k]? := by
  simp only [putRow, mapBlock, Array.getElem?_modify]
theorem sort_any (w0 : World) (v : Value) (l : List Int) (w : World) (hn : New w0 w) (hown : w.ownsRow w0.heap.size 3 1 v l.length (l.map fun n : Int => Value.int .i64 n)) (hl : l.length ≤ 1000000) :
    Calls Tryz.prog 46 #[v] w fun e w' => e = .returned (.tuple #[]) ∧ w'.ownsRow w0.heap.size 3 1 v l.length ((sortI l).map fun n : Int => Value.int .i64 n) ∧ New w0 w' := by
  by_cases h0 : l.length = 0
  · obtain rfl : l = [] := List.eq_nil_of_length_eq_zero h0
    obtain ⟨q, k, rfl⟩ := own_len hown
    refine (Any.slices_Sort_int_none Tryz.laysSort q k w).mono ?_
    rintro e w' ⟨rfl, rfl⟩
    have e : sortI [] = [] := by simp [sortI]
    rw [e]
    exact ⟨rfl, hown, hn⟩
  rcases hown.2 with ⟨e, h0⟩ | ⟨g, cap, cur, rfl, hg, hh, hcap, hmax, hs, ht⟩
  · omega
  have hcur : ∀ j, j < l.length → cur[j]? = some (.int .i64 l[j]!) := fun j hj => by
    have := congrArg (fun m => m[j]?) ht
    simp only [Nat.mul_one] at this
    rw [List.getElem?_take, if_pos hj, Array.getElem?_toList] at this
    rw [this, List.getElem?_map, List.getElem?_eq_getElem hj, getElem!_pos l j hj]
    rfl
  have hH : Holds (Value.int .i64) w g 0 l.toArray := fun j hj => by
    have hj' : j < l.length := by simpa using hj
    refine ⟨?_, frozen_of hh _⟩
    rw [Nat.zero_add, cells_of hh, hcur j hj']
    simp
  have hgl : g < w.heap.size := (Array.getElem?_eq_some_iff.1 hh).1
  have key := Go.calls_of_every_depth fun D => AnyS.slices_Sort_int_alone Tryz.laysSort D g 0 cap l w hH hgl (by omega)
  refine Calls.mono key ?_
  rintro e w' ⟨rfl, n, os, rfl⟩
  obtain ⟨D, hD⟩ : ∃ D : List Int, D = sortI l := ⟨_, rfl⟩
  have hd : D.length = l.length := by rw [hD, sortI_length]
  have hD2 : (l.mergeSort fun x y => decide (x ≤ y)) = D := hD.symm
  rw [hD2, ← hD]
  refine ⟨rfl, ⟨by simp [hd], .inr ⟨g, cap, putCells (Value.int .i64) 0 D.toArray cur, rfl, hg, ?_, hcap, hmax, ?_, ?_⟩⟩, ?_⟩
  · rw [heap_grow_old _ _ (by simp; exact hgl), heap_putRowI, if_pos rfl]
    show w.heap[g]?.map _ = _
    rw [hh]
    rfl
  · simp only [putCells, Array.size_mapIdx]
    exact hs
  · rw [Nat.mul_one, ← hd, putCells_takeI _ _ _ (by simp) (by rw [List.size_toArray]; omega)]
    simp
  · refine Below.trans hn ⟨rfl, rfl, rfl, by simp [grow, Sort.ahead, putRow, mapBlock], fun k hk => ?_⟩
    rw [heap_grow_old _ _ (by simp; exact Nat.lt_of_lt_of_le hk hn.size), heap_putRowI, if_neg (by omega)]
    rfl

end Go.Proofs.YtdccbceaajnajaaGreat

namespace Go.Proofs.YtdccbceaajnajaaGreat
open Go.RowKit
set_option linter.unusedSimpArgs false
set_option linter.unusedVariables false

def dirtyL (l : List (Nat × AFrame)) : List (Nat × AFrame) := l.filter fun p => p.2.dirty
/-- The pages of dirty frames, in order. -/
def dirtyOf (P : APool) : List Int := sortI ((dirtyL P.frames).map fun p => (p.2.page : Int))

set_option maxHeartbeats 1600000 in
set_option maxRecDepth 100000 in
theorem dirty_any (pb : Nat) (os : Option Nat) (b tb : Nat) (P : APool) (w : World) (h : PoolAt w pb os b tb P) (hs : P.size ≠ 0) (hl : P.frames.length ≤ 100000) : Calls Tryz.prog 15 #[.pointer (some ⟨pb, 0, none⟩)] w fun e w' => ∃ v, e = .returned v ∧ w'.ownsRow w.heap.size 3 1 v (dirtyOf P).length ((dirtyOf P).map fun n : Int => Value.int .i64 n) ∧ New w w' := by
  obtain ⟨p, c, e1, e2, e3⟩ := pool_open h
  have hc := cells_of e1
  unfold poolCells at hc
  have OWN := hid e3
  have HF := hid h.frames
  have HL := hid hl
  clear h e1 e2 e3 hl
  go_enter Tryz.func15, Tryz.ntmps15
  go_wp2_with fail
  refine (pnone_no pb _ _ (hc 2) (by omega)).mono ?_
  rintro e w' ⟨rfl, rfl⟩
  go_wp2
  clear hc
  go_loopw [3, 5, 13] (fun v _ i wr => ∃ j : Nat, j ≤ P.frames.length ∧ i = .int .i64 j ∧ Hid (New w wr) ∧ ∃ d : Nat, Hid (d = (dirtyL (P.frames.take j)).length) ∧ (∃ q k, v = .slice q d k) ∧ Hid (wr.ownsRow w.heap.size 3 1 v d (pageVals (dirtyL (P.frames.take j))))) (fun _ _ i _ => P.frames.length - (intOf i).toNat)
  case atStart => exact ⟨0, Nat.zero_le _, rfl, hid (New.refl _), 0, hid rfl, ⟨_, _, rfl⟩, hid (World.ownsRow_nil _ _ _ _)⟩
  case round =>
    obtain ⟨j, hj, rfl, hn, d, hdl, ⟨q, k, rfl⟩, hown⟩ := hrel
    by_cases hlt : j < P.frames.length
    · have ho := own_old OWN.out hn.out
      obtain ⟨g, cap, e, _, hg⟩ := ho.form (by omega)
      injection e with e1 e8 e9
      subst e1
      clear e8 e9
      have d0 := ho.cellAt j (by omega)
      have x0 : (ptrVals P.frames)[j]? = some (.pointer (some ⟨(P.frames[j]).1, 0, none⟩)) := by simp [ptrVals, hlt]
      rw [x0] at d0
      have HFR := hid ((HF.out _ (List.getElem_mem hlt)).new hn.out)
      have HTK : Hid (dirtyL (P.frames.take (j + 1)) = dirtyL (P.frames.take j) ++ (if (P.frames[j]).2.dirty then [P.frames[j]] else [])) := hid (by
        unfold dirtyL
        rw [← List.take_append_getElem hlt, List.filter_append]
        cases h : (P.frames[j]).2.dirty <;> simp [h])
      have HDB : Hid (d ≤ 100000) := hid (by
        have h1 := hdl.out
        have h2 : (dirtyL (P.frames.take j)).length ≤ (P.frames.take j).length := List.length_filter_le _ _
        have h3 := List.length_take_le j P.frames
        have := HL.out
        omega)
      clear x0 ho
      generalize hx : P.frames[j] = x at *
      clear hx
      obtain ⟨fp, fc, gc, gf, -⟩ := frame_cells HFR.out
      have q9 : P.frames.length ≤ 100000 := HL.out
      cases hdr : x.2.dirty with
      | true =>
        rw [hdr] at HTK gc
        have N1 : Hid (New wr (wr.alloc (.cells #[.int .i64 (x.2.page : Int)] 3))) := hid ((New.refl wr).alloc _ _)
        go_wp2_with (at_builtin; refine app_int rfl _ _ rfl w.heap.size _ d _ rfl (own_old hown.out N1.out) ⟨wr.heap.size, 0, none⟩ (x.2.page : Int) rfl ?cn ?cb ?cc ?_)
        case cb => have := HDB.out; omega
        case cc => exact Nat.le_trans hn.out.size (Nat.le_succ _)
        intro v4 w4 own4 grow4 blk4
        obtain ⟨p4, c4, rfl⟩ := own_len own4
        have N4 : Hid (New w w4) := hid ((hn.out.trans N1.out).grown grow4 (Nat.le_trans hn.out.size N1.out.size) (fun k hk => (hown.out.lt k hk).1))
        have OWN4 := hid own4
        clear own4 grow4 blk4 gc gf d0
        go_wp2
        go_roundw
        case rel => exact ⟨j + 1, by omega, by go_num, N4, d + 1, hid (by rw [HTK.out, hdl.out]; simp), ⟨_, _, rfl⟩, by
          rw [HTK.out]
          have := OWN4.out
          exact hid (by simpa [pageVals] using this)⟩
        case measure => simp [intOf]; omega
      | false =>
        rw [hdr] at HTK gc
        go_wp2
        go_roundw
        case rel => exact ⟨j + 1, by omega, by go_num, hn, d, hid (by rw [HTK.out, hdl.out]; simp), ⟨_, _, rfl⟩, hid (by rw [HTK.out]; simpa using hown.out)⟩
        case measure => simp [intOf]; omega
    · obtain rfl : j = P.frames.length := by omega
      have HD : Hid (wr.ownsRow w.heap.size 3 1 (.slice q d k) ((dirtyL P.frames).map fun p => (p.2.page : Int)).length (((dirtyL P.frames).map fun p => (p.2.page : Int)).map fun n : Int => Value.int .i64 n)) := hid (by
        have h1 := hown.out
        have h2 := hdl.out
        rw [List.take_length] at h1 h2
        rw [List.length_map, ← h2, List.map_map]
        exact h1)
      have HB : Hid (((dirtyL P.frames).map fun p => (p.2.page : Int)).length ≤ 1000000) := hid (by
        rw [List.length_map]
        have h2 : (dirtyL P.frames).length ≤ P.frames.length := List.length_filter_le _ _
        have := HL.out
        omega)
      clear hown hdl
      go_wp2_with fail
      refine (sort_any w _ _ _ hn.out HD.out HB.out).mono ?_
      rintro e w' ⟨rfl, hi, hn'⟩
      have HI := hid hi
      have HN := hid hn'
      clear hi hn'
      go_wp2
      go_ret
      refine ⟨_, rfl, ?_, HN.out⟩
      have h1 := HI.out
      have e : (dirtyOf P).length = ((dirtyL P.frames).map fun p => (p.2.page : Int)).length := sortI_length _
      rw [e]
      exact h1
end Go.Proofs.YtdccbceaajnajaaGreat

namespace Go.Proofs.YtdccbceaajnajaaGreat
open Go.RowKit
set_option linter.unusedSimpArgs false
set_option linter.unusedVariables false

/-- The pages of a list go out, up to the first that fails. -/
def outs : List Int → ADisk → ATape → APool → Used
  | [], A, T, P => ⟨0, A, T, P⟩
  | n :: l, A, T, P => if (outU A T P n).e = 0 then outs l (outU A T P n).A (outU A T P n).T (outU A T P n).P else outU A T P n
theorem outs_snoc (l : List Int) (n : Int) (A : ADisk) (T : ATape) (P : APool) : outs (l ++ [n]) A T P = if (outs l A T P).e = 0 then outU (outs l A T P).A (outs l A T P).T (outs l A T P).P n else outs l A T P := by
  induction l generalizing A T P with
  | nil =>
    simp only [List.nil_append, outs, if_true]
    split
    · rename_i h
      rw [← h]
    · rfl
  | cons m l ih =>
    simp only [List.cons_append, outs]
    split
    · rw [ih]
    · rfl
theorem outs_stuck (l r : List Int) (A : ADisk) (T : ATape) (P : APool) (h : (outs l A T P).e ≠ 0) : outs (l ++ r) A T P = outs l A T P := by
  induction r generalizing l with
  | nil => simp
  | cons n r ih =>
    have e : l ++ n :: r = (l ++ [n]) ++ r := by simp
    have e2 : outs (l ++ [n]) A T P = outs l A T P := by rw [outs_snoc, if_neg h]
    rw [e, ih _ (by rw [e2]; exact h), e2]
/-- What Clean returns, and what it leaves. -/
def cleanU (A : ADisk) (T : ATape) (P : APool) : Used :=
  if (outs (dirtyOf P) A T P).e = 0 then ⟨actE (outs (dirtyOf P) A T P).A, flushA (outs (dirtyOf P) A T P).A, (outs (dirtyOf P) A T P).T, (outs (dirtyOf P) A T P).P⟩ else outs (dirtyOf P) A T P
/-- The same blocks, the same pages. -/
structure Alike (P Q : APool) : Prop where
  blocks : Q.frames.map (·.1) = P.frames.map (·.1)
  size : Q.size = P.size
theorem Alike.refl (P : APool) : Alike P P := ⟨rfl, rfl⟩
theorem Alike.trans {P Q R : APool} (h : Alike P Q) (k : Alike Q R) : Alike P R := ⟨k.blocks.trans h.blocks, k.size.trans h.size⟩
theorem Alike.len {P Q : APool} (h : Alike P Q) : Q.frames.length = P.frames.length := by have := congrArg List.length h.blocks; simpa using this
theorem Alike.pools {P Q : APool} (h : Alike P Q) {pb : Nat} {os : Option Nat} {k : Nat} (hk : pools pb os Q k) : pools pb os P k := by
  rcases hk with hk | hk | ⟨p, hp, e⟩
  · exact .inl hk
  · exact .inr (.inl hk)
  · have : p.1 ∈ Q.frames.map (·.1) := List.mem_map.2 ⟨p, hp, rfl⟩
    rw [h.blocks] at this
    obtain ⟨q, hq, e2⟩ := List.mem_map.1 this
    exact .inr (.inr ⟨q, hq, e2.trans e⟩)
theorem outU_alike (A : ADisk) (T : ATape) (P : APool) (n : Int) : Alike P (outU A T P n).P := by
  unfold outU
  split
  · split
    · exact Alike.refl P
    · split
      · exact ⟨setF_blocks P _ _, rfl⟩
      · exact Alike.refl P
  · exact Alike.refl P
theorem outU_ok {A : ADisk} {T : ATape} {P : APool} {n : Int} (h : ∀ p ∈ P.frames, FrameOk p.2) : ∀ p ∈ (outU A T P n).P.frames, FrameOk p.2 := by
  unfold outU
  split
  · split
    · exact h
    · split
      · rename_i x hx
        exact setF_ok h (outF_ok (h x (List.mem_of_find?_eq_some hx)))
      · exact h
  · exact h
theorem outU_lim {A : ADisk} {T : ATape} {P : APool} {n : Int} {m : Nat} (h : Lim A m) : Lim (outU A T P n).A (m + 2) := by
  unfold outU
  split
  · split
    · exact h.mono (by omega)
    · split
      · exact h.out T _
      · exact h.mono (by omega)
  · exact h.mono (by omega)
/-- Only blocks of cells of some types have turned. -/
structure Only (T : TypeId → Prop) (w w' : World) : Prop where
  os : w'.os = w.os
  tape : w'.tape = w.tape
  output : w'.output = w.output
  size : w.heap.size ≤ w'.heap.size
  block : ∀ (k : Nat) (o : Obj), w.heap[k]? = some o → (∀ c t fr, o = .cells c t fr → ¬ T t) → w'.heap[k]? = some o
theorem Only.trans {T : TypeId → Prop} {a b c : World} (h : Only T a b) (k : Only T b c) : Only T a c :=
  ⟨k.os.trans h.os, k.tape.trans h.tape, k.output.trans h.output, Nat.le_trans h.size k.size, fun i o ho ht => k.block i o (h.block i o ho ht) ht⟩
theorem Only.of_new {T : TypeId → Prop} {w w' : World} (h : New w w') : Only T w w' :=
  ⟨h.os, h.tape, h.output, h.size, fun k o ho _ => (h.block k (Array.getElem?_eq_some_iff.1 ho).1).trans ho⟩
theorem Only.refl {T : TypeId → Prop} (w : World) : Only T w w := Only.of_new (New.refl w)
theorem Only.of_turn {T : TypeId → Prop} {S : Nat → Prop} {w w' : World} (h : Turn S w w') (hS : ∀ k, S k → ∃ c t fr, w.heap[k]? = some (Obj.cells c t fr) ∧ T t) : Only T w w' :=
  ⟨h.os, h.tape, h.output, h.size, fun k o ho ht => (h.block k (Array.getElem?_eq_some_iff.1 ho).1 (fun hs => by
    obtain ⟨c, t, fr, e, h1⟩ := hS k hs
    rw [ho] at e
    injection e with e
    exact ht c t fr e h1)).trans ho⟩
theorem Only.turn {T : TypeId → Prop} {w w' : World} (h : Only T w w') : Turn (fun k => ∃ c t fr, w.heap[k]? = some (Obj.cells c t fr) ∧ T t) w w' :=
  ⟨h.os, h.tape, h.output, h.size, fun k hk hn => by
    obtain ⟨o, ho⟩ : ∃ o, w.heap[k]? = some o := ⟨_, Array.getElem?_eq_getElem hk⟩
    rw [ho]
    exact h.block k o ho (fun c t fr e ht => hn ⟨c, t, fr, by rw [ho, e], ht⟩)⟩
theorem Only.cells {T : TypeId → Prop} {w w' : World} (h : Only T w w') {k : Nat} {c : Array Value} {t : TypeId} {fr : Nat × Nat} (hk : w.heap[k]? = some (Obj.cells c t fr)) (ht : ¬ T t) : w'.heap[k]? = some (Obj.cells c t fr) :=
  h.block k _ hk (fun c' t' fr' e => by injection e with _ e _; rw [← e]; exact ht)
/-- The types of a disk, a log and a pool. -/
def sysT (t : TypeId) : Prop := t = 80 ∨ t = 111 ∨ t = 87 ∨ t = 70 ∨ t = 90 ∨ t = 91 ∨ t = 93
theorem alls_typed {w0 w : World} {b tb pb : Nat} {ow ot os : Option Nat} {A : ADisk} {T : ATape} {P : APool} (S : Sys w0 w b ow tb ot pb os A T P) {k : Nat} (h : alls b ow tb ot pb os P k) : ∃ c t fr, w.heap[k]? = some (Obj.cells c t fr) ∧ sysT t := by
  rcases h with h | h
  · obtain ⟨c, t, e, ht⟩ := logs_apart S.log h
    exact ⟨c, t, _, e, by rcases ht with rfl | rfl | rfl | rfl <;> simp [sysT]⟩
  · obtain ⟨c, t, e, ht⟩ := S.pool.typed h
    exact ⟨c, t, _, e, by rcases ht with rfl | rfl | rfl <;> simp [sysT]⟩
theorem Sys.only {w0 w w' : World} {b tb pb : Nat} {ow ot os : Option Nat} {A : ADisk} {T : ATape} {P : APool} (S : Sys w0 w b ow tb ot pb os A T P) (h : Turn (alls b ow tb ot pb os P) w w') : Only sysT w w' := Only.of_turn h fun _ hk => alls_typed S hk

theorem own_only {T : TypeId → Prop} {w w' : World} {base : Nat} {e : TypeId} {sz : Nat} {v : Value} {n : Nat} {xs : List Value} (h : w.ownsRow base e sz v n xs) (ho : Only T w w') (ht : ¬ T e) : w'.ownsRow base e sz v n xs := by
  refine ⟨h.1, ?_⟩
  rcases h.2 with h | ⟨g, cap, cur, h1, h2, h3, h4⟩
  · exact .inl h
  · exact .inr ⟨g, cap, cur, h1, h2, ho.cells h3 ht, h4⟩
/-- The disk moved; all else stands. -/
theorem Sys.flushed {w0 w w' : World} {b tb pb : Nat} {ow ot os : Option Nat} {A A' : ADisk} {T : ATape} {P : APool} {v : Value} {e : Ending} (S : Sys w0 w b ow tb ot pb os A T P) (hm : DiskMoved b ow v A' w e w') :
    ∃ ow', e = .returned v ∧ Sys w0 w' b ow' tb ot pb os A' T P ∧ Turn (alls b ow tb ot pb os P) w w' := by
  obtain ⟨ow', he, hL, ht, -⟩ := S.log.moved hm
  have ht' : Turn (logs b ow tb ot) w w' := ht.mono fun _ _ h => .inl h
  exact ⟨ow', he, S.moved hL ht', ht'.mono fun _ _ h => .inl h⟩
/-- What holds in front of the next page of Clean. -/
structure Cleaning (w0 wr : World) (b : Nat) (tb : Nat) (ot : Option Nat) (pb : Nat) (os : Option Nat) (P : APool) (U : Used) (m : Nat) : Prop where
  sys : ∃ ow, Sys w0 wr b ow tb ot pb os U.A U.T U.P
  alike : Alike P U.P
  ok : ∀ p ∈ U.P.frames, FrameOk p.2
  lim : Lim U.A m
  zero : U.e = 0
def CleanBack (w0 : World) (b : Nat) (tb : Nat) (ot : Option Nat) (pb : Nat) (os : Option Nat) (U : Used) (w : World) (e : Ending) (w' : World) : Prop :=
  ∃ ow', e = .returned (.int .i64 U.e) ∧ Sys w0 w' b ow' tb ot pb os U.A U.T U.P ∧ Only sysT w w'
theorem dirtyOf_length (P : APool) : (dirtyOf P).length ≤ P.frames.length := by
  unfold dirtyOf
  rw [sortI_length, List.length_map]
  exact List.length_filter_le _ _

set_option maxHeartbeats 1600000 in
set_option maxRecDepth 100000 in
theorem clean_any (w0 : World) (b : Nat) (ow : Option Nat) (tb : Nat) (ot : Option Nat) (pb : Nat) (os : Option Nat) (A : ADisk) (T : ATape) (P : APool) (m : Nat) (w : World) (S : Sys w0 w b ow tb ot pb os A T P) (hl : P.frames.length ≤ 16) (hz : P.size ≠ 0) (ok : ∀ p ∈ P.frames, FrameOk p.2) (L : Lim A m) (hm : m ≤ 50000) :
    Calls Tryz.prog 14 #[.pointer (some ⟨pb, 0, none⟩)] w (CleanBack w0 b tb ot pb os (cleanU A T P) w) := by
  obtain ⟨p, c, hc, hf⟩ := pool_cells S.pool
  have HS := hid S
  have HOK := hid ok
  have HL := hid L
  have hsp := S.pool
  have HDL : Hid ((dirtyOf P).length ≤ 16) := hid (Nat.le_trans (dirtyOf_length P) hl)
  obtain ⟨U, hU⟩ : ∃ U, cleanU A T P = U := ⟨_, rfl⟩
  obtain ⟨l, hdl⟩ : ∃ l, dirtyOf P = l := ⟨_, rfl⟩
  have hu := hU
  unfold cleanU at hu
  rw [hdl] at hu HDL
  rw [hU]
  have HU := hid hu
  have HDD := hid hdl
  clear S ok L hU hu hdl
  go_enter Tryz.func14, Tryz.ntmps14
  go_wp2_with fail
  refine (pnone_no pb _ _ (hc 2) (by omega)).mono ?_
  rintro e w' ⟨rfl, rfl⟩
  go_wp2_with fail
  refine (dirty_any pb os b tb P _ hsp hz (by omega)).mono ?_
  rintro e w1 ⟨v1, rfl, hi1, n1⟩
  rw [HDD.out] at hi1
  obtain ⟨vp, vc, rfl⟩ := own_len hi1
  have S1 := hid (HS.out.newer n1)
  have C1 : Hid (Cleaning w0 w1 b tb ot pb os P ⟨0, A, T, P⟩ m) := hid ⟨⟨ow, S1.out⟩, Alike.refl P, HOK.out, HL.out, rfl⟩
  have O1 : Hid (Only sysT w w1) := hid (Only.of_new n1)
  have OWN := hid hi1
  clear hsp hc hf n1 hi1 S1
  go_wp2
  go_loopw [4, 5, 11] (fun _ _ i wr => ∃ j : Nat, j ≤ l.length ∧ i = .int .i64 j ∧ Hid (Only sysT w wr) ∧ Hid (wr.ownsRow w.heap.size 3 1 (.slice vp l.length vc) l.length (l.map fun n : Int => Value.int .i64 n)) ∧ Hid (Cleaning w0 wr b tb ot pb os P (outs (l.take j) A T P) (m + 2 * j))) (fun _ _ i _ => l.length - (intOf i).toNat)
  case atStart => exact ⟨0, Nat.zero_le _, rfl, O1, OWN, by simpa [outs] using C1⟩
  case round =>
    obtain ⟨j, hj, rfl, hon, hown, hcl⟩ := hrel
    have q9 : l.length ≤ 16 := HDL.out
    by_cases hlt : j < l.length
    · obtain ⟨g, cap, e, _, hg⟩ := hown.out.form (by omega)
      injection e with e1 e8 e9
      subst e1
      clear e8 e9
      have d0 := hown.out.cellAt j (by omega)
      rw [List.getElem?_map, List.getElem?_eq_getElem hlt] at d0
      simp only [Option.map_some] at d0
      have HTK : Hid (outs (l.take (j + 1)) A T P = outU (outs (l.take j) A T P).A (outs (l.take j) A T P).T (outs (l.take j) A T P).P l[j]) := hid (by
        rw [← List.take_append_getElem hlt, outs_snoc, if_pos hcl.out.zero])
      have HST : Hid ((outU (outs (l.take j) A T P).A (outs (l.take j) A T P).T (outs (l.take j) A T P).P l[j]).e ≠ 0 → outs l A T P = outU (outs (l.take j) A T P).A (outs (l.take j) A T P).T (outs (l.take j) A T P).P l[j]) := hid fun h => by
        have e1 : l = l.take (j + 1) ++ l.drop (j + 1) := (List.take_append_drop _ _).symm
        have e2 := outs_stuck (l.take (j + 1)) (l.drop (j + 1)) A T P (by rw [HTK.out]; exact h)
        rw [← e1] at e2
        rw [e2, HTK.out]
      generalize hn : l[j] = n at *
      clear hn
      obtain ⟨V, hV⟩ : ∃ V, outs (l.take j) A T P = V := ⟨_, rfl⟩
      rw [hV] at HTK HST hcl
      clear hV
      obtain ⟨⟨ow1, hS1⟩, hal, hok, hlim, hzero⟩ := hcl.out
      have HS1 := hid hS1
      have HAL := hid hal
      have HOK1 := hid hok
      have HLIM := hid hlim
      clear hcl hS1 hal hok hlim hzero
      go_wp2_with fail
      refine (pout_any w0 b ow1 tb ot pb os V.A V.T V.P n (m + 2 * j) _ HS1.out (by rw [HAL.out.len]; omega) (by rw [HAL.out.size]; exact hz) HOK1.out HLIM.out (by omega)).mono ?_
      rintro e w2 ⟨ow2, rfl, hS2, ht2⟩
      have hal2 := HAL.out.trans (outU_alike V.A V.T V.P n)
      have hok2 := outU_ok (A := V.A) (T := V.T) (n := n) HOK1.out
      have hlim2 := outU_lim (T := V.T) (P := V.P) (n := n) HLIM.out
      have HON2 := hid (hon.out.trans (HS1.out.only ht2))
      have HOWN2 : Hid (w2.ownsRow w.heap.size 3 1 (.slice (some ⟨g, 0, none⟩) l.length vc) l.length (l.map fun n : Int => Value.int .i64 n)) := hid (own_only hown.out (HS1.out.only ht2) (by simp [sysT]))
      generalize outU V.A V.T V.P n = U2 at *
      have HS2 := hid hS2
      have HAL2 := hid hal2
      have HOK2 := hid hok2
      have HLIM2 := hid hlim2
      clear hS2 ht2 hal2 hok2 hlim2 d0
      by_cases h0 : U2.e = 0
      · have q0 : (U2.e == 0) = true := by simpa using h0
        have q1 : (U2.e != 0) = false := by simpa using h0
        have HZ := hid h0
        clear h0
        go_wp2
        go_roundw
        case rel => exact ⟨j + 1, by omega, by go_num, HON2, HOWN2, hid (by rw [HTK.out]; exact ⟨⟨ow2, HS2.out⟩, HAL2.out, HOK2.out, HLIM2.out, HZ.out⟩)⟩
        case measure => simp [intOf]; omega
      · have q0 : (U2.e == 0) = false := by simpa using h0
        have q1 : (U2.e != 0) = true := by simpa using h0
        have hu := HU.out
        have hst := HST.out h0
        rw [hst, if_neg h0] at hu
        have HU2 := hid hu
        clear hu hst h0
        go_wp2
        go_ret
        rw [← HU2.out]
        exact ⟨ow2, rfl, HS2.out, HON2.out⟩
    · obtain rfl : j = l.length := by omega
      rw [List.take_length] at hcl
      obtain ⟨V, hV⟩ : ∃ V, outs l A T P = V := ⟨_, rfl⟩
      have hu := HU.out
      rw [hV] at hcl hu
      rw [if_pos hcl.out.zero] at hu
      have HU2 := hid hu
      obtain ⟨⟨ow1, hS1⟩, hal, hok, hlim, hzero⟩ := hcl.out
      have HS1 := hid hS1
      have HLIM := hid hlim
      obtain ⟨p3, c3, hc3, hf3⟩ := pool_cells hS1.pool
      clear hu hV hcl hS1 hal hok hlim hzero hown
      go_wp2_with fail
      refine (flush_any b ow1 V.A _ HS1.out.log.disk (by have := HLIM.out.falls; omega) (by have := HLIM.out.acts; omega) (by have := HLIM.out.waits; omega)).mono ?_
      intro e w2 hm2
      obtain ⟨ow2, he2, hS2, ht2⟩ := HS1.out.flushed hm2
      subst he2
      have HS2 := hid hS2
      have HON2 := hid (hon.out.trans (HS1.out.only ht2))
      clear hm2 hS2 ht2
      go_wp2
      go_ret
      rw [← HU2.out]
      exact ⟨ow2, rfl, HS2.out, HON2.out⟩
end Go.Proofs.YtdccbceaajnajaaGreat
