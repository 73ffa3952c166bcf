/- pool.Pool.Set. pool.Pool.Out. -/
import Derived.Test.YtdccbceaajnajaaGreatQ8
namespace Go.Proofs.YtdccbceaajnajaaGreat
open Go.RowKit
set_option linter.unusedSimpArgs false
set_option linter.unusedVariables false

/-- One frame of a pool is another one now. -/
theorem Sys.put {w0 w w' : World} {b tb pb : Nat} {ow ot os : Option Nat} {A : ADisk} {T : ATape} {P : APool} (h : Sys w0 w b ow tb ot pb os A T P) {k : Nat} {f g : AFrame} (hm : (k, f) ∈ P.frames) (ht : Turn (· = k) w w') (hg : FrameAt w' k g) :
    Sys w0 w' b ow tb ot pb os A T (setF P k g) := by
  obtain ⟨v, e1, -⟩ := h.pool.frames _ hm
  have hk : w0.heap.size ≤ k := h.pp _ (.inr (.inr ⟨_, hm, rfl⟩))
  have hlt : k < w.heap.size := (Array.getElem?_eq_some_iff.1 e1).1
  have b5 : Apart (· = k) w := apart_of e1 (by decide)
  have b90 : Apart90 (· = k) w := fun j c fr hk hh => by subst hk; exact type_ne e1 hh (by decide) rfl
  obtain ⟨tv, te, -⟩ := id h.log.tape
  have nt : ¬ tb = k := fun e => by subst e; exact type_ne te e1 (by decide) rfl
  refine ⟨{ h.log with disk := disk_keep h.log.disk ht (fun j hj => by subst hj; exact ⟨_, _, _, e1, by decide, by decide, by decide⟩), tape := h.log.tape.turn ht nt (fun j hj e => ?_) b5 b90, new := Below.trans h.log.new (ht.below (fun j e => e ▸ hk) h.log.new.size) }, h.pool.put hm hg ht, fun j hj => h.pp j (setF_pools hj)⟩
  obtain ⟨c, hc⟩ := h.log.tape.row hj
  subst e
  exact type_ne hc e1 (by decide) rfl

theorem readU_blocks {A : ADisk} {T : ATape} {P : APool} {n k : Nat} : ∀ p ∈ (readU A T P n k).P.frames, (∃ q ∈ P.frames, q.1 = p.1) ∨ p.1 = k := by
  unfold readU
  split
  · intro p hp
    simp only [readP, List.mem_append, List.mem_singleton] at hp
    rcases hp with hp | rfl
    · split at hp
      · exact .inl ⟨p, List.mem_of_mem_drop hp, rfl⟩
      · exact .inl ⟨p, hp, rfl⟩
    · exact .inr rfl
  · exact fun p hp => .inl ⟨p, hp, rfl⟩
theorem setF_mem {P : APool} {k : Nat} {g : AFrame} : ∀ p ∈ (setF P k g).frames, ∃ q ∈ P.frames, q.1 = p.1 := by
  intro p hp
  simp only [setF, List.mem_map] at hp
  obtain ⟨q, hq, rfl⟩ := hp
  refine ⟨q, hq, ?_⟩
  split <;> rfl
theorem useU_blocks {A : ADisk} {T : ATape} {P : APool} {n k : Nat} : ∀ p ∈ (useU A T P n k).P.frames, (∃ q ∈ P.frames, q.1 = p.1) ∨ p.1 = k := by
  unfold useU
  split
  · split
    · rename_i x hx
      intro p hp
      simp only [hitP, List.mem_append, List.mem_singleton] at hp
      rcases hp with hp | rfl
      · exact .inl ⟨p, List.mem_of_mem_eraseIdx hp, rfl⟩
      · exact .inl ⟨p, List.mem_of_getElem? hx, rfl⟩
    · exact fun p hp => .inl ⟨p, hp, rfl⟩
  · unfold missU
    split
    · split
      · split
        · intro p hp
          rcases readU_blocks p hp with ⟨q, hq, e⟩ | e
          · obtain ⟨r, hr, e2⟩ := setF_mem q hq
            exact .inl ⟨r, hr, e2.trans e⟩
          · exact .inr e
        · intro p hp
          exact .inl (setF_mem p hp)
      · exact fun p hp => .inl ⟨p, hp, rfl⟩
    · exact readU_blocks

/-- The last frame has other bytes and another stamp, and is dirty. -/
def setLast (P : APool) (b : ByteArray) (st : Nat) : APool := match P.frames.getLast? with
  | some x => setF P x.1 ⟨x.2.page, b, st, true⟩
  | none => P
theorem setLast_snoc {P : APool} {l : List (Nat × AFrame)} {x : Nat × AFrame} (h : P.frames = l ++ [x]) (b : ByteArray) (st : Nat) : setLast P b st = setF P x.1 ⟨x.2.page, b, st, true⟩ := by
  unfold setLast
  rw [h]
  simp
/-- May a page have these bytes and this stamp? -/
def setOk (T : ATape) (b : ByteArray) (st : Int) : Bool := decide (b.size = 128) && decide (0 ≤ st) && decide (st ≤ (T.recs.length : Int))
/-- What Set returns, and what it leaves. -/
def setU (A : ADisk) (T : ATape) (P : APool) (n : Int) (b : ByteArray) (st : Int) (k : Nat) : Used :=
  if isP n && setOk T b st then
    (if A.down then ⟨7, A, T, P⟩ else
      (if (useU A T P n.toNat k).e = 0 then { useU A T P n.toNat k with P := setLast (useU A T P n.toNat k).P b st.toNat } else useU A T P n.toNat k))
  else ⟨2, A, T, P⟩
def SetBack (w0 : World) (b : Nat) (ow : Option Nat) (tb : Nat) (ot : Option Nat) (pb : Nat) (os : Option Nat) (A : ADisk) (T : ATape) (P : APool) (n : Int) (s : ByteArray) (st : Int) (w : World) (e : Ending) (w' : World) : Prop :=
  ∃ k ow' os', w.heap.size ≤ k ∧ e = .returned (.int .i64 (setU A T P n s st k).e) ∧ Sys w0 w' b ow' tb ot pb os' (setU A T P n s st k).A (setU A T P n s st k).T (setU A T P n s st k).P ∧ Turn (alls b ow tb ot pb os P) w w'

theorem frame_set {w : World} {k : Nat} {f : AFrame} (h : FrameAt w k f) {u : Value} {s : ByteArray} (hc : Content w u s) (st : Nat) :
    FrameAt (((w.setCell ⟨k, 1, none⟩ u).setCell ⟨k, 2, none⟩ (.int .i64 (st : Int))).setCell ⟨k, 3, none⟩ (.bool true)) k ⟨f.page, s, st, true⟩ ∧
    Turn (· = k) w (((w.setCell ⟨k, 1, none⟩ u).setCell ⟨k, 2, none⟩ (.int .i64 (st : Int))).setCell ⟨k, 3, none⟩ (.bool true)) := by
  obtain ⟨v, e1, -⟩ := h
  have ht := ((turn_set w k 1 u).trans (turn_set _ k 2 (.int .i64 (st : Int)))).trans (turn_set _ k 3 (.bool true))
  refine ⟨⟨u, ?_, hc.turn ht (apart_of e1 (by decide))⟩, ht⟩
  exact heap_setCell_same _ k 3 _ 93 _ (heap_setCell_same _ k 2 _ 93 _ (heap_setCell_same w k 1 _ 93 _ e1))

set_option maxHeartbeats 1600000 in
set_option maxRecDepth 100000 in
theorem set_any (w0 : World) (b : Nat) (ow : Option Nat) (tb : Nat) (ot : Option Nat) (pb : Nat) (os : Option Nat) (A : ADisk) (T : ATape) (P : APool) (n : Int) (v : Value) (s : ByteArray) (st : Int) (m : Nat) (w : World) (S : Sys w0 w b ow tb ot pb os A T P) (hv : Bytes w v s) (hvk : ∀ w', Turn (alls b ow tb ot pb os P) w w' → Bytes w' v s) (hl : P.frames.length ≤ 100000) (hz : P.size ≠ 0) (ok : ∀ p ∈ P.frames, FrameOk p.2) (L : Lim A m) (hm : m ≤ 90000) (hrd : P.reads ≤ 1000000000) (hT : T.recs.length ≤ 1000000) :
    Calls Tryz.prog 28 #[.pointer (some ⟨pb, 0, none⟩), .int .i64 n, v, .int .i64 st] w (SetBack w0 b ow tb ot pb os A T P n s st w) := by
  have HV := hid hv
  have HVK := hid hvk
  obtain ⟨vp, vc, rfl, va, vb, -⟩ := hv
  unfold maxLen at vb
  have HS := hid S
  have HOK := hid ok
  have HL := hid L
  obtain ⟨p, c, hc, hf⟩ := pool_cells S.pool
  have hsp := S.pool
  have hdk := S.log.disk
  have htp := S.log.tape
  clear S ok L hvk
  have HNO : Hid ((isP n && setOk T s st) = false → SetBack w0 b ow tb ot pb os A T P n s st w (.returned (.int .i64 2)) w) := hid fun h => by
    refine ⟨w.heap.size, ow, os, Nat.le_refl _, ?_⟩
    have : setU A T P n s st w.heap.size = ⟨2, A, T, P⟩ := by unfold setU; rw [h]; rfl
    rw [this]
    exact ⟨rfl, HS.out, Turn.refl _ _⟩
  cases hp : isP n with
  | false =>
    have H0 := hid (HNO.out (by rw [hp]; rfl))
    clear HNO
    go_enter Tryz.func28, Tryz.ntmps28
    go_wp2_with fail
    refine (asked_any pb os b tb P n _ hsp hz).mono ?_
    rintro e w' ⟨rfl, rfl⟩
    rw [hp]
    go_wp2
    go_ret
    exact H0.out
  | true =>
  cases hso : setOk T s st with
  | false =>
    have H0 := hid (HNO.out (by rw [hso, Bool.and_false]))
    clear HNO
    by_cases a1 : s.size = 128
    case neg =>
      have q1 : ((s.size : Int) == 128) = false := by simp; omega
      have q2 : ((s.size : Int) != 128) = true := by simp; omega
      clear a1 hso
      go_enter Tryz.func28, Tryz.ntmps28
      go_wp2_with fail
      refine (asked_any pb os b tb P n _ hsp hz).mono ?_
      rintro e w' ⟨rfl, rfl⟩
      rw [hp]
      go_wp2
      go_ret
      exact H0.out
    have q1 : ((s.size : Int) == 128) = true := by simp; omega
    have q2 : ((s.size : Int) != 128) = false := by simp; omega
    by_cases a2 : st < 0
    · have q3 : decide (st < 0) = true := by simpa using a2
      clear a1 hso a2
      go_enter Tryz.func28, Tryz.ntmps28
      go_wp2_with fail
      refine (asked_any pb os b tb P n _ hsp hz).mono ?_
      rintro e w' ⟨rfl, rfl⟩
      rw [hp]
      go_wp2
      go_ret
      exact H0.out
    have q3 : decide (st < 0) = false := by simpa using a2
    have q4 : decide ((T.recs.length : Int) < st) = true := by
      simp
      unfold setOk at hso
      rw [decide_eq_true a1, decide_eq_true (by omega : 0 ≤ st)] at hso
      simp at hso
      omega
    clear a1 hso a2
    go_enter Tryz.func28, Tryz.ntmps28
    go_wp2_with fail
    refine (asked_any pb os b tb P n _ hsp hz).mono ?_
    rintro e w' ⟨rfl, rfl⟩
    rw [hp]
    go_wp2_with fail
    refine (last_any tb ot b T _ htp).mono ?_
    rintro e w' ⟨rfl, rfl⟩
    go_wp2
    go_ret
    exact H0.out
  | true =>
  clear HNO
  have hso' := hso
  unfold setOk at hso'
  simp only [Bool.and_eq_true, decide_eq_true_eq] at hso'
  obtain ⟨⟨hs1, hs2⟩, hs3⟩ := hso'
  obtain ⟨sn, rfl⟩ : ∃ sn : Nat, st = (sn : Int) := ⟨st.toNat, by omega⟩
  obtain ⟨t, rfl, ht120⟩ := isP_nat hp
  have q1 : ((s.size : Int) == 128) = true := by simp; omega
  have q2 : ((s.size : Int) != 128) = false := by simp; omega
  have q3 : decide ((sn : Int) < 0) = false := by simp
  have q4 : decide ((T.recs.length : Int) < (sn : Int)) = false := by simp; omega
  have q5 : decide (T.recs.length < sn) = false := by simp; omega
  have HSZ := hid hs1
  clear hs1 hs2 hs3
  cases hd : A.down with
  | true =>
    have hu : setU A T P (t : Int) s (sn : Int) w.heap.size = ⟨7, A, T, P⟩ := by unfold setU; rw [hp, hso, hd]; rfl
    have HU := hid hu
    clear hu hso
    go_enter Tryz.func28, Tryz.ntmps28
    go_wp2_with fail
    refine (asked_any pb os b tb P _ _ hsp hz).mono ?_
    rintro e w' ⟨rfl, rfl⟩
    rw [hp]
    go_wp2_with fail
    refine (last_any tb ot b T _ htp).mono ?_
    rintro e w' ⟨rfl, rfl⟩
    go_wp2_with fail
    refine (down_any b ow A _ hdk).mono ?_
    rintro e w' ⟨rfl, rfl⟩
    rw [hd]
    go_wp2
    go_ret
    refine ⟨w.heap.size, ow, os, Nat.le_refl _, ?_⟩
    rw [HU.out]
    exact ⟨rfl, HS.out, Turn.refl _ _⟩
  | false =>
    have hu : ∀ k, setU A T P (t : Int) s (sn : Int) k = (if (useU A T P t k).e = 0 then { useU A T P t k with P := setLast (useU A T P t k).P s sn } else useU A T P t k) := fun k => by
      unfold setU
      rw [hp, hso, hd]
      rfl
    have HU := hid hu
    clear hu hso
    go_enter Tryz.func28, Tryz.ntmps28
    go_wp2_with fail
    refine (asked_any pb os b tb P _ _ hsp hz).mono ?_
    rintro e w' ⟨rfl, rfl⟩
    rw [hp]
    go_wp2_with fail
    refine (last_any tb ot b T _ htp).mono ?_
    rintro e w' ⟨rfl, rfl⟩
    go_wp2_with fail
    refine (down_any b ow A _ hdk).mono ?_
    rintro e w' ⟨rfl, rfl⟩
    rw [hd]
    go_wp2_with fail
    refine (use_any w0 b ow tb ot pb os A T P t m _ HS.out hl hz HOK.out HL.out hm hrd).mono ?_
    rintro e w1 ⟨k, ow1, os1, hk, hh, hS1, hT1, ho1, ho2⟩
    have hU := HU.out k
    have hBL := useU_blocks (A := A) (T := T) (P := P) (n := t) (k := k)
    clear HU hc hf hsp hdk htp q1 q2 q3 q4 q5
    generalize useU A T P t k = U at *
    have HS1 := hid hS1
    have HT1 := hid hT1
    have HU2 := hid hU
    have HVW := hid (HVK.out _ hT1)
    clear hS1 hT1 ho1 ho2 hU
    rcases hh with ⟨h0, rfl⟩ | ⟨h0, l, x, hx, rfl⟩
    · have q0 : (U.e == 0) = false := by simpa using h0
      have q1 : (U.e != 0) = true := by simpa using h0
      go_wp2
      go_ret
      refine ⟨k, ow1, os1, hk, ?_⟩
      rw [HU2.out, if_neg h0]
      exact ⟨rfl, HS1.out, HT1.out⟩
    · have hxm : (x.1, x.2) ∈ U.P.frames := by rw [hx]; simp
      have HXM := hid hxm
      have HX := hid hx
      clear hxm hx
      go_wp2_with fail
      refine (cloneBytes_any _ s _ HVW.out (by have := HSZ.out; omega)).mono ?_
      rintro e w5 ⟨p5, k5, rfl, hc5, hn5⟩
      have HS5 := hid (HS1.out.newer hn5)
      obtain ⟨fp, fc, gc, gf, -⟩ := frame_cells (HS5.out.pool.frames _ HXM.out)
      have HC5 := hid hc5
      have HN5 := hid hn5
      clear hc5 hn5
      go_wp2
      go_ret
      refine ⟨k, ow1, os1, hk, ?_⟩
      rw [HU2.out, if_pos h0]
      obtain ⟨g1, g2⟩ := frame_set (HS5.out.pool.frames _ HXM.out) HC5.out sn
      have hSS := HS5.out.put HXM.out g2 g1
      refine ⟨by show _ = Ending.returned (.int .i64 U.e); rw [h0]; rfl, ?_, ?_⟩
      · rw [show (({ U with P := setLast U.P s sn } : Used).P) = setF U.P x.1 ⟨x.2.page, s, sn, true⟩ from setLast_snoc HX.out s sn]
        exact hSS
      · have h1 : Turn (fun j => alls b ow tb ot pb os P j ∨ w.heap.size ≤ j) w _ := (HT1.out.mono fun _ _ h => .inl h).trans ((Turn.of_new HN5.out).trans (g2.mono fun j _ h => by
          subst h
          rcases hBL _ HXM.out with ⟨q, hq, e⟩ | e
          · exact .inl (.inr (.inr (.inr ⟨q, hq, e⟩)))
          · exact .inr (by rw [show x.1 = k from e]; exact hk)))
        exact h1.mono fun j hj h => by
          rcases h with h | h
          · exact h
          · omega
end Go.Proofs.YtdccbceaajnajaaGreat

namespace Go.Proofs.YtdccbceaajnajaaGreat
open Go.RowKit
set_option linter.unusedSimpArgs false
set_option linter.unusedVariables false

/-- What Out returns, and what it leaves. -/
def outU (A : ADisk) (T : ATape) (P : APool) (n : Int) : Used :=
  if isP n then
    (if A.down then ⟨7, A, T, P⟩ else
      match P.frames.find? (fun p => decide ((p.2.page : Int) = n)) with
      | some x => ⟨outE A T x.2, outA A T x.2, outT A T x.2, setF P x.1 (outF A T x.2)⟩
      | none => ⟨0, A, T, P⟩)
  else ⟨2, A, T, P⟩
def POutBack (w0 : World) (b : Nat) (ow : Option Nat) (tb : Nat) (ot : Option Nat) (pb : Nat) (os : Option Nat) (P : APool) (U : Used) (w : World) (e : Ending) (w' : World) : Prop :=
  ∃ ow', e = .returned (.int .i64 U.e) ∧ Sys w0 w' b ow' tb ot pb os U.A U.T U.P ∧ Turn (alls b ow tb ot pb os P) w w'
theorem find_at {l : List (Nat × AFrame)} {n : Int} {j : Nat} (hj : j < l.length) (hb : ∀ i, i < j → ∀ y, l[i]? = some y → (y.2.page : Int) ≠ n) (hp : ((l[j]).2.page : Int) = n) : l.find? (fun p => decide ((p.2.page : Int) = n)) = some l[j] := by
  induction l generalizing j with
  | nil => simp at hj
  | cons x l ih =>
    cases j with
    | zero =>
      simp only [List.getElem_cons_zero] at hp ⊢
      rw [List.find?_cons_of_pos (by simpa using hp)]
    | succ j =>
      have h0 := hb 0 (by omega) x rfl
      rw [List.find?_cons_of_neg (by simpa using h0)]
      simp only [List.getElem_cons_succ] at hp ⊢
      exact ih (by simpa using hj) (fun i hi y hy => hb (i + 1) (by omega) y (by simpa using hy)) hp
theorem find_no {l : List (Nat × AFrame)} {n : Int} (hb : ∀ i, i < l.length → ∀ y, l[i]? = some y → (y.2.page : Int) ≠ n) : l.find? (fun p => decide ((p.2.page : Int) = n)) = none := by
  rw [List.find?_eq_none]
  intro p hp
  obtain ⟨i, hi, e⟩ := List.getElem_of_mem hp
  simpa using hb i hi p (by rw [List.getElem?_eq_getElem hi, e])

set_option maxHeartbeats 1600000 in
set_option maxRecDepth 100000 in
theorem pout_any (w0 : World) (b : Nat) (ow : Option Nat) (tb : Nat) (ot : Option Nat) (pb : Nat) (os : Option Nat) (A : ADisk) (T : ATape) (P : APool) (n : Int) (m : Nat) (w : World) (S : Sys w0 w b ow tb ot pb os A T P) (hl : P.frames.length ≤ 100000) (hz : P.size ≠ 0) (ok : ∀ p ∈ P.frames, FrameOk p.2) (L : Lim A m) (hm : m ≤ 90000) :
    Calls Tryz.prog 30 #[.pointer (some ⟨pb, 0, none⟩), .int .i64 n] w (POutBack w0 b ow tb ot pb os P (outU A T P n) w) := by
  have HS := hid S
  have HOK := hid ok
  have HL := hid L
  have hsp := S.pool
  have hdk := S.log.disk
  obtain ⟨p, c, e1, e2, e3⟩ := pool_open S.pool
  have hc := cells_of e1
  have hf := frozen_of e1
  unfold poolCells at hc
  have OWN := hid e3
  have HF : Hid (∀ p ∈ P.frames, FrameAt w p.1 p.2) := hid S.pool.frames
  have HLE := hid hl
  clear S ok L e1 e2 e3 hl
  cases hp : isP n with
  | false =>
    have hu : outU A T P n = ⟨2, A, T, P⟩ := by unfold outU; rw [hp]; rfl
    rw [hu]
    go_enter Tryz.func30, Tryz.ntmps30
    go_wp2_with fail
    refine (asked_any pb os b tb P n _ hsp hz).mono ?_
    rintro e w' ⟨rfl, rfl⟩
    rw [hp]
    go_wp2
    go_ret
    exact ⟨ow, rfl, HS.out, Turn.refl _ _⟩
  | true =>
  cases hd : A.down with
  | true =>
    have hu : outU A T P n = ⟨7, A, T, P⟩ := by unfold outU; rw [hp, hd]; rfl
    rw [hu]
    go_enter Tryz.func30, Tryz.ntmps30
    go_wp2_with fail
    refine (asked_any pb os b tb P n _ hsp hz).mono ?_
    rintro e w' ⟨rfl, rfl⟩
    rw [hp]
    go_wp2_with fail
    refine (down_any b ow A _ hdk).mono ?_
    rintro e w' ⟨rfl, rfl⟩
    rw [hd]
    go_wp2
    go_ret
    exact ⟨ow, rfl, HS.out, Turn.refl _ _⟩
  | false =>
  have hu : outU A T P n = match P.frames.find? (fun p => decide ((p.2.page : Int) = n)) with
      | some x => ⟨outE A T x.2, outA A T x.2, outT A T x.2, setF P x.1 (outF A T x.2)⟩
      | none => ⟨0, A, T, P⟩ := by unfold outU; rw [hp, hd]; rfl
  obtain ⟨U, hU⟩ : ∃ U, outU A T P n = U := ⟨_, rfl⟩
  rw [hU] at hu ⊢
  have HU := hid hu
  clear hu hU
  go_enter Tryz.func30, Tryz.ntmps30
  go_wp2_with fail
  refine (asked_any pb os b tb P n _ hsp hz).mono ?_
  rintro e w' ⟨rfl, rfl⟩
  rw [hp]
  go_wp2_with fail
  refine (down_any b ow A _ hdk).mono ?_
  rintro e w' ⟨rfl, rfl⟩
  rw [hd]
  clear hsp hdk hp hd
  go_wp2
  clear hc hf
  go_loopw [7, 24] (fun _ i wr => ∃ j : Nat, j ≤ P.frames.length ∧ i = .int .i64 j ∧ w = wr ∧ Hid (∀ i, i < j → ∀ y, P.frames[i]? = some y → (y.2.page : Int) ≠ n)) (fun _ i _ => P.frames.length - (intOf i).toNat)
  case atStart => exact ⟨0, Nat.zero_le _, rfl, rfl, hid fun i hi => absurd hi (Nat.not_lt_zero _)⟩
  case round =>
    obtain ⟨j, hj, rfl, rfl, hb⟩ := hrel
    by_cases hlt : j < P.frames.length
    · obtain ⟨g, cap, e, _, hg⟩ := OWN.out.form (by omega)
      injection e with e1 e8 e9
      subst e1
      clear e8 e9
      have d0 := OWN.out.cellAt j (by omega)
      have x0 : (ptrVals P.frames)[j]? = some (.pointer (some ⟨(P.frames[j]).1, 0, none⟩)) := by simp [ptrVals, hlt]
      rw [x0] at d0
      have HFR := hid (HF.out _ (List.getElem_mem hlt))
      have HMEM := hid (List.getElem_mem hlt)
      have HOKJ := hid (HOK.out _ (List.getElem_mem hlt))
      have HFA : Hid (((P.frames[j]).2.page : Int) = n → P.frames.find? (fun p => decide ((p.2.page : Int) = n)) = some P.frames[j]) := hid fun h => find_at hlt hb.out h
      have HNX : Hid (¬ ((P.frames[j]).2.page : Int) = n → ∀ i, i < j + 1 → ∀ y, P.frames[i]? = some y → (y.2.page : Int) ≠ n) := hid fun h i hi y hy => by
        by_cases e : i < j
        · exact hb.out i e y hy
        · obtain rfl : i = j := by omega
          rw [List.getElem?_eq_getElem hlt] at hy
          injection hy with hy
          rw [← hy]
          exact h
      clear x0 hb
      generalize hx : P.frames[j] = x at *
      clear hx
      obtain ⟨fp, fc, gc, gf, -⟩ := frame_cells HFR.out
      have q9 : P.frames.length ≤ 100000 := HLE.out
      by_cases hpg : (x.2.page : Int) = n
      · have hu := HU.out
        rw [HFA.out hpg] at hu
        have HU2 := hid hu
        clear hu HU HFA HNX
        subst hpg
        go_wp2_with fail
        refine (out_any w0 b ow tb ot pb os A T P x.1 x.2 m _ HS.out HMEM.out HOKJ.out HL.out (by omega)).mono ?_
        rintro e w' ⟨ow', rfl, hS', ht', -⟩
        have HS' := hid hS'
        have HT' := hid ht'
        clear hS' ht'
        go_wp2
        go_ret
        rw [HU2.out]
        exact ⟨ow', rfl, HS'.out, HT'.out.mono fun k _ h => by
          rcases h with h | h
          · exact .inl h
          · exact .inr (.inr (.inr ⟨x, HMEM.out, h.symm⟩))⟩
      · have q0 : ((x.2.page : Int) == n) = false := by simpa using hpg
        have HNN := hid (HNX.out hpg)
        clear hpg HNX HFA
        go_wp2
        go_roundw
        case rel => exact ⟨j + 1, by omega, by go_num, trivial, HNN⟩
        case measure => simp [intOf]; omega
    · obtain rfl : j = P.frames.length := by omega
      have hu := HU.out
      rw [find_no hb.out] at hu
      have HU2 := hid hu
      clear hu HU
      go_wp2
      go_ret
      rw [HU2.out]
      exact ⟨ow, rfl, HS.out, Turn.refl _ _⟩
end Go.Proofs.YtdccbceaajnajaaGreat
