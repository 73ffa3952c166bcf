/- A map beside both pools; two pools on one disk. -/
import Derived.Test.YtdccbceaajnajaaGreatG1
import Derived.Test.YtdccbceaajnajaaGreatM1
namespace Go.Proofs.YtdccbceaajnajaaGreat
open Go.RowKit
set_option linter.unusedSimpArgs false
set_option linter.unusedVariables false

/-- No block of S is one of cells. -/
def NoCells (S : Nat → Prop) (w : World) : Prop := ∀ k c t fr, S k → w.heap[k]? ≠ some (.cells c t fr)
theorem noCells_map {w : World} {b : Nat} {l : List (Int × Value)} (h : IMap w b l) : NoCells (· = b) w := fun k c t fr hk e => by
  obtain ⟨es, clock, hb, _⟩ := h
  subst hk
  rw [hb] at e
  cases e
theorem noCells_range {w : World} {r b : Nat} {l todo : List (Int × Value)} (h : IRange w r b l todo) : NoCells (fun k => k = b ∨ k = r) w := fun k c t fr hk e => by
  obtain ⟨es, clock, since, seen, c0, h1, h2, h3, h4, h5⟩ := h
  rcases hk with rfl | rfl
  · rw [h1] at e
    cases e
  · rw [h4] at e
    cases e
theorem Sys.beside {w0 w w' : World} {b tb pb : Nat} {ow ot os : Option Nat} {A : ADisk} {T : ATape} {P : APool} {X : Nat → Prop} (S : Sys w0 w b ow tb ot pb os A T P) (hm : NoCells X w) (ht : Turn X w w') (hn : New w0 w') : Sys w0 w' b ow tb ot pb os A T P := by
  have a5 : Apart X w := fun k c fr hk e => hm k c _ fr hk e
  have a90 : Apart90 X w := fun k c fr hk e => hm k c _ fr hk e
  have key : ∀ k, alls b ow tb ot pb os P k → ¬ X k := fun k hk e => by
    obtain ⟨c, t, fr, e1, _⟩ := alls_typed S hk
    exact hm k c t fr e e1
  exact ⟨{ S.log with disk := S.log.disk.turn ht a5 (key _ (.inl (.inl (.inl rfl)))) (fun k hk => key k (.inl (.inl (.inr hk)))), tape := S.log.tape.turn ht (key _ (.inl (.inr (.inl rfl)))) (fun k hk => key k (.inl (.inr (.inr hk)))) a5 a90, new := hn }, S.pool.turn ht (key _ (.inr (.inl rfl))) (fun k hk => key k (.inr (.inr (.inl hk)))) (fun p hp => key _ (.inr (.inr (.inr ⟨p, hp, rfl⟩)))) a5, S.pp⟩
theorem RSys.beside {w0 w w' : World} {b rp : Nat} {ow fo : Option Nat} {R : ADisk} {T : ATape} {P : APool} {X : Nat → Prop} (S : RSys w0 w b ow rp fo R T P) (hm : NoCells X w) (ht : Turn X w w') (hn : New w0 w') : RSys w0 w' b ow rp fo R T P := by
  have key : ∀ k, refs b ow rp fo k → ¬ X k := fun k hk e => by
    obtain ⟨c, t, fr, e1, _⟩ := S.typed hk
    exact hm k c t fr e e1
  obtain ⟨v, e1, e2, e3⟩ := S.pool
  exact { S with disk := S.disk.turn ht (key _ (.inl (.inl rfl))) (fun k hk => key k (.inl (.inr hk))), pool := ⟨v, (ht.block rp (Array.getElem?_eq_some_iff.1 e1).1 (key _ (.inr (.inl rfl)))).trans e1, e2, own_turn e3 ht (fun k hk => key k (.inr (.inr (e2 ▸ hk))))⟩, new := hn }
theorem Both.beside {w0 w w' : World} {x b tb pb rb rp : Nat} {ow ot os rw fo : Option Nat} {A : ADisk} {T : ATape} {P : APool} {X : Nat → Prop} (h : Both w0 w x b ow tb ot pb os rb rw rp fo A T P) (hm : NoCells X w) (ht : Turn X w w') (hX : ∀ k, k < w0.heap.size → ¬ X k) : Both w0 w' x b ow tb ot pb os rb rw rp fo A T P := by
  have hn : New w0 w' := h.sys.log.new.turn ht hX
  exact ⟨(ht.block x (Array.getElem?_eq_some_iff.1 h.pair).1 (fun e => hm x _ _ _ e h.pair)).trans h.pair, h.sys.beside hm ht hn, h.ref.beside hm ht hn⟩
theorem set_turn (w : World) (b : Nat) (o : Obj) : Turn (· = b) w (ChangeMaps.setBlock w b o) := by
  obtain ⟨h1, h2, h3, h4, h5⟩ := setBlock_turn w b o
  exact ⟨h1, h2, h3, Nat.le_of_eq h4.symm, fun k hk hn => h5 k hn⟩
theorem only_map {T : TypeId → Prop} {w w' : World} {b : Nat} {l : List (Int × Value)} (h : IMap w b l) (ho : Only T w w') : IMap w' b l := by
  obtain ⟨es, clock, hb, h2⟩ := h
  exact ⟨es, clock, ho.block b _ hb (fun c t fr e => by cases e), h2⟩

/-- Where the frames lie behind the use of a page. -/
theorem useU_sub (A : ADisk) (T : ATape) (P : APool) (n k : Nat) : (∀ p ∈ (useU A T P n k).P.frames, p.1 = k ∨ ∃ q ∈ P.frames, q.1 = p.1) := by
  have hread : ∀ (A : ADisk) (T : ATape) (Q : APool), (∀ p ∈ Q.frames, ∃ q ∈ P.frames, q.1 = p.1) → ∀ p ∈ (readU A T Q n k).P.frames, p.1 = k ∨ ∃ q ∈ P.frames, q.1 = p.1 := fun A T Q hQ p hp => by
    by_cases h : readE A n = 0
    · have e : readU A T Q n k = ⟨0, A, T, readP Q k (frameOf n (readB A n).data.toList)⟩ := by unfold readU; rw [if_pos h]
      rw [e] at hp
      generalize frameOf n (readB A n).data.toList = fr at hp
      have hp2 : p ∈ roomOf Q ++ [(k, fr)] := hp
      rw [List.mem_append, List.mem_singleton] at hp2
      rcases hp2 with h | h
      · exact .inr (hQ p ((roomOf_sub Q).subset h))
      · exact .inl (by rw [h])
    · have e : readU A T Q n k = ⟨readE A n, A, T, Q⟩ := by unfold readU; rw [if_neg h]
      rw [e] at hp
      exact .inr (hQ p hp)
  have self : ∀ p ∈ P.frames, ∃ q ∈ P.frames, q.1 = p.1 := fun p hp => ⟨p, hp, rfl⟩
  cases hf : P.frames.findIdx? (fun p => p.2.page == n) with
  | some i =>
    cases hx : P.frames[i]? with
    | none =>
      have e : useU A T P n k = ⟨0, A, T, P⟩ := by unfold useU; rw [hf]; dsimp only; rw [hx]
      rw [e]
      exact fun p hp => .inr (self p hp)
    | some x =>
      have e : useU A T P n k = ⟨0, A, T, hitP P i x⟩ := by unfold useU; rw [hf]; dsimp only; rw [hx]
      rw [e]
      exact fun p hp => .inr (self p ((hit_step hx).mem_iff.1 hp))
  | none =>
    have e : useU A T P n k = missU A T P n k := by unfold useU; rw [hf]
    rw [e]
    by_cases hfull : P.frames.length = P.size
    · cases hx : P.frames[0]? with
      | none =>
        have e : missU A T P n k = ⟨0, A, T, P⟩ := by unfold missU; rw [if_pos hfull, hx]
        rw [e]
        exact fun p hp => .inr (self p hp)
      | some x =>
        have hset : ∀ p ∈ (setF P x.1 (outF A T x.2)).frames, ∃ q ∈ P.frames, q.1 = p.1 := fun p hp => by
          simp only [setF, List.mem_map] at hp
          obtain ⟨q, hq, rfl⟩ := hp
          refine ⟨q, hq, ?_⟩
          split
          · rfl
          · rfl
        by_cases h : outE A T x.2 = 0
        · have e : missU A T P n k = readU (outA A T x.2) (outT A T x.2) (setF P x.1 (outF A T x.2)) n k := by unfold missU; rw [if_pos hfull, hx]; dsimp only; rw [if_pos h]
          rw [e]
          exact hread _ _ _ hset
        · have e : missU A T P n k = ⟨outE A T x.2, outA A T x.2, outT A T x.2, setF P x.1 (outF A T x.2)⟩ := by unfold missU; rw [if_pos hfull, hx]; dsimp only; rw [if_neg h]
          rw [e]
          exact fun p hp => .inr (hset p hp)
    · have e : missU A T P n k = readU A T P n k := by unfold missU; rw [if_neg hfull]
      rw [e]
      exact hread _ _ _ self
theorem pageU_sub (A : ADisk) (T : ATape) (P : APool) (n : Int) (k : Nat) : (∀ p ∈ (pageU A T P n k).P.frames, p.1 = k ∨ ∃ q ∈ P.frames, q.1 = p.1) := by
  unfold pageU
  split
  · split
    · exact fun p hp => .inr ⟨p, hp, rfl⟩
    · exact useU_sub A T P _ k
  · exact fun p hp => .inr ⟨p, hp, rfl⟩
/-- Two pools on one disk, and one log. -/
structure Twin (w0 w : World) (b : Nat) (ow : Option Nat) (tb : Nat) (ot : Option Nat) (A : ADisk) (T : ATape) (pb : Nat) (os : Option Nat) (P : APool) (pc : Nat) (oc : Option Nat) (C : APool) : Prop where
  sys : Sys w0 w b ow tb ot pb os A T P
  pool : PoolAt w pc oc b tb C
  pp : ∀ k, pools pc oc C k → w0.heap.size ≤ k
  apart : ∀ k, pools pb os P k → ¬ pools pc oc C k
theorem Twin.swap {w0 w : World} {b tb pb pc : Nat} {ow ot os oc : Option Nat} {A : ADisk} {T : ATape} {P C : APool} (h : Twin w0 w b ow tb ot A T pb os P pc oc C) : Twin w0 w b ow tb ot A T pc oc C pb os P :=
  ⟨⟨h.sys.log, h.pool, h.pp⟩, h.sys.pool, h.sys.pp, fun k h1 h2 => h.apart k h2 h1⟩
/-- The first one gives a page; the disk and the log stay. -/
theorem Twin.page {w0 w w' : World} {b tb pb pc : Nat} {ow ow' ot os os' oc : Option Nat} {A : ADisk} {T : ATape} {P P' C : APool} {k : Nat} (h : Twin w0 w b ow tb ot A T pb os P pc oc C) (S : Sys w0 w' b ow' tb ot pb os' A T P') (ht : Turn (alls b ow tb ot pb os P) w w') (hk : w.heap.size ≤ k)
    (ho : ∀ j, os' = some j → os = some j ∨ w.heap.size ≤ j) (hs : ∀ p ∈ P'.frames, p.1 = k ∨ ∃ q ∈ P.frames, q.1 = p.1) : Twin w0 w' b ow' tb ot A T pb os' P' pc oc C := by
  have hlt : ∀ j, pools pc oc C j → j < w.heap.size := fun j hj => by
    obtain ⟨c, t, e, _⟩ := h.pool.typed hj
    exact (Array.getElem?_eq_some_iff.1 e).1
  have key : ∀ j, pools pc oc C j → ¬ alls b ow tb ot pb os P j := fun j hj ha => by
    rcases ha with ha | ha
    · obtain ⟨c, t, e, h1⟩ := h.pool.typed hj
      obtain ⟨c', t', e', h2⟩ := logs_apart h.sys.log ha
      rw [e] at e'
      injection e' with e'
      injection e' with _ e' _
      subst e'
      rcases h1 with rfl | rfl | rfl <;> simp at h2
    · exact h.apart j ha hj
  have a5 : Apart (alls b ow tb ot pb os P) w := fun k c fr hk e => by
    obtain ⟨c', t', fr', e', h2⟩ := alls_typed h.sys hk
    rw [e] at e'
    injection e' with e'
    injection e' with _ e' _
    subst e'
    simp [sysT] at h2
  refine ⟨S, h.pool.turn ht (key _ (.inl rfl)) (fun j hj => key j (.inr (.inl hj))) (fun p hp => key _ (.inr (.inr ⟨p, hp, rfl⟩))) a5, h.pp, fun j hj hc => ?_⟩
  rcases hj with rfl | hj | ⟨p, hp, rfl⟩
  · exact h.apart _ (.inl rfl) hc
  · rcases ho j hj with h1 | h1
    · exact h.apart j (.inr (.inl h1)) hc
    · have := hlt j hc
      omega
  · rcases hs p hp with h1 | ⟨q, hq, h1⟩
    · have := hlt _ hc
      omega
    · exact h.apart _ (.inr (.inr ⟨q, hq, h1⟩)) hc
theorem Twin.beside {w0 w w' : World} {b tb pb pc : Nat} {ow ot os oc : Option Nat} {A : ADisk} {T : ATape} {P C : APool} {X : Nat → Prop} (h : Twin w0 w b ow tb ot A T pb os P pc oc C) (hm : NoCells X w) (ht : Turn X w w') (hX : ∀ k, k < w0.heap.size → ¬ X k) : Twin w0 w' b ow tb ot A T pb os P pc oc C :=
  have hn : New w0 w' := h.sys.log.new.turn ht hX
  ⟨h.sys.beside hm ht hn, (h.swap.sys.beside hm ht hn).pool, h.pp, h.apart⟩
theorem Twin.newer {w0 w w' : World} {b tb pb pc : Nat} {ow ot os oc : Option Nat} {A : ADisk} {T : ATape} {P C : APool} (h : Twin w0 w b ow tb ot A T pb os P pc oc C) (hn : New w w') : Twin w0 w' b ow tb ot A T pb os P pc oc C :=
  ⟨h.sys.newer hn, h.pool.new hn, h.pp, h.apart⟩
/-- The map and its iterator stand while pools move. -/
theorem range_turn {w0 w w' : World} {b tb pb r bm : Nat} {ow ot os : Option Nat} {A : ADisk} {T : ATape} {P : APool} {l todo : List (Int × Value)} (h : IRange w r bm l todo) (S : Sys w0 w b ow tb ot pb os A T P) (ht : Turn (alls b ow tb ot pb os P) w w') : IRange w' r bm l todo := by
  have hm := noCells_range h
  obtain ⟨h1, h2, _⟩ := h.lt
  have key : ∀ k, (k = bm ∨ k = r) → ¬ alls b ow tb ot pb os P k := fun k hk ha => by
    obtain ⟨c, t, fr, e, _⟩ := alls_typed S ha
    exact hm k c t fr hk e
  exact h.keep (ht.block bm h2 (key _ (.inl rfl))) (ht.block r h1 (key _ (.inr rfl)))
/-- What the map of the last texts has. -/
def LastOk (A : ADisk) (P : APool) (l : List (Int × Value)) : Prop := ∀ p ∈ l, ∃ (t : Nat) (s : ByteArray), p.1 = (t : Int) ∧ t < 120 ∧ p.2 = .string s ∧ s.size ≤ 1000 ∧ Views A P t s
theorem putL_mem {l : List (Int × Value)} {n : Int} {v : Value} {p : Int × Value} (h : p ∈ putL l n v) : p = (n, v) ∨ (p ∈ l ∧ p.1 ≠ n) := by
  unfold putL at h
  split at h
  · rw [List.mem_map] at h
    obtain ⟨q, hq, rfl⟩ := h
    split
    · exact .inl rfl
    · rename_i hn
      exact .inr ⟨hq, hn⟩
  · rename_i hn
    rw [List.mem_append, List.mem_singleton] at h
    rcases h with h | h
    · refine .inr ⟨h, fun e => hn ?_⟩
      rw [List.any_eq_true]
      exact ⟨p, h, by simpa using e⟩
    · exact .inl h
theorem putL_length (l : List (Int × Value)) (n : Int) (v : Value) : (putL l n v).length ≤ l.length + 1 := by
  unfold putL
  split <;> simp
theorem delL_length {l : List (Int × Value)} {n : Int} {v : Value} (h : (n, v) ∈ l) : (delL l n).length < l.length := by
  unfold delL
  have h1 : (l.filter fun p => !(p.1 == n)).length ≤ l.length := List.length_filter_le _ _
  rcases Nat.lt_or_ge (l.filter fun p => !(p.1 == n)).length l.length with h2 | h2
  · exact h2
  · have := List.length_filter_eq_length_iff.1 (Nat.le_antisymm h1 h2) _ h
    simp at this
end Go.Proofs.YtdccbceaajnajaaGreat

namespace Go.Proofs.YtdccbceaajnajaaGreat
open Go.RowKit
set_option linter.unusedSimpArgs false
set_option linter.unusedVariables false
theorem IRange.left_eq {w : World} {r b : Nat} {l todo : List (Int × Value)} (h : IRange w r b l todo) : w.rangeLeft b r = todo.length := by
  obtain ⟨es, clock, since, seen, c0, h1, h2, h3, h4, h5, h6, h7, h8⟩ := h
  simp only [World.rangeLeft, h1, h4]
  have := congrArg List.length h8
  simpa [kvs, kvOf] using this
theorem LastOk.clear {A : ADisk} {P P' : APool} {l : List (Int × Value)} (h : LastOk A P l) (hv : ∀ n z, n < 120 → Views A P n z → Views A P' n z) : LastOk A P' l := fun p hp => by
  obtain ⟨t, s, e1, e2, e3, e4, e5⟩ := h p hp
  exact ⟨t, s, e1, e2, e3, e4, hv t s e2 e5⟩
/-- A page of the first pool of two, where all is clean. -/
def TwinBack (w0 : World) (b tb : Nat) (ot : Option Nat) (A : ADisk) (T : ATape) (pb pc : Nat) (oc : Option Nat) (P C : APool) (N i : Nat) (s : ByteArray) (S : Nat → Prop) (w : World) (e : Ending) (w' : World) : Prop :=
  ∃ p c st ow' os' P', e = .returned (.tuple #[.slice p s.size c, .int .i64 st, .int .i64 0]) ∧ Content w' (.slice p s.size c) s ∧ Twin w0 w' b ow' tb ot A T pb os' P' pc oc C ∧ Fine N (i + 1) A T P' ∧ Sound A T P' ∧ Clear P' ∧
    (∀ n z, n < 120 → Views A P n z → Views A P' n z) ∧ Turn S w w'
theorem twin_page (w0 : World) (b : Nat) (ow : Option Nat) (tb : Nat) (ot : Option Nat) (A : ADisk) (T : ATape) (pb : Nat) (os : Option Nat) (P : APool) (pc : Nat) (oc : Option Nat) (C : APool) (N i t : Nat) (s : ByteArray) (w : World) (TW : Twin w0 w b ow tb ot A T pb os P pc oc C) (F : Fine N i A T P) (S : Sound A T P) (hc : Clear P) (hi : i ≤ 2000) (ht : t < 120) (hv : Views A P t s) :
    Calls Tryz.prog 17 #[.pointer (some ⟨pb, 0, none⟩), .int .i64 (t : Int)] w (TwinBack w0 b tb ot A T pb pc oc P C N i s (alls b ow tb ot pb os P) w) := by
  refine (page_any w0 b ow tb ot pb os A T P (t : Int) (i * 40) w TW.sys (by have := F.len; have := F.most; omega) (by rw [F.size]; have := F.two; omega) F.ok F.lim (by omega) (by have := F.reads; omega)).mono ?_
  rintro e w' ⟨k, ow', os', hk, hg, S', T', _, ho⟩
  obtain ⟨g1, g2, g3, g4, g5, g6, l, x, g7, g8⟩ := page_clear (k := k) F TW.sys.pool.nodup S hc ht hv
  have hkn := frames_lt TW.sys hk
  have W := (step_page (k := k) F S.quiet.up TW.sys.pool.nodup (t : Int)).fine
  have hsub := pageU_sub A T P (t : Int) k
  generalize pageU A T P (t : Int) k = U at *
  rcases hg with ⟨h0, _⟩ | ⟨_, l', x', p, c, e1, e2, e3⟩
  · exact absurd g1 h0
  · have hx : x' = x := by
      rw [g7] at e1
      have := List.append_inj_right' e1 rfl
      injection this with this _
      exact this.symm
    subst hx
    rw [g8] at e2 e3
    rw [g2, g3] at S' W
    exact ⟨p, c, _, ow', os', U.P, e2, e3, TW.page S' T' hk ho hsub, W, g5, g4, g6, T'⟩
theorem apart_alls {w0 w : World} {b tb pb : Nat} {ow ot os : Option Nat} {A : ADisk} {T : ATape} {P : APool} (S : Sys w0 w b ow tb ot pb os A T P) : Apart (alls b ow tb ot pb os P) w := fun k c fr hk e => by
  obtain ⟨c', t', fr', e', h2⟩ := alls_typed S hk
  rw [e] at e'
  injection e' with e'
  injection e' with _ e' _
  subst e'
  simp [sysT] at h2
theorem typed_stays {w0 w w' : World} {b tb pb : Nat} {ow ot os : Option Nat} {A : ADisk} {T : ATape} {P : APool} (S : Sys w0 w b ow tb ot pb os A T P) (ht : Turn (alls b ow tb ot pb os P) w w') {x : Nat} {c : Array Value} {t : TypeId} {fr : Nat × Nat} (hx : w.heap[x]? = some (.cells c t fr)) (h : ¬ sysT t) : w'.heap[x]? = some (.cells c t fr) :=
  (ht.block x (Array.getElem?_eq_some_iff.1 hx).1 (fun ha => by
    obtain ⟨c', t', fr', e', h2⟩ := alls_typed S ha
    rw [hx] at e'
    injection e' with e'
    injection e' with _ e' _
    subst e'
    exact h h2)).trans hx
/-- A new pool beside the first. -/
theorem twin_new {w0 w w' : World} {b tb pb pc : Nat} {ow ot os : Option Nat} {A : ADisk} {T : ATape} {P : APool} {n : Nat} (S : Sys w0 w b ow tb ot pb os A T P) (S' : Sys w0 w' b ow tb ot pb os A T P) (h : PoolAt w' pc none b tb ⟨n, [], 0⟩) (hk : w.heap.size ≤ pc) : Twin w0 w' b ow tb ot A T pb os P pc none ⟨n, [], 0⟩ := by
  have hs := S.log.new.size
  refine ⟨S', h, fun k hk2 => ?_, fun k h1 h2 => ?_⟩
  · rcases hk2 with rfl | hk2 | ⟨p, hp, _⟩
    · omega
    · cases hk2
    · cases hp
  · obtain ⟨c, t, e, _⟩ := S.pool.typed h1
    have := (Array.getElem?_eq_some_iff.1 e).1
    rcases h2 with rfl | h2 | ⟨p, hp, _⟩
    · omega
    · cases h2
    · cases hp
end Go.Proofs.YtdccbceaajnajaaGreat
