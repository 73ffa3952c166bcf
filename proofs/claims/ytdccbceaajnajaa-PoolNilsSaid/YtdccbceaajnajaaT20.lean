/- Rows of opens that grow, beside a reader and a record: for the two Decodes at a mark. -/
import Derived.Test.YtdccbceaajnajaaT18
import Derived.Deep.Onto
import Derived.Test.YtdccbceaajnajaaT13
namespace Go.Proofs.Ytdccbceaajnajaa
open Go.RowKit
set_option linter.unusedSimpArgs false
set_option linter.unusedVariables false
set_option linter.unusedSectionVars false


theorem info90 : (Try.prog.info? 99).map (fun i => (i.zero, i.size, i.bytes)) = some (some (.agg #[.int .i64 0, .int .i64 0, .string ByteArray.empty]), 3, 32) := by kernel_rfl

set_option maxRecDepth 10000 in
/-- append(row, u): one open. -/
theorem app_opens {ops : Array Oper} {rest : List Oper} {o : Oper} {a : Act} {w : World} {Q : Exit → Act → World → Prop} (hgd : o.guard = none) (sl x : Operand)
    (ho : o.op = .call { callee := .builtin .append, args := #[sl, x], argTypes := #[67, 67] }) (base : Nat)
    (v : Value) (n : Nat) (xs : List Value) (hs : a.eval sl = v) (hown : w.ownsRow base 99 3 v n xs) (q : Addr) (u0 u1 : Int) (u2 : ByteArray) (hx : a.eval x = .slice (some q) 1 1)
    (hn0 : w.cell? q = some (.int .i64 u0)) (hn1 : w.cell? (q.add 1) = some (.int .i64 u1)) (hn2 : w.cell? (q.add 2) = some (.string u2)) (hb : n + 1 ≤ 1000000) (hbase : base ≤ w.heap.size)
    (h : ∀ v' w', w'.ownsRow base 99 3 v' (n + 1) (xs ++ [.int .i64 u0, .int .i64 u1, .string u2]) → w.grownBy w' v.ownBlock → (v'.ownBlock = v.ownBlock ∨ v'.ownBlock = some w.heap.size) → wpList Try.prog ops Q rest (a.put o.dst v') w') : wpList Try.prog ops Q (o :: rest) a w := by
  obtain ⟨i0, hi, hz0, hz1, hz2⟩ := info_parts info90
  exact wpList_append_own_at w hgd sl x 67 ho base 99 i0 _ 3 32 Try.underlying67 hi hz0 hz1 hz2 rfl (by decide) v n xs hs hown q 1 1 [.int .i64 u0, .int .i64 u1, .string u2] hx rfl
    (fun j u hj => by
      match j with
      | 0 => simp at hj; subst hj; rw [show q.add 0 = q by simp [Addr.add]]; exact hn0
      | 1 => simp at hj; subst hj; exact hn1
      | 2 => simp at hj; subst hj; exact hn2
      | j + 3 => simp at hj) (fun u hu => by simp at hu; rcases hu with rfl | rfl | rfl <;> rfl) (by unfold maxLen; omega) (by omega) hbase fun v' w' h1 h2 _ h4 => h v' w' h1 h2 h4

theorem rdOpens_snoc : ∀ (k : Nat) (s : RS), rdOpens (k + 1) s = ((rdOpens k s).1 ++ [⟨(rdNum (rdOpens k s).2).1, (rdNum (rdNum (rdOpens k s).2).2).1, (rdText (rdNum (rdNum (rdOpens k s).2).2).2).1⟩], (rdText (rdNum (rdNum (rdOpens k s).2).2).2).2) := by
  intro k
  induction k with
  | zero => intro s; simp [rdOpens]
  | succ k ih =>
    intro s
    have e1 : rdOpens (k + 1 + 1) s = (⟨(rdNum s).1, (rdNum (rdNum s).2).1, (rdText (rdNum (rdNum s).2).2).1⟩ :: (rdOpens (k + 1) (rdText (rdNum (rdNum s).2).2).2).1, (rdOpens (k + 1) (rdText (rdNum (rdNum s).2).2).2).2) := rfl
    have e2 : rdOpens (k + 1) s = (⟨(rdNum s).1, (rdNum (rdNum s).2).1, (rdText (rdNum (rdNum s).2).2).1⟩ :: (rdOpens k (rdText (rdNum (rdNum s).2).2).2).1, (rdOpens k (rdText (rdNum (rdNum s).2).2).2).2) := rfl
    rw [e1, ih, e2]
    simp
theorem rdOpens_length : ∀ (k : Nat) (s : RS), (rdOpens k s).1.length = k
  | 0, _ => rfl
  | k + 1, s => by
    have e2 : rdOpens (k + 1) s = (⟨(rdNum s).1, (rdNum (rdNum s).2).1, (rdText (rdNum (rdNum s).2).2).1⟩ :: (rdOpens k (rdText (rdNum (rdNum s).2).2).2).1, (rdOpens k (rdText (rdNum (rdNum s).2).2).2).2) := rfl
    rw [e2, List.length_cons, rdOpens_length k]
theorem rdOpens_next {k : Nat} {s s1 s2 s3 : RS} {a b : Int} {t : ByteArray} (h1 : rdNum (rdOpens k s).2 = (a, s1)) (h2 : rdNum s1 = (b, s2)) (h3 : rdText s2 = (t, s3)) : rdOpens (k + 1) s = ((rdOpens k s).1 ++ [⟨a, b, t⟩], s3) := by
  rw [rdOpens_snoc, h1, h2, h3]

/-- As DS, and a block of one open beside it. -/
structure DU (Rd : World → Nat → RS → Prop) (F : List (Nat × Array Value × TypeId)) (w0 w : World) (b x : Nat) (r : Rec) (bv av uv : Value) (s : RS) (ub : Nat) (c : Array Value) : Prop where
  ds : DS Rd F w0 w b x r bv av uv s
  u : w.heap[ub]? = some (.cells c 99 (0, 0))
  ne : uv.ownBlock ≠ some ub
  hub : w0.heap.size ≤ ub
section
variable {Rd : World → Nat → RS → Prop} {T : TypeId} (L : RdLaw Rd T) {F : List (Nat × Array Value × TypeId)} {w0 w w' : World} {b x : Nat} {r : Rec} {bv av uv : Value} {s : RS} {ub : Nat} {c : Array Value}
include L
theorem DU.start (h : DS Rd F w0 w b x r bv av uv s) (c : Array Value) : DU Rd F w0 (w.alloc (.cells c 99)) b x r bv av uv s w.heap.size c :=
  ⟨h.newer L ((New.refl w).alloc c 99), heap_alloc_new w _, fun e => by
    have := h.un
    rcases this.2 with ⟨e2, _⟩ | ⟨g, cap, cur, e2, hg, hh, rr⟩
    · rw [e2] at e; simp [Value.ownBlock] at e
    · rw [e2] at e; simp only [Value.ownBlock, Option.some.injEq] at e; subst e
      have := (Array.getElem?_eq_some_iff.1 hh).1
      omega, h.new.size⟩
theorem DU.read {s' : RS} (h : DU Rd F w0 w b x r bv av uv s ub c) (hr : Rd w' x s') (ht : Turn (· = x) w w') : DU Rd F w0 w' b x r bv av uv s' ub c := by
  obtain ⟨d, hd⟩ := L.typed h.ds.rd
  exact ⟨h.ds.read L hr ht, by rw [ht.block ub (Array.getElem?_eq_some_iff.1 h.u).1 (type_ne h.u hd (fun e => L.n90 e.symm))]; exact h.u, h.ne, h.hub⟩
theorem DU.put (h : DU Rd F w0 w b x r bv av uv s ub c) (i : Nat) (v : Value) (c' : Array Value) (hc : c.setIfInBounds i v = c') : DU Rd F w0 (w.setCell ⟨ub, i, none⟩ v) b x r bv av uv s ub c' := by
  subst hc
  have ht : Turn (· = ub) w (w.setCell ⟨ub, i, none⟩ v) := Turn.setCell (S := (· = ub)) (p := ⟨ub, i, none⟩) (Turn.refl _ w) rfl v
  obtain ⟨d, hd⟩ := L.typed h.ds.rd
  refine ⟨h.ds.turn L ht (fun e => type_ne h.ds.rc h.u (by decide) e) (fun e => type_ne hd h.u L.n90 e) (fun p hp e => ?_) (apart_of h.u (by decide)) (fun k hk e => h.ne (e ▸ hk)) (fun k e => e ▸ h.hub), heap_setCell_same w ub i c 99 v h.u, h.ne, h.hub⟩
  obtain ⟨h1, h2⟩ := h.ds.oth p hp
  exact type_ne h1 h.u h2.2.2 e
/-- The record's row has one more. -/
theorem DS.grow (h : DS Rd F w0 w b x r bv av uv s) {w1 w2 : World} (hn : New w w1) {v' : Value} {a d : Int} {t : ByteArray} (hown : w2.ownsRow w0.heap.size 99 3 v' (r.units.length + 1) (opnVals r.units ++ [.int .i64 a, .int .i64 d, .string t]))
    (hg : w1.grownBy w2 uv.ownBlock) (r' : Rec) (hr' : r' = { r with units := r.units ++ [⟨a, d, t⟩] }) : DS Rd F w0 (w2.setCell ⟨b, 9, none⟩ v') b x r' bv av v' s := by
  subst hr'
  have h1 := h.newer L hn
  have ht : Turn (fun k => uv.ownBlock = some k) w1 w2 := Turn.grown (Turn.refl _ w1) hg (fun k _ e => e)
  have hA := apart_own h1.un (show (99 : TypeId) ≠ 5 by decide)
  obtain ⟨d', hd⟩ := L.typed h1.rd
  have e1 : w2.heap[b]? = some (.cells (recCells r bv av uv) 69 (0, 0)) := by
    rw [ht.block b (Array.getElem?_eq_some_iff.1 h1.rc).1 (own_ne h1.un h1.rc (by decide))]; exact h1.rc
  have hx : ¬ (uv.ownBlock = some x) := own_ne h1.un hd L.n90
  have h2 : Turn (· = b) w2 (w2.setCell ⟨b, 9, none⟩ v') := turn_set w2 b 9 v'
  have hA2 := apart_of e1 (by decide)
  have hrd : Rd w2 x s := L.turn h1.rd ht hx hA
  have ho : w2.ownsRow w0.heap.size 99 3 v' ({ r with units := r.units ++ [⟨a, d, t⟩] } : Rec).units.length (opnVals ({ r with units := r.units ++ [⟨a, d, t⟩] } : Rec).units) := by
    have e : opnVals (r.units ++ ([⟨a, d, t⟩] : List Opn)) = opnVals r.units ++ [.int .i64 a, .int .i64 d, .string t] := by simp [opnVals]
    show w2.ownsRow w0.heap.size 99 3 v' (r.units ++ ([⟨a, d, t⟩] : List Opn)).length (opnVals (r.units ++ ([⟨a, d, t⟩] : List Opn)))
    rw [e, List.length_append]; exact hown
  refine ⟨heap_setCell_same w2 b 9 _ 69 v' e1, L.turn hrd h2 (fun e => h1.ne L e.symm) hA2, fun p hp => ?_, (h1.bef.turn ht hA).turn h2 hA2, (h1.aft.turn ht hA).turn h2 hA2, own_turn ho h2 (fun k hk e => own_ne ho e1 (by decide) (e ▸ hk)), ?_, h.hb, h.hx⟩
  · obtain ⟨q1, q2⟩ := h1.oth p hp
    refine ⟨?_, q2⟩
    have e3 : w2.heap[p.1]? = some (.cells p.2.1 p.2.2 (0, 0)) := by rw [ht.block p.1 (Array.getElem?_eq_some_iff.1 q1).1 (own_ne h1.un q1 q2.2.2)]; exact q1
    rw [h2.block p.1 (Array.getElem?_eq_some_iff.1 e3).1 q2.1]; exact e3
  · exact (Below.trans h1.new (ht.below (fun k e => own_from h1.un k e) h1.new.size)).trans (h2.below (fun k e => e ▸ h.hb) (Nat.le_trans h1.new.size ht.size))
omit L
theorem DU.ucells (h : DU Rd F w0 w b x r bv av uv s ub c) : ∀ o, w.cell? ⟨ub, o, none⟩ = c[o]? := cells_of h.u
theorem DU.ufrozen (h : DU Rd F w0 w b x r bv av uv s ub c) : ∀ o, w.frozen? ⟨ub, o, none⟩ = false := frozen_of h.u
end

end Go.Proofs.Ytdccbceaajnajaa
