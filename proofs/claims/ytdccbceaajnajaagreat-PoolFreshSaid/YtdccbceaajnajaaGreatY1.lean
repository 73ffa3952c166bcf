/- A region that draws its order, by one invariant over what has come up: one proof an operation, whatever the order. -/
import Derived.RegionTactic
import Derived.Maps.AppendAt
import Derived.Test.YtdccbceaajnajaaGreatA9
namespace Go.Proofs.YtdccbceaajnajaaGreat
open Go.RowKit
set_option linter.unusedSimpArgs false
set_option linter.unusedVariables false

/-- How many operations have not come up. -/
def openN (l : List Bool) : Nat := l.countP fun b => !b
theorem openN_set : ∀ (l : List Bool) (i : Nat), l[i]? = some false → openN (l.set i true) + 1 = openN l
  | [], i, h => by simp at h
  | b :: l, 0, h => by
    simp at h
    subst h
    simp [openN]
  | b :: l, i + 1, h => by
    have ih := openN_set l i (by simpa using h)
    cases b <;> simp [openN] at * <;> omega
theorem openN_zero : ∀ (l : List Bool), openN l = 0 → ∀ i, i < l.length → l[i]? = some true
  | [], _, i, hi => by simp at hi
  | b :: l, h, i, hi => by
    cases b with
    | false => simp [openN] at h
    | true =>
      cases i with
      | zero => rfl
      | succ i =>
        have := openN_zero l (by simpa [openN] using h) i (by simpa using hi)
        simpa using this
/-- Each operation waits for earlier ones alone. -/
def waitsBack (ops : Array Oper) : Bool := (List.range ops.size).all fun i => ((ops[i]?).map fun o => o.after.all fun e => decide (e.on < i)).getD true
theorem waitsBack_at {ops : Array Oper} (h : waitsBack ops = true) {i : Nat} {o : Oper} (ho : ops[i]? = some o) : ∀ e ∈ o.after, e.on < i := by
  have hi : i < ops.size := (Array.getElem?_eq_some_iff.1 ho).1
  unfold waitsBack at h
  rw [List.all_eq_true] at h
  have := h i (List.mem_range.2 hi)
  rw [ho] at this
  simp only [Option.map_some, Option.getD_some, Array.all_eq_true_iff_forall_mem, decide_eq_true_eq] at this
  exact this

section
variable {P : Program} {ops : Array Oper} {Q : Exit → Act → World → Prop} {md : Region.Mode}
theorem wpAny_inv (Inv : (Nat → Bool) → Act → World → Prop) (hord : waitsBack ops = true)
    (hstep : ∀ L a w i o, Inv L a w → L i = false → ops[i]? = some o → (o.after.all fun e => !Region.binds md e || L e.on) = true → ∀ K : Act → World → Prop, (∀ a' w', Inv (fun j => j == i || L j) a' w' → K a' w') →
      if Region.wanted o (yielded ops a.tmps) = true then Oper.wp P o a w K Q else K (a.put o.dst undef) w)
    (hdone : ∀ L a w, Inv L a w → (∀ i, i < ops.size → L i = true) → Q .normal a w) :
    ∀ (fuel : Nat) (listed : Array Bool) (a : Act) (w : World), listed.size = ops.size → openN listed.toList ≤ fuel → Inv (fun j => listed.getD j false) a w → wpAny P md ops Q fuel listed a w := by
  intro fuel
  induction fuel with
  | zero =>
    intro listed a w hs hn hi
    have hz := openN_zero listed.toList (by omega)
    have hall : ∀ i, i < ops.size → listed.getD i false = true := fun i h => by
      have := hz i (by simp; omega)
      rw [Array.getElem?_toList] at this
      simp [Array.getD_eq_getD_getElem?, this]
    refine ⟨?_, hdone _ a w hi hall⟩
    apply List.eq_nil_iff_forall_not_mem.2
    intro j hj
    obtain ⟨h0, o, ho, _⟩ := mem_ready.1 hj
    have hjl : j < ops.size := (Array.getElem?_eq_some_iff.1 ho).1
    have := hz j (by simp; omega)
    rw [Array.getElem?_toList] at this
    simp [Array.getD_eq_getD_getElem?, this] at h0
  | succ fuel ih =>
    intro listed a w hs hn hi
    refine ⟨fun hr => ?_, fun i hir => ?_⟩
    · refine hdone _ a w hi ?_
      have key : ∀ n, ∀ i, i < n → i < ops.size → listed.getD i false = true := by
        intro n
        induction n with
        | zero => intro i h; omega
        | succ n ihn =>
          intro i h1 h2
          cases hl : listed.getD i false with
          | true => rfl
          | false =>
            exfalso
            have ho : ops[i]? = some ops[i] := Array.getElem?_eq_getElem h2
            have hm : i ∈ Region.ready md ops listed := mem_ready.2 ⟨by
              rw [Array.getD_eq_getD_getElem?] at hl ⊢
              rw [Array.getElem?_eq_getElem (by omega : i < listed.size)] at hl ⊢
              exact hl, _, ho, fun e he _ => ihn _ (by have := waitsBack_at hord ho e he; omega) (by have := waitsBack_at hord ho e he; omega)⟩
            rw [hr] at hm
            cases hm
      exact fun i h => key (i + 1) i (by omega) h
    · obtain ⟨h0, o, ho, hd⟩ := mem_ready.1 hir
      have hil : i < ops.size := (Array.getElem?_eq_some_iff.1 ho).1
      have h1 : listed.toList[i]? = some false := by
        rw [Array.getD_eq_getD_getElem?, Array.getElem?_eq_getElem (by omega : i < listed.size)] at h0
        rw [Array.getElem?_toList, Array.getElem?_eq_getElem (by omega : i < listed.size)]
        simpa using h0
      have h2 : listed.getD i false = false := by
        rw [Array.getElem?_toList] at h1
        simp [Array.getD_eq_getD_getElem?, h1]
      have hcl := openN_set listed.toList i h1
      refine wpOp_step ho (fun K hK => hstep _ a w i o hi h2 ho ?_ K (fun a' w' h => hK a' w' (ih _ a' w' (by simpa using hs) (by simp; omega) ?_)))
      · rw [Array.all_eq_true_iff_forall_mem]
        intro e he
        cases hb : Region.binds md e with
        | false => rfl
        | true => simpa using hd e he hb
      · have hf : (fun j => (listed.setIfInBounds i true).getD j false) = fun j => j == i || listed.getD j false := by
          funext j
          by_cases hij : j = i
          · subst hij
            simp [Array.getD_eq_getD_getElem?, (by omega : j < listed.size)]
          · rw [getD_set_ne false (fun e => hij e.symm)]
            simp [hij]
        rw [hf]
        exact h
theorem wp_region_inv {id : Nat} {a : Act} {w : World} (Inv : (Nat → Bool) → Act → World → Prop) (hm : P.follows .mixedOrders = true) (hord : waitsBack ops = true) (h0 : Inv (fun _ => false) a w.drew)
    (hstep : ∀ L a w i o, Inv L a w → L i = false → ops[i]? = some o → (o.after.all fun e => !Region.binds .any e || L e.on) = true → ∀ K : Act → World → Prop, (∀ a' w', Inv (fun j => j == i || L j) a' w' → K a' w') →
      if Region.wanted o (yielded ops a.tmps) = true then Oper.wp P o a w K Q else K (a.put o.dst undef) w)
    (hdone : ∀ L a w, Inv L a w → (∀ i, i < ops.size → L i = true) → Q .normal a w) : (Code.region id ops true).wp P Q a w := by
  refine wp_region_any hm ?_
  refine wpAny_inv (md := .any) Inv hord hstep hdone _ _ _ _ (by simp) ?_ ?_
  · simp [openN, List.countP_replicate]
  · have e : (fun j => (Array.replicate ops.size false).getD j false) = fun _ => false := by
      funext j
      simp [Array.getD_eq_getD_getElem?, Array.getElem?_replicate]
      split <;> rfl
    rw [e]
    exact h0
/-- An append, as a step. -/
theorem step_append_at {o : Oper} {a : Act} {w : World} {K : Act → World → Prop} {E : Prop} (hgd : o.guard = none) (s x : Operand) (t : TypeId)
    (ho : o.op = .call { callee := .builtin .append, args := #[s, x], argTypes := #[t, t] })
    (base : Nat) (e : TypeId) (i : TypeInfo) (z : Value) (size bytes : Nat) (ht : P.underlying t = some (.slice e)) (hi : P.info? e = some i) (hz : i.zero = some z)
    (hsize : i.size = size) (hby : i.bytes = bytes) (hzs : z.cells.size = size) (hsz : 0 < size)
    (v : Value) (n : Nat) (xs : List Value) (hs : a.eval s = v) (hown : w.ownsRow base e size v n xs)
    (ad : Addr) (m c : Nat) (news : List Value) (hx : a.eval x = .slice (some ad) m c) (hl : news.length = m * size) (hnews : ∀ j u, news[j]? = some u → w.cell? (ad.add j) = some u) (h1 : ∀ u ∈ news, u.oneCell' = true)
    (h63 : n + m ≤ maxLen) (hbytes : (n + m) * bytes ≤ 140737488355328) (hbase : base ≤ w.heap.size)
    (h : ∀ v' w', w'.ownsRow base e size v' (n + m) (xs ++ news) → w.grownBy w' v.ownBlock → (v' = .slice none 0 0 ↔ v = .slice none 0 0 ∧ m = 0) → (v'.ownBlock = v.ownBlock ∨ v'.ownBlock = some w.heap.size) → K (a.put o.dst v') w') :
    if Region.wanted o (yielded ops a.tmps) = true then Oper.wp P o a w K Q else E := by
  have hw : Region.wanted o (yielded ops a.tmps) = true := by simp [Region.wanted, hgd]
  rw [if_pos hw]
  obtain ⟨v', w', hr, h2, h3, h4, h5⟩ := run_append_own_at (P := P) w base t o.type e i z size bytes ht hi hz hsize hby hzs hsz v n xs hown ad m c news hl hnews h1 h63 hbytes hbase
  unfold Oper.wp execOp
  simp only [ho, resolve, invoke, builtin, Sem.run_bind, Sem.run_pure, Result.andThen_ok, List.map_toArray, List.map_cons, List.map_nil, hs, hx, hr]
  exact h v' w' h2 h3 h4 h5
end
end Go.Proofs.YtdccbceaajnajaaGreat
