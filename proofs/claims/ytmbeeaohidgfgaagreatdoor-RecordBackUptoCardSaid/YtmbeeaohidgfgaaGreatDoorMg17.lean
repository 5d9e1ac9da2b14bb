/- Parts: DeltaP, DelA, EmptyP, OpR. -/
import Derived.Test.YtmbeeaohidgfgaaGreatDoorMg11
import Derived.Test.YtmbeeaohidgfgaaGreatDoorMg16
import Derived.Test.YtmbeeaohidgfgaaGreatDoorMg08
import Derived.Test.YtmbeeaohidgfgaaGreatDoorMg06
import Derived.Test.YtmbeeaohidgfgaaGreatDoorMg01
import Derived.Maps.AppendAt
/- Plain: what an op makes of a graph; graphs that a call owns. -/
namespace Go.Proofs.YtmbeeaohidgfgaaGreatDoor
open Go Go.RowKit

def unsetE (r : List Prp) (nm : ByteArray) : Int := if recE r = 0 then (if rhas r nm then 0 else 5) else recE r
def unsetR (r : List Prp) (nm : ByteArray) : List Prp := if unsetE r nm = 0 then r.take (rpos r nm) ++ r.drop (rpos r nm + 1) else []
def recAt (l : List Nod) (id : Int) : List Prp := match l[fpos l id]? with | some n => n.props | none => []

/-! ### Lists -/
section
variable {D : Type} {n : Nat} {enc : D → List Value}
end

/-! ### What is kept -/
structure Kept {D : Type} (p : D → Bool) (l dk : List D) (j i : Nat) : Prop where
  len : dk.length = l.length
  lt : i < j
  le : j ≤ l.length
  low : dk.take i = (l.take j).filter (fun x => !p x)
  high : dk.drop j = l.drop j
theorem take_snoc {D : Type} {l : List D} {j : Nat} {d : D} (h : l[j]? = some d) : l.take (j + 1) = l.take j ++ [d] := by
  rw [List.take_add_one, h]; rfl
theorem Kept.at {D : Type} {p : D → Bool} {l dk : List D} {j i : Nat} (h : Kept p l dk j i) (_hj : j < l.length) : dk[j]? = l[j]? := by
  have := congrArg (fun x => x[0]?) h.high
  simpa using this
theorem Kept.skip {D : Type} {p : D → Bool} {l dk : List D} {j i : Nat} {d : D} (h : Kept p l dk j i) (hd : l[j]? = some d) (hp : p d = true) : Kept p l dk (j + 1) i := by
  have hjl := (List.getElem?_eq_some_iff.1 hd).1
  refine ⟨h.len, by have := h.lt; omega, by omega, ?_, ?_⟩
  · rw [take_snoc hd, List.filter_append, h.low]; simp [hp]
  · have := congrArg (List.drop 1) h.high
    simpa using this
theorem Kept.keep {D : Type} {p : D → Bool} {l dk : List D} {j i : Nat} {d : D} (h : Kept p l dk j i) (hd : l[j]? = some d) (hp : p d = false) : Kept p l (dk.set i d) (j + 1) (i + 1) := by
  have hj := (List.getElem?_eq_some_iff.1 hd).1
  have hlt := h.lt
  have hl := h.len
  refine ⟨by rw [List.length_set]; exact hl, by omega, by omega, ?_, ?_⟩
  · rw [take_snoc hd, List.filter_append, ← h.low, take_snoc (l := dk.set i d) (j := i) (d := d) (by rw [List.getElem?_set]; simp; omega), List.take_set_of_le (Nat.le_refl _)]
    simp [hp]
  · rw [List.drop_set_of_lt (by omega)]
    have := congrArg (List.drop 1) h.high
    simpa using this
theorem Kept.done {D : Type} {p : D → Bool} {l dk : List D} {i : Nat} (h : Kept p l dk l.length i) : dk.take i = l.filter (fun x => !p x) ∧ (l.filter (fun x => !p x)).length = i := by
  have e := h.low
  rw [List.take_length] at e
  refine ⟨e, ?_⟩
  rw [← e, List.length_take]
  have := h.lt; have := h.len; omega
/-! ### The model: clear -/
theorem grownBy_setRow {w : World} {g : Nat} {xs : Array Value} : w.grownBy (w.setRow g xs) (some g) :=
  ⟨rfl, rfl, rfl, by simp, fun k _ hk => setRow_other w g k _ (fun e => hk (by rw [e]))⟩
section
variable {P : Program}
theorem run_clear_q (w : World) (t ty e te : TypeId) (i0 : TypeInfo) (z : Value) (size : Nat) (ht : P.underlying t = some (.slice e)) (hi : P.info? e = some i0) (hz : i0.zero = some z) (hzs : z.cells.size = size) (h1 : ∀ u ∈ z.cells, u.oneCell' = true)
    (g o n c : Nat) (cur : Array Value) (hg : w.heap[g]? = some (.cells cur te (0, 0))) (hn : 0 < n) (hs : 0 < size) (hfit : o + n * size ≤ cur.size) :
    (Builtin.clear_ #[t] ty #[.slice (some ⟨g, o, none⟩) n c]).run P w = .ok (.tuple #[]) (w.setRow g (lay cur.toList o (Builtin.zeroCells z.cells n).toList).toArray) := by
  have hzl : (Builtin.zeroCells z.cells n).toList.length = n * size := by rw [Array.length_toList, size_zeroCells, hzs]
  have hone : ∀ u ∈ (Builtin.zeroCells z.cells n).toList, u.oneCell' = true := by
    intro u hu
    simp only [Builtin.zeroCells, Array.toList_map, List.mem_map] at hu
    obtain ⟨k, _, rfl⟩ := hu
    have hlt : k % z.cells.size < z.cells.size := Nat.mod_lt _ (by omega)
    rw [getElem!_pos z.cells _ hlt]
    exact h1 _ (Array.getElem_mem hlt)
  have hst := run_storeCells_at P g o te (Builtin.zeroCells z.cells n).toList 0 cur w hg (by rw [hzl]; omega) hone
  obtain ⟨m, rfl⟩ : ∃ m, n = m + 1 := ⟨n - 1, by omega⟩
  unfold lay
  simp [Builtin.clear_, run_underlying ht, zeroValue, typeInfo, hi, hz, hst]
theorem Own.clear {w : World} {B : Nat} {e : TypeId} {g o n c i : Nat} {xs : List Value} (t : TypeId) (i0 : TypeInfo) (z : Value) (size : Nat) (ht : P.underlying t = some (.slice e)) (hi : P.info? e = some i0) (hz : i0.zero = some z) (hzs : z.cells.size = size) (h1' : z.cells.all (fun u => u.oneCell') = true) (hs : 0 < size)
    (h : Own w B e size (.slice (some ⟨g, o, none⟩) n c) n xs) (hin : i < n) :
    ∃ w', (∀ ty c', (Builtin.clear_ #[t] ty #[.slice (some ⟨g, o + i * size, none⟩) (n - i) c']).run P w = .ok (.tuple #[]) w') ∧ Own w' B e size (.slice (some ⟨g, o, none⟩) i c) i (xs.take (i * size)) ∧ w.grownBy w' (some g) := by
  have h1 : ∀ u ∈ z.cells, u.oneCell' = true := fun u hu => Array.all_eq_true_iff_forall_mem.1 h1' u hu
  rcases h.2 with ⟨h0, _⟩ | ⟨g', o', cap, cur, hv, hb, hg, h2, h3, h4, h5⟩
  · cases h0
  · injection hv with e1 _ e3
    injection e1 with e1
    injection e1 with e1 e2
    subst e1; subst e2; subst e3
    have hni : (n - i) * size + i * size = n * size := by rw [← Nat.add_mul]; congr 1; omega
    have hnc : n * size ≤ c * size := Nat.mul_le_mul_right _ h2
    have hic : i * size ≤ n * size := Nat.mul_le_mul_right _ (by omega)
    have hzl : (Builtin.zeroCells z.cells (n - i)).toList.length = (n - i) * size := by rw [Array.length_toList, size_zeroCells, hzs]
    refine ⟨_, fun ty c' => run_clear_q w t ty e e i0 z size ht hi hz hzs h1 g (o + i * size) (n - i) c' cur hg (by omega) hs (by omega), ⟨by rw [List.length_take, h.1]; omega, .inr ⟨g, o, c, _, rfl, hb, setRow_heap w g cur _ e _ hg, by omega, h3, ?_, ?_⟩⟩, grownBy_setRow⟩
    · rw [List.size_toArray, lay_length (by rw [hzl, Array.length_toList]; omega), Array.length_toList]; omega
    · show ((lay cur.toList (o + i * size) _).drop o).take (i * size) = _
      unfold lay
      rw [List.append_assoc, List.drop_append_of_le_length (by rw [List.length_take, Array.length_toList]; omega), List.take_append_of_le_length (by rw [List.length_drop, List.length_take, Array.length_toList]; omega), ← h5, List.take_take, Nat.min_eq_left hic, List.drop_take, List.take_take]
      congr 1
      omega
theorem wpList_clear_q (w : World) {ops : Array Oper} {rest : List Oper} {o : Oper} {a : Act} {Q : Exit → Act → World → Prop} (hgd : o.guard = none) (s : Operand) (t : TypeId)
    (ho : o.op = .call { callee := .builtin .clear, args := #[s], argTypes := #[t] }) (v : Value) (hs : a.eval s = v) {v' : Value} {w' : World}
    (hr : (Builtin.clear_ #[t] o.type #[v]).run P w = .ok v' w') (h : wpList P ops Q rest (a.put o.dst v') w') : wpList P ops Q (o :: rest) a w := by
  refine wpList_plain hgd fun _ hK => ?_
  unfold Oper.wp execOp
  simp only [ho, resolve, invoke, builtin, Sem.run_bind, Sem.run_pure, Result.andThen_ok, List.map_toArray, List.map_cons, List.map_nil, hs, hr]
  exact hK _ _ h
end
/-- The first k of it. -/
theorem Own.first {w : World} {B : Nat} {e : TypeId} {sz g o n c : Nat} {xs : List Value} (h : Own w B e sz (.slice (some ⟨g, o, none⟩) n c) n xs) {k : Nat} (hk : k ≤ n) : Own w B e sz (.slice (some ⟨g, o, none⟩) k c) k (xs.take (k * sz)) := by
  rcases h.2 with ⟨h0, _⟩ | ⟨g', o', cap, cur, hv, hb, hg, h2, h3, h4, h5⟩
  · cases h0
  · injection hv with e1 _ e3
    injection e1 with e1
    injection e1 with e1 e2
    subst e1; subst e2; subst e3
    have hic : k * sz ≤ n * sz := Nat.mul_le_mul_right _ hk
    refine ⟨by rw [List.length_take, h.1]; omega, .inr ⟨g, o, c, cur, rfl, hb, hg, by omega, h3, h4, ?_⟩⟩
    rw [← h5, List.take_take, Nat.min_eq_left hic]

open Go

theorem chain_pw {D : Type} {R : D → D → Bool} (tr : ∀ a b c, R a b = true → R b c = true → R a c = true) : ∀ {l : List D}, chain R l = true ↔ l.Pairwise fun a b => R a b = true
  | [] => by simp [chain]
  | [a] => by simp [chain]
  | a :: b :: r => by
    have ih := chain_pw tr (l := b :: r)
    rw [chain, Bool.and_eq_true, ih]
    constructor
    · rintro ⟨h1, h2⟩
      refine List.pairwise_cons.2 ⟨fun x hx => ?_, h2⟩
      rcases List.mem_cons.1 hx with rfl | hx
      · exact h1
      · exact tr a b x h1 ((List.pairwise_cons.1 h2).1 x hx)
    · intro h
      obtain ⟨h1, h2⟩ := List.pairwise_cons.1 h
      exact ⟨h1 b (by simp), h2⟩
theorem pw_insert {D : Type} {R : D → D → Prop} {l : List D} {i : Nat} {x : D} (h : l.Pairwise R) (h1 : ∀ d ∈ l.take i, R d x) (h2 : ∀ d ∈ l.drop i, R x d) : (l.take i ++ x :: l.drop i).Pairwise R := by
  rw [List.pairwise_append]
  refine ⟨h.sublist (List.take_sublist _ _), List.pairwise_cons.2 ⟨h2, h.sublist (List.drop_sublist _ _)⟩, fun a ha b hb => ?_⟩
  rcases List.mem_cons.1 hb with rfl | hb
  · exact h1 a ha
  · rw [← List.take_append_drop i l, List.pairwise_append] at h
    exact h.2.2 a ha b hb
theorem pw_delete {D : Type} {R : D → D → Prop} {l : List D} (h : l.Pairwise R) (i : Nat) : (l.take i ++ l.drop (i + 1)).Pairwise R := by
  rw [← List.eraseIdx_eq_take_drop_succ]
  exact h.sublist (List.eraseIdx_sublist _ _)
theorem mem_delete {D : Type} {l : List D} {i : Nat} {x : D} (h : x ∈ l.take i ++ l.drop (i + 1)) : x ∈ l := by
  rcases List.mem_append.1 h with h | h
  · exact List.mem_of_mem_take h
  · exact List.mem_of_mem_drop h
theorem len_delete {D : Type} (l : List D) (i : Nat) : (l.take i ++ l.drop (i + 1)).length ≤ l.length := by simp; omega
theorem mem_insert {D : Type} {l : List D} {i : Nat} {x y : D} (h : y ∈ l.take i ++ x :: l.drop i) : y = x ∨ y ∈ l := by
  rcases List.mem_append.1 h with h | h
  · exact .inr (List.mem_of_mem_take h)
  · rcases List.mem_cons.1 h with h | h
    · exact .inl h
    · exact .inr (List.mem_of_mem_drop h)
/-- What stands ahead of a place in a row, and behind it. -/
theorem low_parts {D : Type} {R : D → D → Bool} {c : D → Int} {l : List D} (hc : chain R l = true) (mono : ∀ a b, R a b = true → 0 ≤ c a → 0 ≤ c b) (hno : eqAt c l (lowI c l) = false)
    (hz : ∀ a b, R a b = true → c b = 0 → c a < 0) : (∀ d ∈ l.take (lowI c l), c d < 0) ∧ ∀ d ∈ l.drop (lowI c l), 0 < c d := by
  constructor
  · intro d hd
    obtain ⟨i, hi⟩ := List.mem_iff_getElem?.1 hd
    rw [List.getElem?_take] at hi
    split at hi
    · rename_i h; exact low_lt h hi
    · cases hi
  · intro d hd
    obtain ⟨i, hi⟩ := List.mem_iff_getElem?.1 hd
    rw [List.getElem?_drop] at hi
    have h0 := low_ge (c := c) hc mono (by omega) hi
    by_cases h1 : 0 < c d
    · exact h1
    · have hd0 : c d = 0 := by omega
      rcases Nat.eq_zero_or_pos i with rfl | hp
      · unfold eqAt at hno
        rw [Nat.add_zero] at hi
        rw [hi] at hno
        simp [hd0] at hno
      · have hil := (List.getElem?_eq_some_iff.1 hi).1
        have hm : l[lowI c l]? = some (l[lowI c l]'(by omega)) := List.getElem?_eq_getElem _
        have h2 := low_ge (c := c) hc mono (Nat.le_refl _) hm
        have h3 : 0 < c (l[lowI c l]'(by omega)) := by
          unfold eqAt at hno
          rw [hm] at hno
          have : ¬ c (l[lowI c l]'(by omega)) = 0 := by simpa using hno
          omega
        have key : ∀ (k : Nat) e, l[lowI c l + k]? = some e → 0 < c e := by
          intro k
          induction k with
          | zero => intro e he; rw [Nat.add_zero, hm] at he; injection he with he; subst he; exact h3
          | succ k ih =>
            intro e he
            have hl := (List.getElem?_eq_some_iff.1 he).1
            have hp' : l[lowI c l + k]? = some (l[lowI c l + k]'(by omega)) := List.getElem?_eq_getElem _
            have h4 := ih _ hp'
            have h5 := chain_iff.1 hc (lowI c l + k) _ e hp' (by rw [← he]; rfl)
            have h6 := mono _ _ h5 (by omega)
            by_cases h7 : c e = 0
            · have := hz _ _ h5 h7; omega
            · omega
        exact key i d hi
theorem prpLt_iff {a b : Prp} : prpLt a b = true ↔ cmpS a.name b.name < 0 := by
  unfold prpLt; rw [ltS_cmp]; simp
theorem prpLt_tr : ∀ a b c, prpLt a b = true → prpLt b c = true → prpLt a c = true := by
  intro a b c h k
  rw [prpLt_iff] at *
  exact cmpS_trans h k
/-! ### What makes a graph right -/
theorem firstE_mk {D : Type} {f : D → Int} : ∀ {l : List D}, (∀ d ∈ l, f d = 0) → firstE f l = 0
  | [], _ => rfl
  | d :: r, h => by rw [firstE, if_pos (h d (by simp))]; exact firstE_mk fun x hx => h x (by simp [hx])
theorem rec_mk {r : List Prp} (h1 : r.length ≤ 8) (h2 : ∀ p ∈ r, prpE p = 0) (h3 : chain prpLt r = true) : recE r = 0 := by
  have h3 : chain (fun a b : Prp => ltS a.name b.name) r = true := h3
  unfold recE
  rw [if_neg (by omega), if_pos (firstE_mk h2), h3]; rfl
/-! ### Records -/
theorem prp_hz (nm : ByteArray) : ∀ a b, prpLt a b = true → prpC nm b = 0 → prpC nm a < 0 := by
  intro a b h k
  rw [prpLt_iff] at h
  unfold prpC at *
  rw [← cmpS_zero.1 k]
  exact h
theorem set_right {r : List Prp} {p : Prp} (h : setE r p = 0) : recE (setR r p) = 0 := by
  have h0 := h
  unfold setE at h
  by_cases e1 : recE r = 0
  · rw [if_pos e1] at h
    by_cases e2 : prpE p = 0
    · rw [if_pos e2] at h
      obtain ⟨a1, a2, a3⟩ := rec_ok e1
      unfold setR
      rw [if_pos h0]
      unfold putP
      cases hh : rhas r p.name with
      | true =>
        rw [if_pos rfl]
        obtain ⟨q, hq⟩ := rhas_some hh
        have hqn : q.name = p.name := by
          unfold rhas eqAt at hh
          rw [hq] at hh
          have : prpC p.name q = 0 := by simpa using hh
          exact cmpS_zero.1 this
        refine rec_mk (by simpa using a1) (fun x hx => ?_) ?_
        · rcases List.mem_or_eq_of_mem_set hx with hx | rfl
          · exact a2 x hx
          · exact e2
        · rw [chain_iff]
          intro i a b ha hb
          have key : ∀ (j : Nat) (c : Prp), (r.set (rpos r p.name) p)[j]? = some c → ∃ c', r[j]? = some c' ∧ c'.name = c.name := by
            intro j c hc
            rw [List.getElem?_set] at hc
            split at hc
            · rename_i hj
              subst hj
              split at hc
              · injection hc with hc; subst hc; exact ⟨q, hq, hqn⟩
              · cases hc
            · exact ⟨c, hc, rfl⟩
          obtain ⟨a', ha', na⟩ := key i a ha
          obtain ⟨b', hb', nb⟩ := key (i + 1) b hb
          have := chain_iff.1 a3 i a' b' ha' hb'
          rw [prpLt_iff] at this ⊢
          rw [← na, ← nb]; exact this
      | false =>
        rw [hh] at h
        simp only [Bool.false_eq_true, if_false] at h
        have hl : ¬ 8 ≤ r.length := fun hl => by rw [if_pos hl] at h; cases h
        rw [if_neg (by simp)]
        obtain ⟨b1, b2⟩ := low_parts (c := prpC p.name) a3 (prpC_mono p.name) hh (prp_hz p.name)
        refine rec_mk (by simp; have := lowI_le (prpC p.name) r; unfold rpos; omega) (fun x hx => ?_) ((chain_pw prpLt_tr).2 (pw_insert ((chain_pw prpLt_tr).1 a3) (fun d hd => ?_) (fun d hd => ?_)))
        · rcases mem_insert hx with rfl | hx
          · exact e2
          · exact a2 x hx
        · rw [prpLt_iff]; exact b1 d hd
        · rw [prpLt_iff, cmpS_anti]; have := b2 d hd; unfold prpC at this; omega
    · rw [if_neg e2] at h; exact absurd h e2
  · rw [if_neg e1] at h; exact absurd h e1
theorem unset_right {r : List Prp} {nm : ByteArray} (h : unsetE r nm = 0) : recE (unsetR r nm) = 0 := by
  have h0 := h
  unfold unsetE at h
  by_cases e1 : recE r = 0
  · obtain ⟨a1, a2, a3⟩ := rec_ok e1
    unfold unsetR
    rw [if_pos h0]
    exact rec_mk (Nat.le_trans (len_delete _ _) a1) (fun x hx => a2 x (mem_delete hx)) ((chain_pw prpLt_tr).2 (pw_delete ((chain_pw prpLt_tr).1 a3) _))
  · rw [if_neg e1] at h; exact absurd h e1
end Go.Proofs.YtmbeeaohidgfgaaGreatDoor
