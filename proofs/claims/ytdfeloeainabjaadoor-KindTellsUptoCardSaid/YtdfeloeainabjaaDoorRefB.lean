/- Contract of the references: kinref1.Kin: a kind's kin, by looking again and again. -/
import Derived.Test.YtdfeloeainabjaaDoorRefA
import Derived.Test.YtdfeloeainabjaaDoorSame
namespace Go.Proofs.YtdfeloeainabjaaDoor
open Go Go.RowKit

def boolBlk (w : World) (b : Nat) (bs : List Bool) : Prop := w.heap[b]? = some (.cells (bs.map Value.bool).toArray 4 (0, 0))
theorem boolBlk.cell {w : World} {b : Nat} {bs : List Bool} (h : boolBlk w b bs) {i : Nat} {q : Bool} (hi : bs[i]? = some q) : w.cell? ⟨b, i, none⟩ = some (.bool q) := by
  rw [block_cell h]; simp [hi]
theorem boolBlk.set {w : World} {b : Nat} {bs : List Bool} (h : boolBlk w b bs) (i : Nat) : boolBlk (w.setCell ⟨b, i, none⟩ (.bool true)) b (bs.set i true) := by
  have := setCell_block h i (.bool true)
  unfold boolBlk
  rw [this]
  congr 2
  simp [List.map_set]
def cntF (bs : List Bool) : Nat := bs.countP (fun q => !q)
theorem cntF_set : ∀ {bs : List Bool} {i : Nat}, bs[i]? = some false → cntF (bs.set i true) + 1 = cntF bs
  | [], i, h => by simp at h
  | q :: bs, 0, h => by simp at h; subst h; simp [cntF]
  | q :: bs, i + 1, h => by
    have ih := cntF_set (bs := bs) (i := i) (by simpa using h)
    unfold cntF at *
    rw [List.set_cons_succ, List.countP_cons, List.countP_cons]
    omega
def fls (w : World) (b : Nat) : Nat := match w.heap[b]? with | some (.cells c _ _) => c.toList.countP (fun v => match v with | .bool false => true | _ => false) | _ => 0
theorem fls_eq {w : World} {b : Nat} {bs : List Bool} (h : boolBlk w b bs) : fls w b = cntF bs := by
  unfold fls cntF
  rw [h]
  simp only [List.countP_map]
  congr 1
  funext q
  cases q <;> rfl
structure BInv (l : List Knd) (name : ByteArray) (bs : List Bool) : Prop where
  len : bs.length = l.length
  ok : ∀ (i : Nat) k, l[i]? = some k → bs[i]? = some true → kinSet l name k.name = true
  at_ : ∀ (i : Nat), kFind l name = i → bs[i]? = some true
/-- Closed at the i-th kind's first m. -/
def ClosedAt (l : List Knd) (bs : List Bool) (i m : Nat) : Prop := ∀ k, l[i]? = some k → bs[i]? = some true → ∀ (t : Nat) o, t < m → k.ofs[t]? = some o → ∀ (j : Nat), kFind l o = j → bs[j]? = some true
theorem BInv.set {l : List Knd} {name : ByteArray} {bs : List Bool} (hw : Wf l) (h : BInv l name bs) {i j : Nat} {k : Knd} {o : ByteArray} (hk : l[i]? = some k) (hi : bs[i]? = some true) (ho : o ∈ k.ofs) (hj : kFind l o = j) : BInv l name (bs.set j true) := by
  refine ⟨by rw [List.length_set]; exact h.len, fun m x hm hb => ?_, fun m hm => ?_⟩
  · by_cases hmj : j = m
    · subst hmj
      obtain ⟨j', y, e1, e2, e3, _⟩ := kFind_pos (l := l) (s := o) (by omega)
      have : j' = j := by omega
      subst this
      rw [hm] at e2; injection e2 with e2; subst e2
      rw [e3]
      exact kinSet_closed hw name k (List.mem_of_getElem? hk) (h.ok i k hk hi) o ho
    · rw [List.getElem?_set_ne hmj] at hb
      exact h.ok m x hm hb
  · have := h.at_ m hm
    by_cases hmj : j = m
    · subst hmj
      rw [List.getElem?_set_self (List.getElem?_eq_some_iff.1 this).1]
    · rw [List.getElem?_set_ne hmj]; exact this
theorem BInv.done {l : List Knd} {name : ByteArray} {bs : List Bool} (hw : Wf l) (h : BInv l name bs) (hn : 0 ≤ kFind l name) (hc : ∀ i, i < l.length → ∀ k, l[i]? = some k → ClosedAt l bs i k.ofs.length) : ∀ (i : Nat) k, l[i]? = some k → bs[i]? = some (kinSet l name k.name) := by
  intro i k hk
  have hil := (List.getElem?_eq_some_iff.1 hk).1
  obtain ⟨q, hq⟩ : ∃ q, bs[i]? = some q := ⟨_, List.getElem?_eq_getElem (by rw [h.len]; exact hil)⟩
  rw [hq]
  cases q with
  | true => rw [h.ok i k hk hq]
  | false =>
    cases hs : kinSet l name k.name with
    | false => rfl
    | true =>
      exfalso
      have hT : ∀ s, kinSet l name s = true → (match kFind l s with | .ofNat j => bs[j]? == some true | _ => true) = true := by
        refine kinFrom_least (T := fun s => match kFind l s with | .ofNat j => bs[j]? == some true | _ => true) ?_ ?_
        · intro x hx hxt o ho
          obtain ⟨m, hm⟩ := List.mem_iff_getElem?.1 hx
          have hxi : kFind l x.name = m := by
            obtain ⟨m', y, e1, e2, e3, e4⟩ := kFind_pos (kFind_mem hx)
            have : m' = m := by
              rcases Nat.lt_trichotomy m' m with h1 | h1 | h1
              · exact absurd e3 ((hw m x hm).1 m' y h1 e2)
              · exact h1
              · exact absurd rfl (e4 m x h1 hm)
            rw [e1, this]
          have hxt2 : (match kFind l x.name with | .ofNat j => bs[j]? == some true | _ => true) = true := hxt
          rw [hxi] at hxt2
          have hbm : bs[m]? = some true := by simpa using hxt2
          obtain ⟨t, ht⟩ := List.mem_iff_getElem?.1 ho
          obtain ⟨j, y, _, hj2, hj3⟩ := (hw m x hm).2 o ho
          obtain ⟨j', y', e1, _, _, _⟩ := kFind_pos (l := l) (s := o) (by have := kFind_mem (List.mem_of_getElem? hj2); rw [hj3] at this; exact this)
          show (match kFind l o with | .ofNat j => bs[j]? == some true | _ => true) = true
          rw [e1]
          have := hc m (List.getElem?_eq_some_iff.1 hm).1 x hm x hm hbm t o (List.getElem?_eq_some_iff.1 ht).1 ht j' e1
          show (bs[j']? == some true) = true
          rw [this]; rfl
        · intro s hs2
          simp at hs2
          subst hs2
          obtain ⟨j, _, e1, _⟩ := kFind_pos hn
          show (match kFind l name with | .ofNat j => bs[j]? == some true | _ => true) = true
          rw [e1]
          show (bs[j]? == some true) = true
          rw [h.at_ j e1]; rfl
      have : (match kFind l k.name with | .ofNat j => bs[j]? == some true | _ => true) = true := hT k.name hs
      have hki : kFind l k.name = i := by
        obtain ⟨m', y, e1, e2, e3, e4⟩ := kFind_pos (kFind_mem (List.mem_of_getElem? hk))
        have : m' = i := by
          rcases Nat.lt_trichotomy m' i with h1 | h1 | h1
          · exact absurd e3 ((hw i k hk).1 m' y h1 e2)
          · exact h1
          · exact absurd rfl (e4 i k h1 hk)
        rw [e1, this]
      rw [hki] at this
      change (bs[i]? == some true) = true at this
      rw [hq] at this
      cases this
theorem made_bools (n : Nat) : (madeCells #[.bool false] n) = ((List.replicate n false).map Value.bool).toArray := by
  apply Array.toList_inj.1
  rw [toList_madeCells_one]; simp
theorem bool_info : (Tryd.prog.info? 4).map (fun i => (i.zero, i.size, i.bytes)) = some (some (.bool false), 1, 1) := by kernel_rfl
end Go.Proofs.YtdfeloeainabjaaDoor
