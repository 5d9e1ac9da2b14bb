/- Parts: NrA, RvA, EmptyP, OpR, DbP, RsP, RfR, RefB, RefC, RefD. -/
import Derived.Test.YtfeccicogcnhcaaGreatDoorMg10
import Derived.Test.YtfeccicogcnhcaaGreatDoorMg15
import Derived.Test.YtfeccicogcnhcaaGreatDoorMg09
import Derived.Test.YtfeccicogcnhcaaGreatDoorMg07
import Derived.IntWalk
import Derived.Test.YtfeccicogcnhcaaGreatDoorMg04
import Derived.Test.YtfeccicogcnhcaaGreatDoorMg06
/- Contract of the reference: kinref1.Number: a numeral's number. Condition: of at most nine digits. -/
namespace Go.Proofs.YtfeccicogcnhcaaGreatDoor
open Go Go.RowKit

theorem numL_bad {l : List UInt8} {m : Nat} (h : l = [] ∨ m < l.length ∨ (l.head? = some 48 ∧ 1 < l.length)) : numL l m = none := by unfold numL; rw [if_pos h]
theorem numL_go {l : List UInt8} {m : Nat} (h : ¬ (l = [] ∨ m < l.length ∨ (l.head? = some 48 ∧ 1 < l.length))) : numL l m = Lib.decFrom 0 l := by unfold numL; rw [if_neg h]
theorem head_at {s : ByteArray} (h : 0 < s.size) : s.data.toList.head? = some s[0] := by
  have := bytes_at s 0 h
  rw [← List.head?_eq_getElem?] at this; exact this
set_option maxHeartbeats 4000000 in
theorem rnumber_any (s : ByteArray) (hs : Sm s) (m : Nat) (hm : m ≤ 9) (w : World) :
    Calls Tryz.prog 31 #[.string s, .int .i64 (m : Int)] w fun e w' => ∃ n : Nat, e = .returned (.tuple #[.int .i64 (n : Int), .bool (numL s.data.toList m).isSome]) ∧ (∀ u, numL s.data.toList m = some u → n = u) ∧ (numL s.data.toList m = none → n = 0) ∧ w' = w := by
  have hle : s.data.toList.length = s.size := by rw [Array.length_toList]; rfl
  unfold Sm at hs
  have hE : (s.toList = []) = (s.data.toList = []) := by
    have h := bs_lit (K := s.data.toList) (L := []) (M := []) (by decide +kernel)
    rw [bs_of] at h; exact h
  by_cases h0 : s.size = 0
  · have hnil : s.data.toList = [] := List.length_eq_zero_iff.1 (by omega)
    have b1 : s.toList = [] := by rw [hE]; exact hnil
    have b2 : (s.toList == []) = true := by rw [b1]; rfl
    have b3 : s.toList.isEmpty = true := by rw [b1]; rfl
    clear hE h0 hs hle hm
    -- the answer: none
    have HE := Lib.hid (numL_bad (l := s.data.toList) (m := m) (.inl hnil))
    go_enter Tryz.func31, Tryz.ntmps31
    go_wp2_with fail
    go_ret2
    exact ⟨0, by rw [HE.out]; rfl, (fun u hu => by rw [HE.out] at hu; cases hu), (fun _ => rfl), rfl⟩
  have hnn : ¬ s.data.toList = [] := fun e => h0 (by rw [← hle, e]; rfl)
  have b1 : ¬ s.toList = [] := by rw [hE]; exact hnn
  have b2 : (s.toList == []) = false := beq_eq_false_iff_ne.2 b1
  have b3 : s.toList.isEmpty = false := List.isEmpty_eq_false_iff.2 b1
  by_cases hlm : m < s.size
  · have hlm' : (m : Int) < (s.size : Int) := by omega
    have hlm2 : m < s.data.toList.length := by omega
    clear hE h0 hs hle hm hlm hnn
    -- the answer: none
    have HE := Lib.hid (numL_bad (l := s.data.toList) (m := m) (.inr (.inl hlm2)))
    go_enter Tryz.func31, Tryz.ntmps31
    go_wp2_with fail
    go_ret2
    exact ⟨0, by rw [HE.out]; rfl, (fun u hu => by rw [HE.out] at hu; cases hu), (fun _ => rfl), rfl⟩
  have hlm' : ¬ (m : Int) < (s.size : Int) := by omega
  have hpos : 0 < s.size := by omega
  have hhd := head_at hpos
  have hpos' : (0 : Int) < (s.size : Int) := by omega
  by_cases h48 : s[0] = 48 ∧ 1 < s.size
  · have c1 : ((s[0].toNat : Int) == 48) = true := by rw [h48.1]; rfl
    have c1' : (s[0].toNat : Int) = 48 := by rw [h48.1]; rfl
    have c2 : (1 : Int) < (s.size : Int) := by have := h48.2; omega
    have hbd : s.data.toList = [] ∨ m < s.data.toList.length ∨ (s.data.toList.head? = some 48 ∧ 1 < s.data.toList.length) := .inr (.inr ⟨by rw [hhd, h48.1], by rw [hle]; exact h48.2⟩)
    clear hE h0 hs hle hm hlm hnn hhd h48
    -- the answer: none
    have HE := Lib.hid (numL_bad (l := s.data.toList) (m := m) hbd)
    go_enter Tryz.func31, Tryz.ntmps31
    go_wp2_with fail
    go_ret2
    exact ⟨0, by rw [HE.out]; rfl, (fun u hu => by rw [HE.out] at hu; cases hu), (fun _ => rfl), rfl⟩
  have HG : Hid (numL s.data.toList m = Lib.decFrom 0 s.data.toList) := numL_go (by
    rintro (h | h | ⟨h, h2⟩)
    · exact hnn h
    · omega
    · rw [hhd] at h; exact h48 ⟨Option.some.inj h, by omega⟩)
  have hs9 : s.size ≤ 9 := by omega
  have HLE := Lib.hid hle
  obtain ⟨qb, hq⟩ : ∃ qb, ((s[0].toNat : Int) == 48) = qb := ⟨_, rfl⟩
  have hqc : qb = true → ¬ (1 : Int) < (s.size : Int) := fun h => by
    rw [h] at hq
    have h1 : (s[0].toNat : Int) = 48 := by simpa using hq
    have h2 : s[0] = 48 := UInt8.toNat_inj.1 (by have : s[0].toNat = 48 := by omega
                                                 rw [this]; rfl)
    intro h3
    exact h48 ⟨h2, by omega⟩
  clear hE h0 hs hle hm hlm hnn hhd h48
  cases qb with
  | true =>
    have hq2 : (s[0].toNat : Int) = 48 := by simpa using hq
    have h1 := hqc rfl
    have h1d : decide ((1 : Int) < (s.size : Int)) = false := decide_eq_false h1
    clear hqc
    go_enter Tryz.func31, Tryz.ntmps31
    go_wp2_with fail
    clear hq hq2
    go_loop [6, 7] (fun av i => ∃ (k a : Nat), k ≤ s.size ∧ i = .int .i64 k ∧ av = .int .i64 (a : Int) ∧ Hid (a < 10 ^ k) ∧ Hid (Lib.decFrom 0 s.data.toList = Lib.decFrom a (s.data.toList.drop k))) (fun _ i => s.size - (intOf i).toNat)
    case atStart => exact ⟨0, 0, Nat.zero_le _, rfl, rfl, (by unfold Hid; omega), by rw [List.drop_zero]; rfl⟩
    case round =>
      obtain ⟨k, a, hk, rfl, rfl, HA, HF⟩ := hrel
      by_cases hlt : k < s.size
      · have hlt' : (k : Int) < (s.size : Int) := by omega
        have HB := Lib.hid (bytes_at s k hlt)
        have hD := drop_cons_of HB.out
        by_cases hlo : (s[k].toNat : Int) < 48
        · have HN : Hid (numL s.data.toList m = none) := by unfold Hid; rw [HG.out, HF.out, hD, decFrom_bad (digit_none (.inl (by omega)))]
          clear hD HF HB HA
          go_wp2_with fail
          go_ret2
          exact ⟨0, by rw [HN.out]; rfl, (fun u hu => by rw [HN.out] at hu; cases hu), (fun _ => rfl), rfl⟩
        · have hlo' : (48 : Int) ≤ (s[k].toNat : Int) := by omega
          by_cases hhi : (57 : Int) < (s[k].toNat : Int)
          · have HN : Hid (numL s.data.toList m = none) := by unfold Hid; rw [HG.out, HF.out, hD, decFrom_bad (digit_none (.inr (by omega)))]
            clear hD HF HB HA hlo
            go_wp2_with fail
            go_ret2
            exact ⟨0, by rw [HN.out]; rfl, (fun u hu => by rw [HN.out] at hu; cases hu), (fun _ => rfl), rfl⟩
          · have hhi' : (s[k].toNat : Int) ≤ 57 := by omega
            have HF2 : Hid (Lib.decFrom 0 s.data.toList = Lib.decFrom (a * 10 + (s[k].toNat - 48)) (s.data.toList.drop (k + 1))) := by unfold Hid; rw [HF.out, hD, decFrom_good (digit_some (by omega) (by omega))]
            have ha9 : a < 10 ^ 9 := Nat.lt_of_lt_of_le HA.out (Nat.pow_le_pow_right (by omega) (by omega))
            have ha9' : a < 1000000000 := by simpa using ha9
            have HA2 : Hid (a * 10 + (s[k].toNat - 48) < 10 ^ (k + 1)) := by
              have := HA.out
              unfold Hid; rw [Nat.pow_succ]; omega
            clear hD HF HB HA hlo hhi ha9
            go_wp2_with fail
            go_round
            case rel => exact ⟨k + 1, a * 10 + (s[k].toNat - 48), by omega, by go_num, by go_num, HA2, HF2⟩
            case measure => simp [intOf]; omega
      · obtain rfl : k = s.size := by omega
        have HN : Hid (numL s.data.toList m = some a) := by
          unfold Hid; rw [HG.out, HF.out, ← HLE.out, List.drop_length]; rfl
        go_wp2_with fail
        go_ret2
        exact ⟨a, by rw [HN.out]; rfl, (fun u hu => by rw [HN.out] at hu; exact Option.some.inj hu), (fun h => by rw [HN.out] at h; cases h), rfl⟩
  | false =>
    have hq2 : ¬ (s[0].toNat : Int) = 48 := by simpa using hq
    clear hqc
    go_enter Tryz.func31, Tryz.ntmps31
    go_wp2_with fail
    clear hq hq2
    go_loop [6, 7] (fun av i => ∃ (k a : Nat), k ≤ s.size ∧ i = .int .i64 k ∧ av = .int .i64 (a : Int) ∧ Hid (a < 10 ^ k) ∧ Hid (Lib.decFrom 0 s.data.toList = Lib.decFrom a (s.data.toList.drop k))) (fun _ i => s.size - (intOf i).toNat)
    case atStart => exact ⟨0, 0, Nat.zero_le _, rfl, rfl, (by unfold Hid; omega), by rw [List.drop_zero]; rfl⟩
    case round =>
      obtain ⟨k, a, hk, rfl, rfl, HA, HF⟩ := hrel
      by_cases hlt : k < s.size
      · have hlt' : (k : Int) < (s.size : Int) := by omega
        have HB := Lib.hid (bytes_at s k hlt)
        have hD := drop_cons_of HB.out
        by_cases hlo : (s[k].toNat : Int) < 48
        · have HN : Hid (numL s.data.toList m = none) := by unfold Hid; rw [HG.out, HF.out, hD, decFrom_bad (digit_none (.inl (by omega)))]
          clear hD HF HB HA
          go_wp2_with fail
          go_ret2
          exact ⟨0, by rw [HN.out]; rfl, (fun u hu => by rw [HN.out] at hu; cases hu), (fun _ => rfl), rfl⟩
        · have hlo' : (48 : Int) ≤ (s[k].toNat : Int) := by omega
          by_cases hhi : (57 : Int) < (s[k].toNat : Int)
          · have HN : Hid (numL s.data.toList m = none) := by unfold Hid; rw [HG.out, HF.out, hD, decFrom_bad (digit_none (.inr (by omega)))]
            clear hD HF HB HA hlo
            go_wp2_with fail
            go_ret2
            exact ⟨0, by rw [HN.out]; rfl, (fun u hu => by rw [HN.out] at hu; cases hu), (fun _ => rfl), rfl⟩
          · have hhi' : (s[k].toNat : Int) ≤ 57 := by omega
            have HF2 : Hid (Lib.decFrom 0 s.data.toList = Lib.decFrom (a * 10 + (s[k].toNat - 48)) (s.data.toList.drop (k + 1))) := by unfold Hid; rw [HF.out, hD, decFrom_good (digit_some (by omega) (by omega))]
            have ha9 : a < 10 ^ 9 := Nat.lt_of_lt_of_le HA.out (Nat.pow_le_pow_right (by omega) (by omega))
            have ha9' : a < 1000000000 := by simpa using ha9
            have HA2 : Hid (a * 10 + (s[k].toNat - 48) < 10 ^ (k + 1)) := by
              have := HA.out
              unfold Hid; rw [Nat.pow_succ]; omega
            clear hD HF HB HA hlo hhi ha9
            go_wp2_with fail
            go_round
            case rel => exact ⟨k + 1, a * 10 + (s[k].toNat - 48), by omega, by go_num, by go_num, HA2, HF2⟩
            case measure => simp [intOf]; omega
      · obtain rfl : k = s.size := by omega
        have HN : Hid (numL s.data.toList m = some a) := by
          unfold Hid; rw [HG.out, HF.out, ← HLE.out, List.drop_length]; rfl
        go_wp2_with fail
        go_ret2
        exact ⟨a, by rw [HN.out]; rfl, (fun u hu => by rw [HN.out] at hu; exact Option.some.inj hu), (fun h => by rw [HN.out] at h; cases h), rfl⟩



open Go

/-! ### What makes a graph right -/
/-! ### Records -/

/-! ### Rows in one strict order -/
section
variable {D : Type} {R : D → D → Prop}
end
/-! ### What is there, by name -/

def rSetStep (p : Prp) (st : List Prp × Bool) (q : Prp) : List Prp × Bool :=
  let s1 := if !st.2 && decide (0 ≤ cmpS q.name p.name) then (st.1 ++ [p], true) else st
  if q.name = p.name then s1 else (s1.1 ++ [q], s1.2)


def boolBlk (w : World) (b : Nat) (bs : List Bool) : Prop := w.heap[b]? = some (.cells (bs.map Value.bool).toArray 4 (0, 0))
theorem boolBlk.cell {w : World} {b : Nat} {bs : List Bool} (h : boolBlk w b bs) {i : Nat} {q : Bool} (hi : bs[i]? = some q) : w.cell? ⟨b, i, none⟩ = some (.bool q) := by
  rw [block_cell h]; simp [hi]
theorem boolBlk.set {w : World} {b : Nat} {bs : List Bool} (h : boolBlk w b bs) (i : Nat) : boolBlk (w.setCell ⟨b, i, none⟩ (.bool true)) b (bs.set i true) := by
  have := setCell_block h i (.bool true)
  unfold boolBlk
  rw [this]
  congr 2
  simp [List.map_set]
def cntF (bs : List Bool) : Nat := bs.countP (fun q => !q)
theorem cntF_set : ∀ {bs : List Bool} {i : Nat}, bs[i]? = some false → cntF (bs.set i true) + 1 = cntF bs
  | [], i, h => by simp at h
  | q :: bs, 0, h => by simp at h; subst h; simp [cntF]
  | q :: bs, i + 1, h => by
    have ih := cntF_set (bs := bs) (i := i) (by simpa using h)
    unfold cntF at *
    rw [List.set_cons_succ, List.countP_cons, List.countP_cons]
    omega
def fls (w : World) (b : Nat) : Nat := match w.heap[b]? with | some (.cells c _ _) => c.toList.countP (fun v => match v with | .bool false => true | _ => false) | _ => 0
theorem fls_eq {w : World} {b : Nat} {bs : List Bool} (h : boolBlk w b bs) : fls w b = cntF bs := by
  unfold fls cntF
  rw [h]
  simp only [List.countP_map]
  congr 1
  funext q
  cases q <;> rfl
structure BInv (l : List Knd) (name : ByteArray) (bs : List Bool) : Prop where
  len : bs.length = l.length
  ok : ∀ (i : Nat) k, l[i]? = some k → bs[i]? = some true → kinSet l name k.name = true
  at_ : ∀ (i : Nat), kFind l name = i → bs[i]? = some true
/-- Closed at the i-th kind's first m. -/
def ClosedAt (l : List Knd) (bs : List Bool) (i m : Nat) : Prop := ∀ k, l[i]? = some k → bs[i]? = some true → ∀ (t : Nat) o, t < m → k.ofs[t]? = some o → ∀ (j : Nat), kFind l o = j → bs[j]? = some true
theorem BInv.set {l : List Knd} {name : ByteArray} {bs : List Bool} (hw : Wf l) (h : BInv l name bs) {i j : Nat} {k : Knd} {o : ByteArray} (hk : l[i]? = some k) (hi : bs[i]? = some true) (ho : o ∈ k.ofs) (hj : kFind l o = j) : BInv l name (bs.set j true) := by
  refine ⟨by rw [List.length_set]; exact h.len, fun m x hm hb => ?_, fun m hm => ?_⟩
  · by_cases hmj : j = m
    · subst hmj
      obtain ⟨j', y, e1, e2, e3, _⟩ := kFind_pos (l := l) (s := o) (by omega)
      have : j' = j := by omega
      subst this
      rw [hm] at e2; injection e2 with e2; subst e2
      rw [e3]
      exact kinSet_closed hw name k (List.mem_of_getElem? hk) (h.ok i k hk hi) o ho
    · rw [List.getElem?_set_ne hmj] at hb
      exact h.ok m x hm hb
  · have := h.at_ m hm
    by_cases hmj : j = m
    · subst hmj
      rw [List.getElem?_set_self (List.getElem?_eq_some_iff.1 this).1]
    · rw [List.getElem?_set_ne hmj]; exact this
theorem BInv.done {l : List Knd} {name : ByteArray} {bs : List Bool} (hw : Wf l) (h : BInv l name bs) (hn : 0 ≤ kFind l name) (hc : ∀ i, i < l.length → ∀ k, l[i]? = some k → ClosedAt l bs i k.ofs.length) : ∀ (i : Nat) k, l[i]? = some k → bs[i]? = some (kinSet l name k.name) := by
  intro i k hk
  have hil := (List.getElem?_eq_some_iff.1 hk).1
  obtain ⟨q, hq⟩ : ∃ q, bs[i]? = some q := ⟨_, List.getElem?_eq_getElem (by rw [h.len]; exact hil)⟩
  rw [hq]
  cases q with
  | true => rw [h.ok i k hk hq]
  | false =>
    cases hs : kinSet l name k.name with
    | false => rfl
    | true =>
      exfalso
      have hT : ∀ s, kinSet l name s = true → (match kFind l s with | .ofNat j => bs[j]? == some true | _ => true) = true := by
        refine kinFrom_least (T := fun s => match kFind l s with | .ofNat j => bs[j]? == some true | _ => true) ?_ ?_
        · intro x hx hxt o ho
          obtain ⟨m, hm⟩ := List.mem_iff_getElem?.1 hx
          have hxi : kFind l x.name = m := by
            obtain ⟨m', y, e1, e2, e3, e4⟩ := kFind_pos (kFind_mem hx)
            have : m' = m := by
              rcases Nat.lt_trichotomy m' m with h1 | h1 | h1
              · exact absurd e3 ((hw m x hm).1 m' y h1 e2)
              · exact h1
              · exact absurd rfl (e4 m x h1 hm)
            rw [e1, this]
          have hxt2 : (match kFind l x.name with | .ofNat j => bs[j]? == some true | _ => true) = true := hxt
          rw [hxi] at hxt2
          have hbm : bs[m]? = some true := by simpa using hxt2
          obtain ⟨t, ht⟩ := List.mem_iff_getElem?.1 ho
          obtain ⟨j, y, _, hj2, hj3⟩ := (hw m x hm).2 o ho
          obtain ⟨j', y', e1, _, _, _⟩ := kFind_pos (l := l) (s := o) (by have := kFind_mem (List.mem_of_getElem? hj2); rw [hj3] at this; exact this)
          show (match kFind l o with | .ofNat j => bs[j]? == some true | _ => true) = true
          rw [e1]
          have := hc m (List.getElem?_eq_some_iff.1 hm).1 x hm x hm hbm t o (List.getElem?_eq_some_iff.1 ht).1 ht j' e1
          show (bs[j']? == some true) = true
          rw [this]; rfl
        · intro s hs2
          simp at hs2
          subst hs2
          obtain ⟨j, _, e1, _⟩ := kFind_pos hn
          show (match kFind l name with | .ofNat j => bs[j]? == some true | _ => true) = true
          rw [e1]
          show (bs[j]? == some true) = true
          rw [h.at_ j e1]; rfl
      have : (match kFind l k.name with | .ofNat j => bs[j]? == some true | _ => true) = true := hT k.name hs
      have hki : kFind l k.name = i := by
        obtain ⟨m', y, e1, e2, e3, e4⟩ := kFind_pos (kFind_mem (List.mem_of_getElem? hk))
        have : m' = i := by
          rcases Nat.lt_trichotomy m' i with h1 | h1 | h1
          · exact absurd e3 ((hw i k hk).1 m' y h1 e2)
          · exact h1
          · exact absurd rfl (e4 i k h1 hk)
        rw [e1, this]
      rw [hki] at this
      change (bs[i]? == some true) = true at this
      rw [hq] at this
      cases this
theorem made_bools (n : Nat) : (madeCells #[.bool false] n) = ((List.replicate n false).map Value.bool).toArray := by
  apply Array.toList_inj.1
  rw [toList_madeCells_one]; simp
theorem bool_info : (Tryz.prog.info? 4).map (fun i => (i.zero, i.size, i.bytes)) = some (some (.bool false), 1, 1) := by kernel_rfl

def agN : Value → Nat | .bool true => 1 | _ => 0
theorem boolBlk.below {w w' : World} {b B : Nat} {bs : List Bool} (h : boolBlk w b bs) (hb : Below B w w') (hlt : b < B) : boolBlk w' b bs := (hb.block b hlt).trans h
theorem boolBlk.frozen {w : World} {b : Nat} {bs : List Bool} (h : boolBlk w b bs) (i : Nat) : w.frozen? ⟨b, i, none⟩ = false := by unfold boolBlk at h; simp [World.frozen?, h]
/-- A round of the outer loop began with bs0; it stands at the i-th kind's m-th name. -/
structure KRun (l : List Knd) (name : ByteArray) (bs0 bs : List Bool) (q : Bool) (i m : Nat) : Prop where
  inv : BInv l name bs
  same : q = false → bs = bs0 ∧ (∀ t, t < i → ∀ k, l[t]? = some k → ClosedAt l bs t k.ofs.length) ∧ ClosedAt l bs i m
  less : q = true → cntF bs < cntF bs0
theorem KRun.start {l : List Knd} {name : ByteArray} {bs : List Bool} (h : BInv l name bs) : KRun l name bs bs false 0 0 :=
  ⟨h, fun _ => ⟨rfl, fun _ ht => absurd ht (Nat.not_lt_zero _), fun _ _ _ _ _ ht => absurd ht (Nat.not_lt_zero _)⟩, fun e => Bool.noConfusion e⟩
theorem KRun.skip {l : List Knd} {name : ByteArray} {bs0 bs : List Bool} {q : Bool} {i m j : Nat} {k : Knd} {o : ByteArray} (h : KRun l name bs0 bs q i m) (hk : l[i]? = some k) (ho : k.ofs[m]? = some o) (hj : kFind l o = j) (hb : bs[j]? = some true) : KRun l name bs0 bs q i (m + 1) := by
  refine ⟨h.inv, fun e => ⟨(h.same e).1, (h.same e).2.1, fun k' hk' hi t o' ht ho' j' hj' => ?_⟩, h.less⟩
  by_cases htm : t = m
  · subst htm
    rw [hk] at hk'; injection hk' with hk'; subst hk'
    rw [ho] at ho'; injection ho' with ho'; subst ho'
    have : j' = j := by omega
    rw [this]; exact hb
  · exact (h.same e).2.2 k' hk' hi t o' (by omega) ho' j' hj'
theorem KRun.put {l : List Knd} {name : ByteArray} {bs0 bs : List Bool} {q : Bool} {i m j : Nat} {k : Knd} {o : ByteArray} (hw : Wf l) (h : KRun l name bs0 bs q i m) (hk : l[i]? = some k) (hi : bs[i]? = some true) (ho : k.ofs[m]? = some o) (hj : kFind l o = j) (hb : bs[j]? = some false) : KRun l name bs0 (bs.set j true) true i (m + 1) := by
  refine ⟨h.inv.set hw hk hi (List.mem_of_getElem? ho) hj, fun e => Bool.noConfusion e, fun _ => ?_⟩
  have h1 := cntF_set hb
  cases q with
  | false => have := (h.same rfl).1; subst this; omega
  | true => have := h.less rfl; omega
theorem KRun.next {l : List Knd} {name : ByteArray} {bs0 bs : List Bool} {q : Bool} {i m : Nat} {k : Knd} (h : KRun l name bs0 bs q i m) (hk : l[i]? = some k) (hx : m = k.ofs.length ∨ bs[i]? = some false) : KRun l name bs0 bs q (i + 1) 0 := by
  refine ⟨h.inv, fun e => ⟨(h.same e).1, fun t ht k' hk' => ?_, fun _ _ _ _ _ ht => absurd ht (Nat.not_lt_zero _)⟩, h.less⟩
  by_cases hti : t = i
  · subst hti
    rw [hk] at hk'; injection hk' with hk'; subst hk'
    rcases hx with hx | hx
    · rw [← hx]; exact (h.same e).2.2
    · intro k' _ hi; rw [hx] at hi; injection hi with hi; cases hi
  · exact (h.same e).2.1 t (by omega) k' hk'
theorem KRun.meas {l : List Knd} {name : ByteArray} {bs0 bs : List Bool} {q : Bool} {i m : Nat} (h : KRun l name bs0 bs q i m) : 2 * cntF bs + agN (.bool q) < 2 * cntF bs0 + 1 := by
  cases q with
  | false => have := (h.same rfl).1; subst this; simp [agN]
  | true => have := h.less rfl; simp [agN]; omega
theorem BInv.start {l : List Knd} {name : ByteArray} {j : Nat} (hj : kFind l name = j) (hjl : j < l.length) : BInv l name ((List.replicate l.length false).set j true) := by
  refine ⟨by simp, fun i k hk hb => ?_, fun i hi => ?_⟩
  · by_cases hji : j = i
    · subst hji
      obtain ⟨j', y, e1, e2, e3, _⟩ := kFind_pos (l := l) (s := name) (by omega)
      have : j' = j := by omega
      subst this
      rw [hk] at e2; injection e2 with e2; subst e2
      rw [e3]; exact kinSet_self _ _
    · rw [List.getElem?_set_ne hji] at hb
      rw [List.getElem?_replicate] at hb
      split at hb <;> simp at hb
  · have : j = i := by omega
    subst this
    rw [List.getElem?_set_self (by simpa using hjl)]
theorem kin_pick {l : List Knd} {name : ByteArray} {k : Nat} {d : Knd} (hd : l[k]? = some d) {r u : List ByteArray} (h : u = r ++ ((l.drop k).filter fun k => kinSet l name k.name).map (·.name)) :
    u = (r ++ if kinSet l name d.name then [d.name] else []) ++ ((l.drop (k + 1)).filter fun k => kinSet l name k.name).map (·.name) := by
  rw [h, drop_cons hd, List.filter_cons]
  cases kinSet l name d.name <;> simp
set_option maxRecDepth 100000 in
set_option maxHeartbeats 8000000 in
theorem rkin_any (l : List Knd) (name : ByteArray) (v : Value) (w : World) (hv : Sl kndL w v l) (hw : Wf l) (hn : 0 ≤ kFind l name) (hll : l.length ≤ 12) :
    Calls Tryz.prog 41 #[v, .string name] w fun e w' => ∃ u, e = .returned u ∧ Sl strL w' u (kinL l name) ∧ Below w.heap.size w w' := by
  obtain ⟨i0, hi, hz, hz1, hz2⟩ := info_parts bool_info
  obtain ⟨iS, ei, ez, ez1, ez2⟩ := info_parts str_info
  have HV := Lib.hid hv
  have HW := Lib.hid hw
  have HN0 := Lib.hid hn
  obtain ⟨j0, _, hj0, hy0, _, _⟩ := kFind_pos hn
  have hj0l : j0 < l.length := (List.getElem?_eq_some_iff.1 hy0).1
  have hj0l' : (j0 : Int) < (l.length : Int) := by omega
  have HB0 := Lib.hid (BInv.start hj0 hj0l)
  have hk0 : ∀ wx, Below w.heap.size w wx → Calls Tryz.prog 14 #[v, .string name] wx fun e w' => e = .returned (.int .i64 j0) ∧ wx = w' := fun wx hb => by
    have := rkind_any l name v wx (hv.below hb); rwa [hj0] at this
  have HK0 := Lib.hid hk0
  obtain ⟨A, c, rfl, _, _⟩ := hv.form
  have hmk : ∀ u : World, (Instr.makeSlice 104 (.int .i64 (l.length : Int)) (.int .i64 (l.length : Int))).run Tryz.prog u =
      .ok (.slice (some ⟨u.heap.size, 0, none⟩) l.length l.length) (u.alloc (.cells (madeCells #[.bool false] l.length) 4)) := fun u => by
    have h := run_make (P := Tryz.prog) u 104 4 i0 (.bool false) Tryz.underlying104 hi hz .i64 .i64 (l.length : Int) (l.length : Int) (by omega) (Int.le_refl _) (by rw [hz2]; omega) (by omega)
    simpa [hz1, Value.cells] using h
  have hb0 : Below w.heap.size w (w.alloc (.cells (madeCells #[.bool false] l.length) 4)) := (Below.refl _ _).alloc (Nat.le_refl _) _
  have hB0 : boolBlk (w.alloc (.cells (madeCells #[.bool false] l.length) 4)) w.heap.size (List.replicate l.length false) := by
    unfold boolBlk; rw [← made_bools]; exact heap_alloc_new _ _
  have hA1 : (madeCells #[Value.bool false] l.length).setIfInBounds j0 (.bool true) = (((List.replicate l.length false).set j0 true).map Value.bool).toArray := by
    rw [made_bools, List.map_set, List.setIfInBounds_toArray]
  have hB1 : boolBlk (w.alloc (.cells ((madeCells #[Value.bool false] l.length).setIfInBounds j0 (.bool true)) 4)) w.heap.size ((List.replicate l.length false).set j0 true) := by
    unfold boolBlk; rw [hA1]; exact heap_alloc_new _ _
  clear hA1
  have hfr := hB0.frozen j0
  have hb1 : Below w.heap.size w (w.alloc (.cells ((madeCells #[Value.bool false] l.length).setIfInBounds j0 (.bool true)) 4)) := (Below.refl _ _).alloc (Nat.le_refl _) _
  have hc0 : ∃ q, (w.alloc (.cells (madeCells #[.bool false] l.length) 4)).cell? ⟨w.heap.size, j0, none⟩ = some q := ⟨_, hB0.cell (i := j0) (q := false) (by simp [hj0l])⟩
  obtain ⟨q0, hc0⟩ := hc0
  clear hv hw hj0 hy0 hk0 hn
  go_enter Tryz.func41, Tryz.ntmps41
  go_wp2_with fail
  refine (HK0.out _ hb0).mono ?_
  rintro e w1 ⟨rfl, rfl⟩
  go_wp2_with fail
  clear hmk hc0 hfr HK0
  generalize hW1 : w.alloc (.cells ((madeCells #[Value.bool false] l.length).setIfInBounds j0 (.bool true)) 4) = W1 at *
  have hs1 : w.heap.size < W1.heap.size := (Array.getElem?_eq_some_iff.1 hB1).1
  go_loopw [6] (fun ag wr => ∃ (q : Bool) (bs : List Bool), ag = .bool q ∧ Below w.heap.size w wr ∧ boolBlk wr w.heap.size bs ∧ Hid (BInv l name bs) ∧
    Hid (q = false → ∀ t, t < l.length → ∀ k, l[t]? = some k → ClosedAt l bs t k.ofs.length)) (fun ag wr => 2 * fls wr w.heap.size + agN ag)
  case atStart => exact ⟨true, _, rfl, hb1, hB1, HB0, fun e => Bool.noConfusion e⟩
  case round =>
    obtain ⟨q, bs, rfl, hbr, hbk, HBI, HCL⟩ := hrel
    clear hb1 hB1 HB0
    have hBr : w.heap.size < wr.heap.size := (Array.getElem?_eq_some_iff.1 hbk).1
    obtain ⟨wo, rfl⟩ : ∃ wo : World, wo = wr := ⟨_, rfl⟩
    cases q with
    | true =>
      have HST := Lib.hid (KRun.start HBI.out)
      have hfl := fls_eq hbk
      clear HBI HCL
      go_wp2_with fail
      go_loopw [6, 7] (fun ag i wx => ∃ (q : Bool) (k : Nat) (bs3 : List Bool), k ≤ l.length ∧ ag = .bool q ∧ i = .int .i64 k ∧ Below w.heap.size w wx ∧ boolBlk wx w.heap.size bs3 ∧ Hid (KRun l name bs bs3 q k 0)) (fun _ i _ => l.length - (intOf i).toNat)
      case atStart => exact ⟨false, 0, bs, Nat.zero_le _, rfl, rfl, hbr, hbk, HST⟩
      case round =>
        clear hbr hbk HST
        obtain ⟨q, k, bs3, hk, rfl, rfl, hbx, hbk, HR⟩ := hrel
        obtain ⟨w3, rfl⟩ : ∃ w3 : World, w3 = wr := ⟨_, rfl⟩
        by_cases hlt : k < l.length
        · obtain ⟨d, hd⟩ : ∃ d, l[k]? = some d := ⟨_, List.getElem?_eq_getElem hlt⟩
          have hlt' : (k : Int) < (l.length : Int) := by omega
          go_wp2_with fail
          go_loopw [6, 8] (fun ag i wx => ∃ (q : Bool) (m : Nat) (bs4 : List Bool), m ≤ d.ofs.length ∧ ag = .bool q ∧ i = .int .i64 m ∧ Below w.heap.size w wx ∧ boolBlk wx w.heap.size bs4 ∧ Hid (KRun l name bs bs4 q k m)) (fun _ i _ => d.ofs.length - (intOf i).toNat)
          case atStart => exact ⟨q, 0, bs3, Nat.zero_le _, rfl, rfl, hbx, hbk, HR⟩
          case round =>
            clear hbx hbk HR
            obtain ⟨q, m, bs4, hm, rfl, rfl, hbx, hbk, HR⟩ := hrel
            obtain ⟨b, o, rfl, u, x, _, hso, _, _, c1, _⟩ := knd_at (HV.out.below hbx) hd
            obtain ⟨A1, q1, rfl, _, hm1⟩ := hso.form
            unfold maxLen at hm1
            obtain ⟨qi, hqi⟩ : ∃ q, bs4[k]? = some q := ⟨_, List.getElem?_eq_getElem (by rw [HR.out.inv.len]; exact hlt)⟩
            have y0 := hbk.cell hqi
            by_cases hmt : m < d.ofs.length
            · have hmt' : (m : Int) < (d.ofs.length : Int) := by omega
              cases qi with
              | true =>
                obtain ⟨of, hof⟩ : ∃ d2, d.ofs[m]? = some d2 := ⟨_, List.getElem?_eq_getElem hmt⟩
                obtain ⟨b2, o2, rfl, _, x0⟩ := str_at hso hof
                obtain ⟨j, y, _, hj2, hj3⟩ := (HW.out k d hd).2 of (List.mem_of_getElem? hof)
                obtain ⟨j1, z, e1, e2, _, _⟩ := kFind_pos (l := l) (s := of) (by have := kFind_mem (List.mem_of_getElem? hj2); rw [hj3] at this; exact this)
                have hj1l : j1 < l.length := (List.getElem?_eq_some_iff.1 e2).1
                have hj1l' : (j1 : Int) < (l.length : Int) := by omega
                have hkk := rkind_any l of _ wr (HV.out.below hbx)
                rw [e1] at hkk
                obtain ⟨qj, hqj⟩ : ∃ q, bs4[j1]? = some q := ⟨_, List.getElem?_eq_getElem (by rw [HR.out.inv.len]; exact hj1l)⟩
                have y1 := hbk.cell hqj
                have HE := Lib.hid (And.intro hd (And.intro hof e1))
                have HQ := Lib.hid hqi
                clear hj2 hj3 hof e1 e2 hd hqi hso
                go_wp2_with fail
                refine hkk.mono ?_
                rintro e w5 ⟨rfl, rfl⟩
                clear hkk
                cases qj with
                | true =>
                  have HN := Lib.hid (HR.out.skip HE.out.1 HE.out.2.1 HE.out.2.2 hqj)
                  clear hqj
                  go_wp2_with fail
                  go_roundw
                  case rel => exact ⟨q, m + 1, bs4, by omega, rfl, by go_num, hbx, hbk, HN⟩
                  case measure => simp [intOf]; omega
                | false =>
                  have HN := Lib.hid (KRun.put HW.out HR.out HE.out.1 HQ.out HE.out.2.1 HE.out.2.2 hqj)
                  have hfr := hbk.frozen j1
                  have hbk2 := hbk.set j1
                  have hbx2 := hbx.setCell (p := ⟨w.heap.size, j1, none⟩) (Nat.le_refl _) (.bool true)
                  clear hqj
                  go_wp2_with fail
                  go_roundw
                  case rel => exact ⟨true, m + 1, _, by omega, rfl, by go_num, hbx2, hbk2, HN⟩
                  case measure => simp [intOf]; omega
              | false =>
                have HN := Lib.hid (HR.out.next hd (.inr hqi))
                clear hqi
                go_wp2_with fail
                go_roundw
                case rel => exact ⟨q, k + 1, bs4, by omega, rfl, by go_num, hbx, hbk, HN⟩
                case measure => simp [intOf]; omega
            · obtain rfl : m = d.ofs.length := by omega
              have HN := Lib.hid (HR.out.next hd (.inl rfl))
              clear hqi
              go_wp2_with fail
              go_roundw
              case rel => exact ⟨q, k + 1, bs4, by omega, rfl, by go_num, hbx, hbk, HN⟩
              case measure => simp [intOf]; omega
        · obtain rfl : k = l.length := by omega
          have hms := HR.out.meas
          have hff := fls_eq hbk
          have HCL2 : Hid (q = false → ∀ t, t < l.length → ∀ k, l[t]? = some k → ClosedAt l bs3 t k.ofs.length) := fun e t ht k hk => (HR.out.same e).2.1 t ht k hk
          have HBI2 := Lib.hid HR.out.inv
          clear HR
          go_wp2_with fail
          go_roundw
          case rel => exact ⟨q, bs3, rfl, hbx, hbk, HBI2, HCL2⟩
          case measure => rw [hff, hfl]; simpa [agN] using hms
    | false =>
      have HD : Hid (∀ (i : Nat) k, l[i]? = some k → bs[i]? = some (kinSet l name k.name)) := HBI.out.done HW.out HN0.out (HCL.out rfl)
      clear HBI HCL
      go_wp2_with fail
      go_loopw [10, 11] (fun ov i wx => ∃ (k : Nat) (r : List ByteArray), k ≤ l.length ∧ i = .int .i64 k ∧ r.length ≤ k ∧ Below wo.heap.size wo wx ∧ Own wx wo.heap.size 9 1 ov r.length (r.map Value.string) ∧
        Hid (∀ x ∈ r, Sm x) ∧ Hid (kinL l name = r ++ ((l.drop k).filter fun k => kinSet l name k.name).map (·.name))) (fun _ i _ => l.length - (intOf i).toNat)
      case atStart => exact ⟨0, [], Nat.zero_le _, rfl, Nat.le_refl _, Below.refl _ _, Own.nil _ _ _ _, (by intro x hx; simp at hx), by unfold Hid; rw [List.drop_zero]; rfl⟩
      case round =>
        obtain ⟨k, r, hk, rfl, hrk, hbx, hor, HR, HU⟩ := hrel
        have hBx := hbr.trans (hbx.mono hbr.size)
        obtain ⟨Ar, cr, rfl, _, _⟩ := hor.form
        by_cases hlt : k < l.length
        · obtain ⟨d, hd⟩ : ∃ d, l[k]? = some d := ⟨_, List.getElem?_eq_getElem hlt⟩
          obtain ⟨b, o, rfl, u, x, hsm, _, _, c0, _, _⟩ := knd_at (HV.out.below hBx) hd
          have hlt' : (k : Int) < (l.length : Int) := by omega
          have y0 := (hbk.below hbx hBr).cell (HD.out k d hd)
          have HS := Lib.hid (kin_pick hd HU.out)
          clear hd HU
          cases hq : kinSet l name d.name with
          | true =>
            have HN : Hid (kinL l name = (r ++ [d.name]) ++ ((l.drop (k + 1)).filter fun k => kinSet l name k.name).map (·.name)) := by unfold Hid; rw [HS.out, hq]; simp
            have HR2 : Hid (∀ x ∈ r ++ [d.name], Sm x) := by
              intro x hx
              rcases List.mem_append.1 hx with h | h
              · exact HR.out x h
              · simp at h; subst h; exact hsm
            rw [hq] at y0
            clear hq HS
            go_wp2_with (at_builtin; refine wpList_append_q _ rfl (.tmp 71) (.tmp 77) _ rfl wo.heap.size 9 iS (.string .empty) 1 16 Tryz.underlying45 ei ez ez1 ez2 rfl (by decide) (.slice Ar r.length cr) r.length (r.map Value.string) rfl (hor.alloc _) (some ⟨wr.heap.size, 0, none⟩) 1 1 [.string d.name] rfl rfl (fun _ => ⟨_, rfl, by simpa using cell_one_new wr (.string d.name) 9⟩) (by simp [Value.oneCell']) (by unfold maxLen; omega) (by omega) (by have := hbx.size; simp; omega) ?_; intro v7 w7 hown7 hg7 hat7)
            have hb7 : Below wo.heap.size wo w7 := (hbx.alloc hbx.size _).grown hg7 (by have := hbx.size; simp; omega) (fun kk hkk => (hor.lt kk hkk).1)
            have ho7 : Own w7 wo.heap.size 9 1 v7 (r ++ [d.name]).length ((r ++ [d.name]).map Value.string) := by simpa using hown7
            have hl7 : (r ++ [d.name]).length ≤ k + 1 := by simp; omega
            clear hg7 hat7 hown7
            obtain ⟨A7, c7, rfl, _, _⟩ := ho7.form
            go_roundw
            case rel => exact ⟨k + 1, r ++ [d.name], by omega, by go_num, hl7, hb7, ho7, HR2, HN⟩
            case measure => simp [intOf]; omega
          | false =>
            have HN : Hid (kinL l name = r ++ ((l.drop (k + 1)).filter fun k => kinSet l name k.name).map (·.name)) := by unfold Hid; rw [HS.out, hq]; simp
            rw [hq] at y0
            clear hq HS
            go_wp2_with fail
            go_roundw
            case rel => exact ⟨k + 1, r, by omega, by go_num, by omega, hbx, hor, HR, HN⟩
            case measure => simp [intOf]; omega
        · obtain rfl : k = l.length := by omega
          have HQ : Hid (kinL l name = r) := by unfold Hid; rw [HU.out, List.drop_length]; simp
          have hsl := hor.strs HR.out
          go_wp2_with fail
          go_ret
          exact ⟨.slice Ar r.length cr, rfl, by rw [HQ.out]; exact hsl, hBx⟩

theorem any_hit {D : Type} {p : D → Bool} {l : List D} {k : Nat} {d : D} (h : l[k]? = some d) (hp : p d = true) : l.any p = true := List.any_eq_true.2 ⟨d, List.mem_of_getElem? h, hp⟩
theorem any_miss {D : Type} {p : D → Bool} {l : List D} (h : ∀ j x, j < l.length → l[j]? = some x → p x = false) : l.any p = false := by
  cases hq : l.any p with
  | false => rfl
  | true =>
    obtain ⟨d, hd, hp⟩ := List.any_eq_true.1 hq
    obtain ⟨j, hj⟩ := List.mem_iff_getElem?.1 hd
    rw [h j d (List.getElem?_eq_some_iff.1 hj).1 hj] at hp; cases hp
set_option maxHeartbeats 1000000 in
theorem rin_any (l : List ByteArray) (s : ByteArray) (v : Value) (w : World) (hv : Sl strL w v l) : Calls Tryz.prog 40 #[v, .string s] w fun e w' => e = .returned (.bool (l.any fun y => decide (s = y))) ∧ w = w' := by
  obtain ⟨A, c, rfl, hlc, hcm⟩ := hv.form
  unfold maxLen at hcm
  go_enter Tryz.func40, Tryz.ntmps40
  go_wp2_with fail
  go_loop [5] (fun i => ∃ k : Nat, k ≤ l.length ∧ i = .int .i64 k ∧ Hid (∀ j x, j < k → l[j]? = some x → decide (s = x) = false)) (fun i => l.length - (intOf i).toNat)
  case atStart => exact ⟨0, Nat.zero_le _, rfl, fun j x hj => absurd hj (Nat.not_lt_zero _)⟩
  case round =>
    obtain ⟨k, hk, rfl, HA⟩ := hrel
    by_cases hlt : k < l.length
    · obtain ⟨d, hd⟩ : ∃ d, l[k]? = some d := ⟨_, List.getElem?_eq_getElem hlt⟩
      obtain ⟨b, o, rfl, _, c0⟩ := str_at hv hd
      have HD : Hid (l[k]? = some d) := hd
      clear hd hv
      by_cases hq0 : s = d
      · have HE : Hid ((l.any fun y => decide (s = y)) = true) := any_hit (p := fun y => decide (s = y)) HD.out (decide_eq_true hq0)
        subst hq0
        go_wp2_with fail
        go_ret
        exact ⟨by rw [HE.out]; rfl, rfl⟩
      · have hq : decide (s = d) = false := decide_eq_false hq0
        have hq2 : ¬ d = s := fun e => hq0 e.symm
        have hqb : (d.toList == s.toList) = false := by rw [bytes_beq]; exact decide_eq_false hq2
        have HS : Hid (∀ j y, j < k + 1 → l[j]? = some y → decide (s = y) = false) := miss_step (p := fun y => decide (s = y)) HA.out HD.out hq
        go_wp2_with fail
        go_round
        case rel => exact ⟨k + 1, by omega, by go_num, HS⟩
        case measure => simp [intOf]; omega
    · have hkl : k = l.length := by omega
      subst hkl
      have HE : Hid ((l.any fun y => decide (s = y)) = false) := any_miss (p := fun y => decide (s = y)) HA.out
      clear hv
      go_wp2_with fail
      go_ret
      exact ⟨by rw [HE.out]; rfl, rfl⟩
theorem ris_any (l : List Knd) (a b : ByteArray) (v : Value) (w : World) (hv : Sl kndL w v l) (hw : Wf l) (hn : 0 ≤ kFind l a) (hll : l.length ≤ 12) :
    Calls Tryz.prog 15 #[v, .string a, .string b] w fun e w' => e = .returned (.bool (isKinB l a b)) ∧ Below w.heap.size w w' := by
  have h1 := rkin_any l a v w hv hw hn hll
  obtain ⟨A, c, rfl, _, _⟩ := hv.form
  clear hv hw
  go_enter Tryz.func15, Tryz.ntmps15
  go_wp2_with fail
  refine h1.mono ?_
  clear h1
  rintro e w1 ⟨u, rfl, hu, hb1⟩
  have h2 := rin_any (kinL l a) b u w1 hu
  obtain ⟨A1, c1, rfl, _, _⟩ := hu.form
  clear hu
  go_wp2_with fail
  refine h2.mono ?_
  clear h2
  rintro e w2 ⟨rfl, rfl⟩
  have HB : Hid (((kinL l a).any fun y => decide (b = y)) = isKinB l a b) := rfl
  generalize ((kinL l a).any fun y => decide (b = y)) = q at *
  go_wp2_with fail
  go_ret
  exact ⟨ret_bool HB.out, hb1⟩
end Go.Proofs.YtfeccicogcnhcaaGreatDoor
