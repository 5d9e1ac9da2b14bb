/- Parts: NumA, TrA. -/
import Derived.Test.YtmbeeaohidgfgaaGreatDoorMg03
import Derived.Test.YtmbeeaohidgfgaaGreatDoorMg14
import Derived.Test.YtmbeeaohidgfgaaGreatDoorMg06
import Derived.Test.YtmbeeaohidgfgaaGreatDoorMg16
import Derived.Test.YtmbeeaohidgfgaaGreatDoorMg12
import Derived.Deep.DeepCutAuto
import Derived.BigRegion
/- Contract: schema.Number: a number of a text, of at most so many digits. Conditions: what the library's texts lean on (TxOk); the text is not too long. -/
namespace Go.Proofs.YtmbeeaohidgfgaaGreatDoor
open Go Go.RowKit

set_option maxHeartbeats 2000000 in
theorem num_any (s : ByteArray) (hs : Sm s) (d : Nat) (hd : d ≤ 9) (w : World) (hT : TxOk w) :
    Calls Tryz.prog 69 #[.string s, .int .i64 d] w fun e w' => ∃ n : Int, e = .returned (.tuple #[.int .i64 n, .bool (numL s.data.toList d).isSome]) ∧ (∀ u, numL s.data.toList d = some u → n = (u : Int)) ∧ Below w.heap.size w w' := by
  have hle : s.data.toList.length = s.size := by rw [Array.length_toList]; rfl
  unfold Sm at hs
  have hx := tx_atoi s w hT (by omega)
  have HT := Lib.hid hT
  clear hT
  go_enter Tryz.func69, Tryz.ntmps69
  go_wp2_with fail
  refine hx.mono ?_
  clear hx
  intro e w1 hat
  obtain ⟨hb1, hat⟩ := hat
  have HT1 := Lib.hid (HT.out.below hb1)
  rcases hat with ⟨v, hv, rfl⟩ | ⟨hv, n, tp, p, rfl⟩
  case inr =>
    have HN := Lib.hid (num_of_bad hd hv)
    clear hv
    go_wp2_with fail
    go_ret2
    exact ⟨n, by rw [HN.out]; rfl, (fun u hu => by rw [HN.out] at hu; cases hu), hb1⟩
  have hi := num_of_atoi hd hv
  have hvr := atoi_range hv
  unfold I64 at hvr
  have HI := Lib.hid hi
  clear hi hv
  have bad : ¬ (0 ≤ v ∧ s.data.toList.length ≤ d ∧ Lib.itoa v = s.data.toList) → Hid (numL s.data.toList d = none) := fun h => by
    unfold Hid; rw [HI.out, if_neg h]
  by_cases h0 : 0 ≤ v
  case neg =>
    have HN := bad fun e => h0 e.1
    have h0b : decide (0 ≤ v) = false := decide_eq_false h0
    clear bad h0 HI
    go_wp2_with fail
    go_ret2
    exact ⟨v, by rw [HN.out]; rfl, (fun u hu => by rw [HN.out] at hu; cases hu), hb1⟩
  by_cases hld : s.size ≤ d
  case neg =>
    have HN := bad fun e => hld (by rw [← hle]; exact e.2.1)
    have hlb : decide (s.size ≤ d) = false := decide_eq_false hld
    clear bad HI hld hle
    go_wp2_with fail
    go_ret2
    exact ⟨v, by rw [HN.out]; rfl, (fun u hu => by rw [HN.out] at hu; cases hu), hb1⟩
  have hlb : decide (s.size ≤ d) = true := decide_eq_true hld
  have hx := tx_itoa v hvr.1 hvr.2 w1 HT1.out.tab
  have hcut : ((⟨(Lib.itoa v).toArray⟩ : ByteArray).toList = s.toList) = (Lib.itoa v = s.data.toList) := by
    rw [bytes_eq]
    refine propext ⟨fun e => ?_, fun e => ?_⟩
    · rw [← e]
    · have := congrArg bs e
      rw [bs_of] at this; exact this
  obtain ⟨V, hV⟩ : ∃ V : ByteArray, V = ⟨(Lib.itoa v).toArray⟩ := ⟨_, rfl⟩
  rw [← hV] at hcut hx
  have HC := Lib.hid hcut
  have HLE := Lib.hid hle
  clear hV hcut hle
  go_wp2_with fail
  refine hx.mono ?_
  clear hx
  rintro e w2 ⟨rfl, hb2⟩
  have hB2 := hb1.trans (hb2.mono hb1.size)
  by_cases hc : Lib.itoa v = s.data.toList
  · have HN : Hid (numL s.data.toList d = some v.toNat) := by unfold Hid; rw [HI.out, if_pos ⟨h0, by rw [HLE.out]; exact hld, hc⟩]
    have hS : (V.toList == s.toList) = true := by rw [beq_iff_eq, HC.out]; exact hc
    clear bad HI hc HC
    go_wp2_with fail
    go_ret2
    exact ⟨v, by rw [HN.out]; rfl, (fun u hu => by rw [HN.out] at hu; injection hu with hu; omega), hB2⟩
  · have HN := bad fun e => hc e.2.2
    have hS : (V.toList == s.toList) = false := by
      rw [beq_eq_false_iff_ne]
      intro e
      rw [HC.out] at e
      exact hc e
    clear bad HI hc HC
    go_wp2_with fail
    go_ret2
    exact ⟨v, by rw [HN.out]; rfl, (fun u hu => by rw [HN.out] at hu; cases hu), hB2⟩


theorem three_parts {P : List (List UInt8)} (h1 : ¬ P.length < 3) (h2 : P.length ≤ 3) : ∃ a b c, P = [a, b, c] := by
  match P, h1, h2 with
  | [a, b, c], _, _ => exact ⟨a, b, c, rfl⟩
  | [], h1, _ => simp at h1
  | [_], h1, _ => simp at h1
  | [_, _], h1, _ => simp at h1
  | _ :: _ :: _ :: _ :: _, _, h2 => simp at h2
/-- What readNode answers. -/
def NodR (l : List UInt8) (w : World) (e : Ending) (w' : World) : Prop := ∃ (id : Int) (kd : ByteArray) (A : Option Addr) (n k : Nat),
  e = .returned (.tuple #[.agg #[.int .i64 id, .string kd, .slice A n k], .bool (readNodL l).isSome]) ∧ (∀ nd, readNodL l = some nd → id = nd.id ∧ kd = nd.kind ∧ n = nd.props.length ∧ OwnP w' w.heap.size (.slice A n k) nd.props ∧ I64 nd.id ∧ Sm nd.kind) ∧ Below w.heap.size w w'
theorem NodR.bad {l : List UInt8} {w w' : World} {e : Ending} {id : Int} {kd : ByteArray} {A : Option Addr} {n k : Nat} (h : readNodL l = none) (he : e = .returned (.tuple #[.agg #[.int .i64 id, .string kd, .slice A n k], .bool false])) (hb : Below w.heap.size w w') : NodR l w e w' :=
  ⟨id, kd, A, n, k, by rw [h]; exact he, (fun nd hn => by rw [h] at hn; cases hn), hb⟩
theorem res3d {w w1 : World} {T : TypeId} {c0 c1 c2 : Value} (a b c : Value) (hB : Below w.heap.size w w1) (h : w1.heap[w.heap.size]? = some (.cells #[c0, c1, c2] T (0, 0))) :
    Below w.heap.size w (((w1.setCell ⟨w.heap.size, 0, none⟩ a).setCell ⟨w.heap.size, 1, none⟩ b).setCell ⟨w.heap.size, 2, none⟩ c).drew ∧
    (((w1.setCell ⟨w.heap.size, 0, none⟩ a).setCell ⟨w.heap.size, 1, none⟩ b).setCell ⟨w.heap.size, 2, none⟩ c).drew.cell? ⟨w.heap.size, 0, none⟩ = some a ∧
    (((w1.setCell ⟨w.heap.size, 0, none⟩ a).setCell ⟨w.heap.size, 1, none⟩ b).setCell ⟨w.heap.size, 2, none⟩ c).drew.cell? ⟨w.heap.size, 1, none⟩ = some b ∧
    (((w1.setCell ⟨w.heap.size, 0, none⟩ a).setCell ⟨w.heap.size, 1, none⟩ b).setCell ⟨w.heap.size, 2, none⟩ c).drew.cell? ⟨w.heap.size, 2, none⟩ = some c := by
  obtain ⟨k1, k2, k3, k4⟩ := res3 a b c hB h
  exact ⟨k1.drew, k2, k3, k4⟩
set_option maxHeartbeats 4000000 in
theorem rnodT_any (s : ByteArray) (hs : Sm s) (w : World) (hT : TxOk w) : Calls Tryz.prog 42 #[.string s] w (NodR s.data.toList w) := by
  have hb0 : Below w.heap.size w (w.alloc (.cells #[.int .i64 0, .string ⟨#[]⟩, .slice none 0 0] 66)) := (Below.refl _ _).alloc (Nat.le_refl _) _
  have hbk := heap_alloc_new w (.cells #[.int .i64 0, .string ⟨#[]⟩, .slice none 0 0] 66)
  have HT := Lib.hid (hT.below hb0)
  have hle := len_size s
  have hx := tx_splitN s 32 _ HT.out.toTxP hs
  have hl3 := split3_len 32 s.data.toList
  have hpl := splitN_len 32 s.data.toList
  have HD : Hid (readNodL s.data.toList = match Lib.splitN s.data.toList [32] 3 with
    | [a, b, c] => if b = [] then none else match numL a 4 with
      | none => none
      | some n => if readRE c = 0 then some ⟨n, bs b, readRV c⟩ else none
    | _ => none) := rfl
  unfold Sm at hs
  generalize Lib.splitN s.data.toList [32] 3 = P at *
  have HPL : Hid (∀ x ∈ P, x.length ≤ 1048576) := fun x hx => by have := hpl x hx; omega
  clear hT hpl hle
  go_enter Tryz.func42, Tryz.ntmps42
  go_upto_region 1 with fail
  generalize w.alloc (.cells #[.int .i64 0, .string ⟨#[]⟩, .slice none 0 0] 66) = W0 at *
  go_wp2_with fail
  refine hx.mono ?_
  clear hx
  rintro e w1 ⟨k1, rfl, hsl, hb1⟩
  have hB1 := hb0.trans (hb1.mono hb0.size)
  have hbk1 := (hb1.block _ (Array.getElem?_eq_some_iff.1 hbk).1).trans hbk
  have HT1 := Lib.hid (HT.out.below hb1)
  have hne0 : w.heap.size ≠ W0.heap.size := by have := (Array.getElem?_eq_some_iff.1 hbk).1; omega
  clear hb0 hb1 hbk HT
  by_cases h3 : P.length < 3
  · have HN : Hid (readNodL s.data.toList = none) := by
      unfold Hid; rw [HD.out]
      split
      · rename_i a b c
        simp at h3
      · rfl
    obtain ⟨k1, k2, k3, k4⟩ := res3 (.int .i64 0) (.string ⟨#[]⟩) (.slice none 0 0) hB1 hbk1
    have y0 := block_cell hbk1 0
    have y1 := block_cell hbk1 1
    have y2 := block_cell hbk1 2
    have g0 := block_free hbk1 0
    have g1 := block_free hbk1 1
    have g2 := block_free hbk1 2
    have h3' : (P.length : Int) < 3 := by omega
    clear hsl HD
    go_wp2_with fail
    exact bodyPost_ret (v := .tuple #[.agg #[.int .i64 0, .string ⟨#[]⟩, .slice none 0 0], .bool false]) (by simp [results, Tryz.results42, go_sem, k2, k3, k4]) rfl (NodR.bad HN.out rfl k1)
  obtain ⟨a, b, c, rfl⟩ := three_parts h3 hl3
  clear h3 hl3
  have ha := HPL.out a (by simp)
  have hb := HPL.out b (by simp)
  have hc := HPL.out c (by simp)
  obtain ⟨gb, o, hA, _, q0⟩ := str_at (k := 0) hsl (d := bs a) rfl
  injection hA with hA
  injection hA with e1 e2
  subst e1
  subst e2
  obtain ⟨gb2, o2, hA, _, q1⟩ := str_at (k := 1) hsl (d := bs b) rfl
  injection hA with hA
  injection hA with e1 e2
  subst e1
  subst e2
  obtain ⟨gb3, o3, hA, _, q2⟩ := str_at (k := 2) hsl (d := bs c) rfl
  injection hA with hA
  injection hA with e1 e2
  subst e1
  subst e2
  rw [Nat.add_zero] at q0
  rw [Nat.zero_add] at q1 q2
  have HD2 : Hid (readNodL s.data.toList = if b = [] then none else match numL a 4 with
      | none => none
      | some n => if readRE c = 0 then some ⟨n, bs b, readRV c⟩ else none) := HD.out
  have hbt : ((bs b).toList = []) = (b = []) := by
    refine propext ⟨fun h => ?_, fun h => ?_⟩
    · have h2 : bs b = .empty := by rw [← bytes_eq, h, empty_list]
      have := congrArg (·.data.toList) h2
      simpa [bs] using this
    · subst h; exact empty_list
  have HBT := Lib.hid hbt
  rw [show ([a, b, c] : List (List UInt8)).length = 3 from rfl]
  obtain ⟨k1, k2, k3, k4⟩ := res3 (.int .i64 0) (.string ⟨#[]⟩) (.slice none 0 0) hB1 hbk1
  by_cases hb0 : b = []
  · have HN : Hid (readNodL s.data.toList = none) := by unfold Hid; rw [HD2.out, if_pos hb0]
    have y0 := block_cell hbk1 0
    have y1 := block_cell hbk1 1
    have y2 := block_cell hbk1 2
    have g0 := block_free hbk1 0
    have g1 := block_free hbk1 1
    have g2 := block_free hbk1 2
    have hbe : (bs b).toList = [] := by rw [hbt]; exact hb0
    clear hsl HD HD2 HPL hbt HBT hb0
    go_wp2_with fail
    exact bodyPost_ret (v := .tuple #[.agg #[.int .i64 0, .string ⟨#[]⟩, .slice none 0 0], .bool false]) (by simp [results, Tryz.results42, go_sem, k2, k3, k4]) rfl (NodR.bad HN.out rfl k1)
  have hbn : ¬ (bs b).toList = [] := by rw [hbt]; exact hb0
  have hbe : (bs b).toList.isEmpty = false := List.isEmpty_eq_false_iff.2 hbn
  have HD3 : Hid (readNodL s.data.toList = match numL a 4 with
      | none => none
      | some n => if readRE c = 0 then some ⟨n, bs b, readRV c⟩ else none) := by unfold Hid; rw [HD2.out, if_neg hb0]
  have hx := num_any (bs a) (by unfold Sm; rw [bs_size]; exact ha) 4 (by omega) w1 HT1.out
  rw [bs_list] at hx
  have hbs : (bs b).size ≤ 1048576 := by rw [bs_size]; exact hb
  have hX2 := Lib.hid (fun wx hw => rparse_own (bs c) (by unfold Sm; rw [bs_size]; exact hc) wx hw)
  have HI64 : Hid (∀ u, numL a 4 = some u → I64 (u : Int)) := fun u hu => by
    have h1 := (numL_iff.1 hu).1
    have h2 := atoi_back (u : Int) (by rw [itoa_nat, digits_trim, ← h1]; have := (numL_iff.1 hu).2; omega)
    exact atoi_range h2
  generalize numL a 4 = na at *
  generalize hRE : readRE c = re at *
  have HRE := Lib.hid hRE
  clear hsl HD HD2 HPL hbt HBT hb0 k1 k2 k3 k4 hRE
  go_wp2_with fail
  refine hx.mono ?_
  clear hx
  rintro e w2 ⟨n1, rfl, hn1, hb2⟩
  have hB2 := hB1.trans (hb2.mono hB1.size)
  have hbk2 := (hb2.block _ (Array.getElem?_eq_some_iff.1 hbk1).1).trans hbk1
  have q1 := cell_below hb2 q1
  have q2 := cell_below hb2 q2
  have hx := hX2.out w2 (HT1.out.below hb2)
  rw [bs_list, HRE.out] at hx
  have HN1 : Hid (∀ u, na = some u → n1 = (u : Int)) := hn1
  clear hbk1 q0 hB1 hb2 HT1 hX2 hn1
  go_wp2_with fail
  refine hx.mono ?_
  clear hx
  rintro e w3 ⟨AR, kR, rfl, hsR, hb3⟩
  have hB3 := hB2.trans (hb3.mono hB2.size)
  have hbk3 := (hb3.block _ (Array.getElem?_eq_some_iff.1 hbk2).1).trans hbk2
  have q1 := cell_below hb3 q1
  have y0 := block_cell hbk3 0
  have y1 := block_cell hbk3 1
  have y2 := block_cell hbk3 2
  have g0 := block_free hbk3 0
  have g1 := block_free hbk3 1
  have g2 := block_free hbk3 2
  have HSR := Lib.hid hsR
  generalize hRL : (readRV c).length = rl at *
  have HRL := Lib.hid hRL
  clear hB2 hb3 hsR hRL
  cases na with
  | none =>
    have HN : Hid (readNodL s.data.toList = none) := HD3.out
    rw [show (none : Option Nat).isSome = false from rfl]
    clear HD3 HI64 HN1
    go_upto_region 6 with fail
    go_region
    obtain ⟨k1, k2, k3, k4⟩ := res3d (.int .i64 n1) (.string (bs b)) (.slice AR rl kR) hB3 hbk3
    clear y0 y1 y2 g0 g1 g2 q1
    go_wp2_with fail
    exact bodyPost_ret (v := .tuple #[.agg #[.int .i64 n1, .string (bs b), .slice AR rl kR], .bool false]) (by simp [results, Tryz.results42, go_sem, k2, k3, k4]) rfl (NodR.bad HN.out rfl k1)
  | some u =>
    have hnu := HN1.out u rfl
    have hi64 := HI64.out u rfl
    rw [show (some u : Option Nat).isSome = true from rfl]
    have hD4 : readNodL s.data.toList = if re = 0 then some ⟨(u : Int), bs b, readRV c⟩ else none := HD3.out
    have HD4 := Lib.hid hD4
    clear HD3 HI64 HN1 hD4
    by_cases hz : re = 0
    · have HN : Hid (readNodL s.data.toList = some ⟨(u : Int), bs b, readRV c⟩) := by unfold Hid; rw [HD4.out, if_pos hz]
      rw [errV_zero hz]
      have HNU := Lib.hid hnu
      clear HD4 hz hnu
      go_upto_region 6 with fail
      go_region
      obtain ⟨k1, k2, k3, k4⟩ := res3d (.int .i64 n1) (.string (bs b)) (.slice AR rl kR) hB3 hbk3
      have hne := fun q hq => (HSR.out.1.lt q hq).1
      have hl0 : w.heap.size < w2.heap.size := (Array.getElem?_eq_some_iff.1 hbk2).1
      have hS : OwnP (((w3.setCell ⟨w.heap.size, 0, none⟩ (.int .i64 n1)).setCell ⟨w.heap.size, 1, none⟩ (.string (bs b))).setCell ⟨w.heap.size, 2, none⟩ (.slice AR rl kR)).drew w.heap.size (.slice AR rl kR) (readRV c) := by
        have hn : (Value.slice AR rl kR).ownBlock ≠ some w.heap.size := fun e => by have := hne _ e; omega
        have h0 : OwnP w3 w2.heap.size (.slice AR rl kR) (readRV c) := HSR.out
        refine ⟨?_, h0.2⟩
        have h1 := ((h0.1.setCell ⟨w.heap.size, 0, none⟩ (.int .i64 n1) hn).setCell ⟨w.heap.size, 1, none⟩ (.string (bs b)) hn).setCell ⟨w.heap.size, 2, none⟩ (.slice AR rl kR) hn
        exact (h1.drewN 1).mono (Nat.le_of_lt hl0)
      clear y0 y1 y2 g0 g1 g2 q1
      go_wp2_with fail
      exact bodyPost_ret (v := .tuple #[.agg #[.int .i64 n1, .string (bs b), .slice AR rl kR], .bool true]) (by simp [results, Tryz.results42, go_sem, k2, k3, k4]) rfl ⟨n1, bs b, AR, rl, kR, by rw [HN.out]; rfl, (fun nd hn => by
        rw [HN.out] at hn
        injection hn with hn
        subst hn
        exact ⟨HNU.out, rfl, HRL.out.symm, hS, hi64, hbs⟩), k1⟩
    · have HN : Hid (readNodL s.data.toList = none) := by unfold Hid; rw [HD4.out, if_neg hz]
      rw [errV_some hz]
      clear HD4 hz hnu
      go_upto_region 6 with fail
      go_region
      obtain ⟨k1, k2, k3, k4⟩ := res3d (.int .i64 n1) (.string (bs b)) (.slice AR rl kR) hB3 hbk3
      clear y0 y1 y2 g0 g1 g2 q1
      go_wp2_with fail
      exact bodyPost_ret (v := .tuple #[.agg #[.int .i64 n1, .string (bs b), .slice AR rl kR], .bool false]) (by simp [results, Tryz.results42, go_sem, k2, k3, k4]) rfl (NodR.bad HN.out rfl k1)
end Go.Proofs.YtmbeeaohidgfgaaGreatDoor
