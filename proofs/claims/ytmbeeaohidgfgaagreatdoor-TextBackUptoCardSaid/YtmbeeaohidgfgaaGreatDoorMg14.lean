/- Parts: RcA, LinA, VpP. -/
import Derived.Test.YtmbeeaohidgfgaaGreatDoorMg08
import Derived.Test.YtmbeeaohidgfgaaGreatDoorMg11
import Derived.Test.YtmbeeaohidgfgaaGreatDoorMg06
import Derived.Test.YtmbeeaohidgfgaaGreatDoorMg01
import Derived.Test.YtmbeeaohidgfgaaGreatDoorMg13
import Derived.Test.YtmbeeaohidgfgaaGreatDoorMg05
import Derived.RegionIn
import Derived.Lib.IndexLaws
import Derived.IntWalk
import Derived.Lib.AtoiTie
/- Contract: record.Cut: a text cut at a sign that is in no quotes. Conditions: the text is not too long; the sign is no quote. -/
namespace Go.Proofs.YtmbeeaohidgfgaaGreatDoor
open Go Go.RowKit

theorem take_more {l : List UInt8} {f k : Nat} {x : UInt8} (hf : f ≤ k) (hx : l[k]? = some x) : (l.drop f).take (k + 1 - f) = (l.drop f).take (k - f) ++ [x] := by
  have e : k + 1 - f = (k - f) + 1 := by omega
  rw [e, List.take_add_one, List.getElem?_drop]
  have e2 : f + (k - f) = k := by omega
  rw [e2, hx]; rfl
theorem drop_one {l : List UInt8} {k : Nat} {x : UInt8} (hx : l[k]? = some x) : l.drop k = x :: l.drop (k + 1) := by
  have hlt := (List.getElem?_eq_some_iff.1 hx).1
  rw [List.drop_eq_getElem_cons hlt]
  have := (List.getElem?_eq_some_iff.1 hx).2
  rw [this]
theorem ext_list (s : ByteArray) (f k : Nat) : s.extract f k = bs ((s.data.toList.drop f).take (k - f)) := by
  rw [← bs_of (s.extract f k), Lib.extract_data]
theorem flat_wv : ∀ xs : List (List UInt8), (xs.map bs).flatMap (fun s => [Value.string s]) = wv xs
  | [] => rfl
  | x :: xs => by
    have ih := flat_wv xs
    unfold wv at ih ⊢
    rw [List.map_cons, List.flatMap_cons, ih]; rfl
theorem own_words {w : World} {B : Nat} {v : Value} {xs : List (List UInt8)} (h : Own w B 9 1 v xs.length (wv xs)) (hl : ∀ x ∈ xs, x.length ≤ 1048576) : Sl strL w v (xs.map bs) := by
  have h2 : Own w B 9 1 v (xs.map bs).length ((xs.map bs).flatMap fun s => [.string s]) := by
    have e : (xs.map bs).flatMap (fun s => [Value.string s]) = wv xs := flat_wv xs
    rw [e, List.length_map]; exact h
  refine Own.flat (enc := fun s : ByteArray => [Value.string s]) (n := 1) (ok := Sm) (fun _ => rfl) (fun x hx => ?_) h2
  · obtain ⟨y, hy, rfl⟩ := List.mem_map.1 hx
    unfold Sm; rw [bs_size]; exact hl y hy
theorem cutF_lens (c : UInt8) : ∀ (l : List UInt8) (q : Bool) (cur : List UInt8), ∀ x ∈ cutF c q cur l, x.length ≤ cur.length + l.length
  | [], q, cur, x, hx => by rcases List.mem_singleton.1 hx with rfl; simp
  | y :: l, q, cur, x, hx => by
    rw [cutF_cons] at hx
    split at hx
    · have := cutF_lens c l _ _ x hx; simp at *; omega
    · split at hx
      · rcases List.mem_cons.1 hx with rfl | hx
        · simp
        · have := cutF_lens c l _ _ x hx; simp at *; omega
      · have := cutF_lens c l _ _ x hx; simp at *; omega
set_option maxHeartbeats 4000000 in
theorem cut_any (s : ByteArray) (c : UInt8) (w : World) (hs : Sm s) :
    Calls Tryz.prog 26 #[.string s, .int .u8 c.toNat] w fun e w' => ∃ A k, e = .returned (.slice A (cutL c s.data.toList).length k) ∧ Sl strL w' (.slice A (cutL c s.data.toList).length k) ((cutL c s.data.toList).map bs) ∧ Below w.heap.size w w' := by
  obtain ⟨i0, ei, ez, ez1, ez2⟩ := info_parts str_info
  have hle : s.data.toList.length = s.size := by rw [Array.length_toList]; rfl
  unfold Sm at hs
  have HLE := Lib.hid hle
  have HLN : Hid (∀ x ∈ cutL c s.data.toList, x.length ≤ 1048576) := fun x hx => by
    have := cutF_lens c s.data.toList false [] x hx
    simp at this
    omega
  clear hle
  go_enter Tryz.func26, Tryz.ntmps26
  go_wp2_with fail
  go_loopw [4, 5, 6, 7, 10, 13, 20] (fun x4 x5 x6 _ x10 _ _ wr => ∃ (k f : Nat) (done : List (List UInt8)) (q : Bool), k ≤ s.size ∧ f ≤ k ∧ done.length ≤ k ∧ x10 = .int .i64 k ∧ x5 = .int .i64 f ∧ x6 = .bool q ∧ Below w.heap.size w wr ∧ Hid (Own wr w.heap.size 9 1 x4 done.length (wv done)) ∧ Hid (done ++ cutF c q ((s.data.toList.drop f).take (k - f)) (s.data.toList.drop k) = cutL c s.data.toList)) (fun _ _ _ _ i _ _ _ => s.size - (intOf i).toNat)
  case atStart => exact ⟨0, 0, [], false, Nat.zero_le _, Nat.le_refl _, Nat.le_refl _, rfl, rfl, rfl, Below.refl _ _, Own.nil _ _ _ _, rfl⟩
  case round =>
    obtain ⟨k, f, done, q, hk, hfk, hdk, rfl, rfl, rfl, hbr, HO, HX⟩ := hrel
    obtain ⟨wo, hwo⟩ : ∃ wo : World, wo = wr := ⟨_, rfl⟩
    subst hwo
    obtain ⟨A4, c4, rfl, hc4, _⟩ := HO.out.form
    by_cases hlt : k < s.size
    · have hlt' : (k : Int) < (s.size : Int) := by omega
      have hx : s.data.toList[k]? = some s[k] := by
        rw [List.getElem?_eq_getElem (by rw [HLE.out]; exact hlt)]; rfl
      have HX1 := Lib.hid (take_more hfk hx)
      have HX2 := Lib.hid (drop_one hx)
      have HST : Hid (done ++ cutF c q ((s.data.toList.drop f).take (k - f)) (s[k] :: s.data.toList.drop (k + 1)) = cutL c s.data.toList) := by
        unfold Hid; rw [← HX2.out]; exact HX.out
      generalize hsk : s[k] = x at *
      have HSK := Lib.hid hsk
      clear hx HX HX2
      by_cases h39 : x = 39
      · have hb39 : ((s[k].toNat : Int) == 39) = true := by rw [HSK.out, h39]; rfl
        have HN : Hid (done ++ cutF c (!q) ((s.data.toList.drop f).take (k + 1 - f)) (s.data.toList.drop (k + 1)) = cutL c s.data.toList) := by
          unfold Hid; rw [HX1.out, ← HST.out, cutF_cons, if_pos h39]
        clear h39 hsk HST HX1
        go_wp2_with fail
        go_roundw
        case rel => exact ⟨k + 1, f, done, !q, by omega, by omega, by omega, by go_num, rfl, rfl, hbr, HO, HN⟩
        case measure => simp [intOf]; omega
      · have hb39 : ((s[k].toNat : Int) == 39) = false := by
          rw [HSK.out, beq_eq_false_iff_ne]
          intro e
          exact h39 (UInt8.toNat_inj.1 (by show x.toNat = 39; omega))
        by_cases hc : x = c
        · have hbc : ((s[k].toNat : Int) == (c.toNat : Int)) = true := by rw [HSK.out, hc]; simp
          cases q with
          | true =>
            have HN : Hid (done ++ cutF c true ((s.data.toList.drop f).take (k + 1 - f)) (s.data.toList.drop (k + 1)) = cutL c s.data.toList) := by
              unfold Hid; rw [HX1.out, ← HST.out, cutF_cons, if_neg h39, if_neg (fun e => by cases e.2)]
            clear h39 hsk HST HX1 hc
            go_wp2_with fail
            go_roundw
            case rel => exact ⟨k + 1, f, done, true, by omega, by omega, by omega, by go_num, rfl, rfl, hbr, HO, HN⟩
            case measure => simp [intOf]; omega
          | false =>
            have HN : Hid ((done ++ [(s.data.toList.drop f).take (k - f)]) ++ cutF c false ((s.data.toList.drop (k + 1)).take (k + 1 - (k + 1))) (s.data.toList.drop (k + 1)) = cutL c s.data.toList) := by
              unfold Hid; rw [← HST.out, cutF_cons, if_neg h39, if_pos ⟨hc, rfl⟩]; simp
            clear h39 hsk HST HX1 hc
            -- an append of s[f:k]: 30, 35: the temporaries; wo: the world; k: the piece's end, spelled
            have HOA : Hid (Own (wo.alloc (.cells #[.string (s.extract f k)] 9)) w.heap.size 9 1 (.slice A4 done.length c4) done.length (wv done)) := HO.out.alloc _
            have HN : Hid (∀ j u, ([.string (s.extract f k)] : List Value)[j]? = some u → (wo.alloc (.cells #[.string (s.extract f k)] 9)).cell? ⟨wo.heap.size, j, none⟩ = some u) := fun j u hj => by
              rw [World.cell?_alloc_at _ _ _ _ rfl]; simpa using hj
            have hA4 := hbr.alloc hbr.size (.cells #[.string (s.extract f k)] 9)
            clear hbr HO
            go_wp2_with (at_builtin; refine wpList_append_q _ rfl (.tmp 30) (.tmp 35) _ rfl w.heap.size 9 i0 (.string .empty) 1 16 Tryz.underlying50 ei ez ez1 ez2 rfl (by decide) (.slice A4 done.length c4) done.length (wv done) rfl HOA.out (some ⟨wo.heap.size, 0, none⟩) 1 1 [.string (s.extract f k)] rfl rfl (fun _ => ⟨_, rfl, fun j u hj => by rw [addr_add, Nat.zero_add]; exact HN.out j u hj⟩) (fun u hu => by simp at hu; subst hu; rfl) (by unfold maxLen; omega) (by omega) (by have := hA4.size; exact this) ?_; intro v9 w9 hown9 hg9 hat9)
            have hB9 : Below w.heap.size w w9 := hA4.grown hg9 hA4.size (fun kk e => (HOA.out.lt kk e).1)
            have HO9 : Hid (Own w9 w.heap.size 9 1 v9 (done.length + 1) (wv (done ++ [(s.data.toList.drop f).take (k - f)]))) := by
              unfold Hid wv
              rw [List.map_append]
              have h := hown9
              rw [ext_list] at h
              exact h
            clear hg9 hat9 hown9 HOA HN hA4
            go_wp2_with fail
            go_roundw
            case rel => exact ⟨k + 1, k + 1, done ++ [(s.data.toList.drop f).take (k - f)], false, by omega, by omega, by simp; omega, by go_num, by go_num, rfl, hB9, by rw [List.length_append]; exact HO9, HN⟩
            case measure => simp [intOf]; omega
        · have hbc : ((s[k].toNat : Int) == (c.toNat : Int)) = false := by
            rw [HSK.out, beq_eq_false_iff_ne]
            intro e
            exact hc (UInt8.toNat_inj.1 (by omega))
          have HN : Hid (done ++ cutF c q ((s.data.toList.drop f).take (k + 1 - f)) (s.data.toList.drop (k + 1)) = cutL c s.data.toList) := by
            unfold Hid; rw [HX1.out, ← HST.out, cutF_cons, if_neg h39, if_neg (fun e => hc e.1)]
          clear h39 hsk HST HX1 hc
          go_wp2_with fail
          go_roundw
          case rel => exact ⟨k + 1, f, done, q, by omega, by omega, by omega, by go_num, rfl, rfl, hbr, HO, HN⟩
          case measure => simp [intOf]; omega
    · obtain rfl : k = s.size := by omega
      have hdn : decide (s.size < s.size) = false := by simp
      have HN : Hid (done ++ [(s.data.toList.drop f).take (s.size - f)] = cutL c s.data.toList) := by
        have h := HX.out
        have e : s.data.toList.drop s.size = [] := List.drop_eq_nil_of_le (by rw [HLE.out]; exact Nat.le_refl _)
        rw [e] at h
        exact h
      clear hlt hk HX
      -- an append of s[f:s.size]: 40, 44: the temporaries; wo: the world; s.size: the piece's end, spelled
      have HOA : Hid (Own (wo.alloc (.cells #[.string (s.extract f s.size)] 9)) w.heap.size 9 1 (.slice A4 done.length c4) done.length (wv done)) := HO.out.alloc _
      have HN : Hid (∀ j u, ([.string (s.extract f s.size)] : List Value)[j]? = some u → (wo.alloc (.cells #[.string (s.extract f s.size)] 9)).cell? ⟨wo.heap.size, j, none⟩ = some u) := fun j u hj => by
        rw [World.cell?_alloc_at _ _ _ _ rfl]; simpa using hj
      have hA4 := hbr.alloc hbr.size (.cells #[.string (s.extract f s.size)] 9)
      clear hbr HO
      go_wp2_with (at_builtin; refine wpList_append_q _ rfl (.tmp 40) (.tmp 44) _ rfl w.heap.size 9 i0 (.string .empty) 1 16 Tryz.underlying50 ei ez ez1 ez2 rfl (by decide) (.slice A4 done.length c4) done.length (wv done) rfl HOA.out (some ⟨wo.heap.size, 0, none⟩) 1 1 [.string (s.extract f s.size)] rfl rfl (fun _ => ⟨_, rfl, fun j u hj => by rw [addr_add, Nat.zero_add]; exact HN.out j u hj⟩) (fun u hu => by simp at hu; subst hu; rfl) (by unfold maxLen; omega) (by omega) (by have := hA4.size; exact this) ?_; intro v9 w9 hown9 hg9 hat9)
      have hB9 : Below w.heap.size w w9 := hA4.grown hg9 hA4.size (fun kk e => (HOA.out.lt kk e).1)
      have HO9 : Hid (Own w9 w.heap.size 9 1 v9 (done.length + 1) (wv (done ++ [(s.data.toList.drop f).take (s.size - f)]))) := by
        unfold Hid wv
        rw [List.map_append]
        have h := hown9
        rw [ext_list] at h
        exact h
      clear hg9 hat9 hown9 HOA HN hA4
      go_wp2_with fail
      have hn9 : done.length + 1 = (cutL c s.data.toList).length := by rw [← HN.out]; simp
      obtain ⟨A9, c9, rfl, _, _⟩ := HO9.out.form
      have HF : Hid (Sl strL w9 (.slice A9 (cutL c s.data.toList).length c9) ((cutL c s.data.toList).map bs)) := by
        have h := HO9.out
        rw [HN.out, hn9] at h
        exact own_words h HLN.out
      have HN9 := Lib.hid hn9
      clear hn9 HN HO9 HLN
      go_ret
      exact ⟨A9, c9, by first | rfl | (rw [HN9.out]; rfl), HF.out, hB9⟩
open Go Go.RowKit Go.Shelf

attribute [local go_sem] Oper.semAt_some
theorem idxByte_no {l : List UInt8} {c : UInt8} (h : noB c l) : Lib.indexByte l c = -1 := by
  rcases Int.lt_or_le (Lib.indexByte l c) 0 with h1 | h1
  · have := Lib.indexByte_ge l c; omega
  · obtain ⟨o, ho⟩ : ∃ o : Nat, Lib.indexByte l c = o := ⟨(Lib.indexByte l c).toNat, by omega⟩
    exact absurd rfl (h c (List.mem_of_getElem? (Lib.indexByte_some ho).1))
theorem idxByte_hit {c : UInt8} {a r : List UInt8} (h : noB c a) : Lib.indexByte (a ++ c :: r) c = a.length := by
  have hn : Lib.indexByte (a ++ c :: r) c ≠ -1 := fun e => Lib.indexByte_none e a.length (by simp)
  have hg := Lib.indexByte_ge (a ++ c :: r) c
  obtain ⟨o, ho⟩ : ∃ o : Nat, Lib.indexByte (a ++ c :: r) c = o := ⟨(Lib.indexByte (a ++ c :: r) c).toNat, by omega⟩
  obtain ⟨h1, h2⟩ := Lib.indexByte_some ho
  rw [ho]
  rcases Nat.lt_trichotomy o a.length with h3 | h3 | h3
  · rw [List.getElem?_append_left h3] at h1
    exact absurd rfl (h c (List.mem_of_getElem? h1))
  · rw [h3]
  · exact absurd (by simp) (h2 a.length h3)
/-- What the iterator does between the rounds: draws, and stores into its box. -/
def LStep (q : Nat) (X Y : World) : Prop := (∃ m, Y = X.drewN m) ∨ ∃ v m, Y = (X.setCell ⟨q, 0, none⟩ v).drewN m
/-- What a round keeps: the iterator's box, and what lay below n. -/
def LKeep (n q : Nat) (X Y : World) : Prop := Below n X Y ∧ Y.heap[q]? = X.heap[q]?
/-- How much text is left in the box. -/
def leftIn (q : Nat) (w : World) : Nat := match w.cell? ⟨q, 0, none⟩ with | some (.string s) => s.size | _ => 0
theorem left_of {q : Nat} {w : World} {s : ByteArray} {t : TypeId} (h : w.heap[q]? = some (.cells #[.string s] t (0, 0))) : leftIn q w = s.size := by
  unfold leftIn
  have : w.cell? ⟨q, 0, none⟩ = some (.string s) := block_cell h 0
  rw [this]
/-- A line that is not too long. -/
abbrev Ln := { x : List UInt8 // x.length ≤ 1048576 }
def lnL (pre : List Ln) : List (List UInt8) := pre.map fun x => x.1
theorem lnL_snoc (pre : List Ln) (x : Ln) : lnL (pre ++ [x]) = lnL pre ++ [x.1] := by unfold lnL; rw [List.map_append]; rfl
set_option maxRecDepth 100000 in
set_option maxHeartbeats 4000000 in
theorem lines1_in (n : Nat) (hn : 1 ≤ n) (B q : Nat) (_hq : B ≤ q) (l : List UInt8) (hl : l.length ≤ 1048576) (w : World) (hqw : w.heap[q]? = some (.cells #[.string (bs l)] 9 (0, 0))) (_hBw : B ≤ w.heap.size) :
    Stirs Fence.wide n Tryz.prog 61 #[.pointer (some ⟨q, 0, none⟩)] (fun x : Ln => #[.string (bs x.1)]) (LKeep B q) (LStep q) (fun xs => lnL xs = linesL l) (fun pre => lnL pre <+: linesL l) w := by
  intro lr J Jx W hW hJ hJx hY h0
  have hqW := (hW.block _ (Array.getElem?_eq_some_iff.1 hqw).1).trans hqw
  have HJ := Lib.hid hJ
  clear hW hqw
  refine callsIn_of_wp Tryz.func61 rfl trivial ?_ rfl
  simp only [Tryz.ntmps61, List.size_toArray, List.length_cons, List.length_nil, Nat.reduceAdd, Nat.reduceSub, Array.replicate_succ, Array.replicate_zero, List.push_toArray, List.append_toArray, List.nil_append, List.cons_append]
  gi_wp2
  gi_loopw [3, 4] (fun _ _ wr => ∃ (pre : List Ln) (rest : List UInt8), J pre wr ∧ wr.heap[q]? = some (.cells #[.string (bs rest)] 9 (0, 0)) ∧ Hid (lnL pre ++ linesL rest = linesL l) ∧ rest.length ≤ 1048576) (fun _ _ wr => leftIn q wr)
  case atStart => exact ⟨[], l, h0, hqW, rfl, hl⟩
  case round =>
    obtain ⟨pre, rest, hJs, hqr, HP, hrl⟩ := hrel
    have c0 := block_cell hqr 0
    have f0 := block_free hqr 0
    have hsz : (bs rest).size = rest.length := bs_size rest
    have HSZ := Lib.hid hsz
    by_cases he : rest = []
    · subst he
      have h0b : decide ((0 : Int) < ((bs ([] : List UInt8)).size : Int)) = false := rfl
      clear hsz
      gi_wp2
      go_end0
      have hp := HP.out
      rw [lines_nil, List.append_nil] at hp
      exact ⟨⟨_, rfl⟩, .inl ⟨_, hp, hJs⟩⟩
    · have hpos : (0 : Int) < ((bs rest).size : Int) := by
        rw [hsz]
        have : 0 < rest.length := List.length_pos_iff.2 he
        omega
      have hx := (callsIn_wide (n := n - 1)).2 (tx_idxByte (bs rest) 10 wr)
      rw [bs_list, show (10 : Int).toNat.toUInt8 = (10 : UInt8) from rfl] at hx
      clear hsz
      rcases first_sign 10 rest with hno | ⟨a, r, rfl, hno⟩
      · rw [idxByte_no hno] at hx
        have HL := Lib.hid (lines_no hno he)
        have hpos1 : (bs []).size < (bs rest).size := by rw [bs_size, bs_size]; exact List.length_pos_iff.2 he
        have HX : Hid (lnL (pre ++ [⟨rest, hrl⟩]) <+: linesL l) := by unfold Hid; rw [← HP.out, HL.out, lnL_snoc]; exact List.prefix_refl _
        obtain ⟨fn, tmps, assign, body, hy, hR⟩ := hY pre ⟨rest, hrl⟩ (wr.setCell ⟨q, 0, none⟩ (.string ⟨#[]⟩)) HX.out (HJ.out _ _ _ hJs (.inr ⟨_, 0, rfl⟩))
        have hq2 := setCell_block hqr 0 (.string ⟨#[]⟩)
        clear hno he
        gi_wp2_with (refine ⟨trivial, ?_⟩; gi_at_call 62; refine hx.mono ?_; rintro e w2 ⟨rfl, rfl⟩)
        refine hR.mono ?_
        rintro e W3 (⟨rfl, hJ3, hk3⟩ | ⟨rfl, hJx3⟩)
        · have hq3 : W3.heap[q]? = some (.cells #[.string (bs [])] 9 (0, 0)) := hk3.2.trans hq2
          clear hR hy hq2 c0 f0
          gi_wp2
          go_roundw
          case rel => exact ⟨pre ++ [⟨rest, hrl⟩], [], hJ3, hq3, by unfold Hid; rw [lines_nil, List.append_nil, ← HP.out, HL.out, lnL_snoc], Nat.zero_le _⟩
          case measure => rw [left_of hq3, left_of hqr]; exact hpos1
        · clear hR hy hq2 c0 f0
          gi_wp2
          refine bodyPost_ret (results_none rfl _ _ _) rfl ?_
          exact ⟨⟨_, rfl⟩, .inr ⟨_, HX.out, hJx3⟩⟩
      · rw [idxByte_hit hno] at hx
        have HL := Lib.hid (lines_sign (r := r) hno)
        have hal : (bs (a ++ 10 :: r)).size = a.length + 1 + r.length := by rw [bs_size]; simp; omega
        have hal1 : (a.length : Int) + 1 ≤ ((bs (a ++ 10 :: r)).size : Int) := by rw [hal]; omega
        have HAL := Lib.hid hal
        clear hno he hal
        gi_wp2_with (refine ⟨trivial, ?_⟩; gi_at_call 62; refine hx.mono ?_; rintro e w2 ⟨rfl, rfl⟩)
        have hrl2 : a.length + 1 + r.length ≤ 1048576 := by simp at hrl; omega
        have hwr : wrap64 ((a.length : Int) + 1) = (a.length : Int) + 1 := IntWalk.wrap64_in _ (by omega)
        have hw0 : (0 : Int) ≤ (a.length : Int) + 1 := by omega
        have hwn : ((a.length : Int) + 1).toNat = a.length + 1 := by omega
        gi_region
        have hE1 : (bs (a ++ 10 :: r)).extract 0 (a.length + 1) = bs (a ++ [10]) := by
          rw [ext_list, bs_list]
          have : a ++ 10 :: r = (a ++ [10]) ++ r := by simp
          rw [this, List.drop_zero, Nat.sub_zero, List.take_left' (by simp)]
        have hE2 : (bs (a ++ 10 :: r)).extract (a.length + 1) (bs (a ++ 10 :: r)).size = bs r := by
          rw [ext_list, bs_list, drop_behind, HAL.out]
          rw [List.take_of_length_le (by omega)]
        rw [hE1, hE2]
        clear hE1 hE2 hwr hwn
        have hal2 : (a ++ [10]).length ≤ 1048576 := by simp; omega
        have HX : Hid (lnL (pre ++ [⟨a ++ [10], hal2⟩]) <+: linesL l) := by unfold Hid; rw [← HP.out, HL.out, lnL_snoc]; exact ⟨linesL r, by simp⟩
        obtain ⟨fn, tmps, assign, body, hy, hR⟩ := hY pre ⟨a ++ [10], hal2⟩ (wr.setCell ⟨q, 0, none⟩ (.string (bs r))).drew HX.out (HJ.out _ _ _ hJs (.inr ⟨_, 1, rfl⟩))
        have hq2 : (wr.setCell ⟨q, 0, none⟩ (.string (bs r))).drew.heap[q]? = some (.cells #[.string (bs r)] 9 (0, 0)) := setCell_block hqr 0 (.string (bs r))
        clear hY
        gi_wp2
        refine hR.mono ?_
        rintro e W3 (⟨rfl, hJ3, hk3⟩ | ⟨rfl, hJx3⟩)
        · have hq3 : W3.heap[q]? = some (.cells #[.string (bs r)] 9 (0, 0)) := hk3.2.trans hq2
          clear hR hy hq2 c0 f0
          gi_wp2
          go_roundw
          case rel => exact ⟨pre ++ [⟨a ++ [10], hal2⟩], r, hJ3, hq3, by unfold Hid; rw [← HP.out, HL.out, lnL_snoc]; simp, by omega⟩
          case measure => rw [left_of hq3, left_of hqr, HAL.out, bs_size]; omega
        · clear hR hy hq2 c0 f0
          gi_wp2
          refine bodyPost_ret (results_none rfl _ _ _) rfl ?_
          exact ⟨⟨_, rfl⟩, .inr ⟨_, HX.out, hJx3⟩⟩
theorem lines_ne : ∀ (n : Nat) (l : List UInt8), l.length ≤ n → ∀ x ∈ linesL l, x ≠ []
  | n, l, hn, x, hx => by
    rcases cut_cases 10 l with ⟨_, hno⟩ | ⟨a, r, rfl, ha, _⟩
    · by_cases h0 : l = []
      · subst h0; rw [lines_nil] at hx; cases hx
      · rw [lines_no hno h0] at hx
        rw [List.mem_singleton.1 hx]; exact h0
    · rw [lines_sign ha] at hx
      rcases List.mem_cons.1 hx with rfl | hx
      · simp
      · have hlen : (a ++ 10 :: r).length = a.length + r.length + 1 := by simp; omega
        match n, hn with
        | 0, hn => omega
        | n + 1, hn => exact lines_ne n r (by omega) x hx
theorem flatten_ge : ∀ (L : List (List UInt8)), (∀ x ∈ L, x ≠ []) → L.length ≤ L.flatten.length
  | [], _ => Nat.zero_le _
  | x :: L, h => by
    have h1 := List.length_pos_iff.2 (h x (by simp))
    have h2 := flatten_ge L fun y hy => h y (by simp [hy])
    simp only [List.flatten_cons, List.length_append, List.length_cons]; omega
theorem lines_len (l : List UInt8) : (linesL l).length ≤ l.length := by
  have := flatten_ge (linesL l) (lines_ne _ l (Nat.le_refl _))
  rw [lines_whole _ l (Nat.le_refl _)] at this
  exact this
theorem lnL_len (pre : List Ln) : (lnL pre).length = pre.length := by unfold lnL; simp
open Go

/-- A numeral that is not too long is read as it was written. -/
theorem atoi_back (n : Int) (h : (Lib.trimPrefix (Lib.itoa n) [45]).length ≤ 9) : Lib.atoiAll (Lib.itoa n) = .ok n := by
  refine atoi_itoa ?_
  rcases itoa_cases n with ⟨u, hu, e⟩ | ⟨u, h0, hu, e⟩
  · rw [e, digits_trim] at h
    rw [e]; omega
  · rw [e, minus_trim] at h
    rw [e, List.length_cons]; omega
theorem atoi_range {l : List UInt8} {v : Int} (h : Lib.atoiAll l = .ok v) : I64 v := by
  unfold Lib.atoiAll at h
  unfold I64
  split at h
  · cases h
  · rename_i c r
    simp only at h
    split at h
    · cases h
    · cases h
    · rename_i u hu
      split at h
      · cases h
      · rename_i h1
        split at h
        · cases h
        · rename_i h2
          injection h with h
          by_cases hn : c.toNat = 45
          · rw [if_pos hn] at h
            have : ¬ 9223372036854775808 < u := fun e => h2 ⟨hn, e⟩
            omega
          · rw [if_neg hn] at h
            have : ¬ 9223372036854775808 ≤ u := fun e => h1 ⟨hn, e⟩
            omega
/-- Whether Atoi's number is written so, and is short: the number that is read. -/
theorem int_of_atoi {l : List UInt8} {v : Int} (h : Lib.atoiAll l = .ok v) : intL9 l = if Lib.itoa v = l ∧ (Lib.trimPrefix l [45]).length ≤ 9 then some v else none := by
  split
  · rename_i hc; exact intL9_iff.2 hc
  · rename_i hc
    cases hq : intL9 l with
    | none => rfl
    | some n =>
      obtain ⟨e1, e2⟩ := intL9_iff.1 hq
      have h2 := atoi_back n (by rw [e1]; exact e2)
      rw [e1, h] at h2
      injection h2 with h2
      subst h2
      exact absurd ⟨e1, e2⟩ hc
theorem int_of_bad {l : List UInt8} (h : ∀ v, Lib.atoiAll l ≠ .ok v) : intL9 l = none := by
  cases hq : intL9 l with
  | none => rfl
  | some n =>
    obtain ⟨e1, e2⟩ := intL9_iff.1 hq
    have h2 := atoi_back n (by rw [e1]; exact e2)
    rw [e1] at h2
    exact absurd h2 (h n)
/-- The same for numbers of a few digits. -/
theorem num_of_atoi {l : List UInt8} {v : Int} {m : Nat} (hm : m ≤ 9) (h : Lib.atoiAll l = .ok v) : numL l m = if 0 ≤ v ∧ l.length ≤ m ∧ Lib.itoa v = l then some v.toNat else none := by
  split
  · rename_i hc
    obtain ⟨u, hu⟩ : ∃ u : Nat, v = u := ⟨v.toNat, by omega⟩
    subst hu
    refine numL_iff.2 ⟨?_, hc.2.1⟩
    rw [← hc.2.2, itoa_nat]; simp
  · rename_i hc
    cases hq : numL l m with
    | none => rfl
    | some u =>
      obtain ⟨e1, e2⟩ := numL_iff.1 hq
      have h2 := atoi_back (u : Int) (by rw [itoa_nat, digits_trim, ← e1]; omega)
      rw [itoa_nat, ← e1, h] at h2
      injection h2 with h2
      subst h2
      exact absurd ⟨by omega, e2, by rw [itoa_nat]; exact e1.symm⟩ hc
theorem num_of_bad {l : List UInt8} {m : Nat} (hm : m ≤ 9) (h : ∀ v, Lib.atoiAll l ≠ .ok v) : numL l m = none := by
  cases hq : numL l m with
  | none => rfl
  | some u =>
    obtain ⟨e1, e2⟩ := numL_iff.1 hq
    have h2 := atoi_back (u : Int) (by rw [itoa_nat, digits_trim, ← e1]; omega)
    rw [itoa_nat, ← e1] at h2
    exact absurd h2 (h _)
end Go.Proofs.YtmbeeaohidgfgaaGreatDoor
