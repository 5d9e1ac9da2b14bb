/- Contract: the law KindLine answers true. -/
import Derived.Test.YtdfeloeainabjaaDoorLetters
import Derived.Test.YtdfeloeainabjaaDoorKinL
import Derived.Test.YtdfeloeainabjaaDoorSame
import Derived.Test.YtdfeloeainabjaaDoorTold
namespace Go.Proofs.YtdfeloeainabjaaDoor
open Go Go.RowKit

/-- Kinds of which each one's lists are the call's own. -/
def OwnKnds (w : World) (B : Nat) : List Knd → List Value → Prop
  | [], xs => xs = []
  | d :: l, xs => ∃ u x ys, xs = [.string d.name, u, x] ++ ys ∧ Sm d.name ∧ (∀ o ∈ d.ofs, Sm o) ∧ (∀ f ∈ d.fields, f.ok) ∧ Own w B 9 1 u d.ofs.length (d.ofs.map Value.string) ∧ Own w B 55 4 x d.fields.length (d.fields.flatMap Fld.enc) ∧ OwnKnds w B l ys
theorem OwnKnds.same {w w' : World} {B : Nat} (hs : Same 9 w w') (hf : Same 55 w w') : ∀ {l : List Knd} {xs : List Value}, OwnKnds w B l xs → OwnKnds w' B l xs
  | [], _, h => h
  | _ :: _, _, h => by
    obtain ⟨u, x, ys, rfl, h1, h2, h3, h4, h5, h6⟩ := h
    exact ⟨u, x, ys, rfl, h1, h2, h3, h4.same hs, h5.same hf, h6.same hs hf⟩
theorem OwnKnds.snoc {w : World} {B : Nat} {d : Knd} {u x : Value} (h1 : Sm d.name) (h2 : ∀ o ∈ d.ofs, Sm o) (h3 : ∀ f ∈ d.fields, f.ok) (h4 : Own w B 9 1 u d.ofs.length (d.ofs.map Value.string)) (h5 : Own w B 55 4 x d.fields.length (d.fields.flatMap Fld.enc)) :
    ∀ {l : List Knd} {xs : List Value}, OwnKnds w B l xs → OwnKnds w B (l ++ [d]) (xs ++ [.string d.name, u, x])
  | [], xs, h => by rw [show xs = [] from h]; exact ⟨u, x, [], by simp, h1, h2, h3, h4, h5, rfl⟩
  | e :: l, xs, h => by
    obtain ⟨v, y, ys, rfl, k1, k2, k3, k4, k5, k6⟩ := h
    exact ⟨v, y, ys ++ [.string d.name, u, x], by simp, k1, k2, k3, k4, k5, k6.snoc h1 h2 h3 h4 h5⟩
theorem OwnKnds.row {w : World} {B : Nat} : ∀ {l : List Knd} {xs : List Value}, OwnKnds w B l xs → Row kndL w l xs
  | [], _, h => h
  | _ :: _, _, h => by
    obtain ⟨u, x, ys, rfl, h1, h2, h3, h4, h5, h6⟩ := h
    exact ⟨_, ys, rfl, ⟨u, x, rfl, h1, h4.strs h2, h5.flds h3⟩, h6.row⟩

def lineK (i : Nat) : Knd := ⟨lettersB i, if i = 0 then [] else [lettersB (i - 1)], [⟨lettersB i, 1, false, false⟩]⟩
def lineL (n : Nat) : List Knd := (List.range n).map lineK
theorem line_snoc (k : Nat) : lineL (k + 1) = lineL k ++ [lineK k] := by unfold lineL; rw [List.range_succ, List.map_append]; rfl
def zzz : ByteArray := ⟨#[122, 122, 122]⟩
theorem line_facts : ∀ n, n < 9 → ∀ i, i < n → readyE (lineL n) [lettersB i] = 0 ∧ (kinR (lineL n) (lettersB i)).length = i + 1 ∧ (underR (lineL n) (lettersB i)).length + i = n ∧ (fieldsR (lineL n) (lettersB i)).length = i + 1 := by decide +kernel
theorem line_none : ∀ n, n < 9 → readyE (lineL n) [zzz] = 5 := by decide +kernel
theorem letters_sm (n : Nat) : Sm (lettersB n) := by
  unfold Sm lettersB
  have h : ∀ a, (abc.extract a (a + 1)).size ≤ 1 := fun a => by simp [ByteArray.size_extract]; omega
  have h1 := h (n / 26 % 26)
  have h2 := h (n % 26)
  rw [ByteArray.size_append]; omega

structure LineI (B : Nat) (w wr : World) (v : Value) (k : Nat) (xs : List Value) : Prop where
  b : Below B w wr
  z : B ≤ wr.heap.size
  n : Own wr B 58 3 v k xs
  o : OwnKnds wr B (lineL k) xs
theorem LineI.step {B : Nat} {w wr W w7 : World} {v v7 u x : Value} {k : Nat} {xs : List Value} (hI : LineI B w wr v k xs) (hbW : Below wr.heap.size wr W)
    (hu : Own W B 9 1 u (lineK k).ofs.length ((lineK k).ofs.map Value.string)) (hx : Own W B 55 4 x 1 [.string (lettersB k), .int .i64 1, .bool false, .bool false])
    (hown7 : Own w7 B 58 3 v7 (k + 1) (xs ++ [.string (lettersB k), u, x])) (hg7 : W.grownBy w7 v.ownBlock) : LineI B w w7 v7 (k + 1) (xs ++ [.string (lettersB k), u, x]) := by
  have hoW := hI.n.below hbW
  have hs : ∀ T, 58 ≠ T → Same T W w7 := fun T h => Same.grown hoW h hg7
  have hz := hI.z
  have hW := hbW.size
  refine ⟨(hI.b.trans (hbW.mono hz)).grown hg7 (by omega) (fun j e => (hoW.lt j e).1), by have := hg7.size; omega, hown7, ?_⟩
  rw [line_snoc]
  refine (hI.o.same ((Same.below hbW).trans (hs _ (by decide))) ((Same.below hbW).trans (hs _ (by decide)))).snoc (d := lineK k) (letters_sm k) (fun o ho => ?_) (fun f hf => ?_) (hu.same (hs _ (by decide))) (hx.same (hs _ (by decide)))
  · unfold lineK at ho
    split at ho
    · simp at ho
    · simp at ho; subst ho; exact letters_sm _
  · simp [lineK] at hf
    subst hf
    exact ⟨letters_sm k, by show I64 (1 : Int); unfold I64; omega⟩
theorem LineI.sl {B : Nat} {w wr : World} {v : Value} {k : Nat} {xs : List Value} (hI : LineI B w wr v k xs) : Sl kndL wr v (lineL k) :=
  Own.row (L := kndL) (by rw [show (lineL k).length = k by simp [lineL]]; exact hI.n) hI.o.row

set_option maxRecDepth 100000 in
set_option maxHeartbeats 8000000 in
theorem kindLine_any (n i : Int) (w : World) (hg : GlobOk w) (_hn : I64 n) (hi : I64 i) :
    Calls Tryd.prog 6 #[.int .i64 n, .int .i64 i] w fun e w' => e = .returned (.bool true) ∧ Below w.heap.size w w' := by
  by_cases hout : n < 1 ∨ 8 < n
  · rcases hout with h | h
    all_goals
      clear hg
      go_enter Tryd.func6, Tryd.ntmps6
      go_wp2_with fail
      all_goals go_ret
      all_goals exact ⟨rfl, Below.refl _ _⟩
  obtain ⟨N, rfl⟩ : ∃ k : Nat, n = k := ⟨n.toNat, by omega⟩
  have hN1 : (1 : Int) ≤ (N : Int) := by omega
  have hN8 : (N : Int) ≤ 8 := by omega
  obtain ⟨i0, ei, ez, ez1, ez2⟩ := info_parts clone_knds_info
  clear hout
  go_enter Tryd.func6, Tryd.ntmps6
  go_wp2_with fail
  go_loopw [5, 6] (fun v i wr => ∃ (k : Nat) (xs : List Value), k ≤ N ∧ i = .int .i64 k ∧ LineI w.heap.size w wr v k xs) (fun _ i _ => N - (intOf i).toNat)
  case atStart => exact ⟨0, [], Nat.zero_le _, rfl, ⟨Below.refl _ _, Nat.le_refl _, Own.nil _ _ _ _, rfl⟩⟩
  case round =>
    obtain ⟨k, xs, hk, rfl, hI⟩ := hrel
    have HI := Lib.hid hI
    have hbs := hI.b.size
    obtain ⟨Av, cv, rfl, _, _⟩ := hI.n.form
    clear hI
    by_cases hlt : k < N
    · have hlt' : (k : Int) < (N : Int) := by omega
      go_wp2_with fail
      refine (letters_any k _ (by omega)).mono ?_
      rintro e w2 ⟨rfl, hb2⟩
      go_wp2_with fail
      refine (letters_any k _ (by omega)).mono ?_
      rintro e w3 ⟨rfl, hb3⟩
      have h23 := hb2.trans (hb3.mono hb2.size)
      have h3s := h23.size
      clear hb2 hb3
      by_cases h0 : k = 0
      · subst h0
        go_wp2_with (at_builtin; refine wpList_append_q _ rfl (.tmp 41) (.tmp 43) _ rfl w.heap.size 58 i0 (.agg #[.string .empty, .slice none 0 0, .slice none 0 0]) 3 64 Tryd.underlying53 ei ez ez1 ez2 rfl (by decide) (.slice Av 0 cv) 0 xs rfl ((((HI.out.n.below h23).alloc _).alloc _).alloc _) (some ⟨w3.heap.size + 1 + 1, 0, none⟩) 1 1 [.string (lettersB 0), .slice none 0 0, .slice (some ⟨w3.heap.size, 0, none⟩) 1 1] rfl rfl (fun _ => ⟨_, rfl, fun j u hj => by rw [addr_add, Nat.zero_add, World.cell?_alloc_at _ _ _ _ (by simp)]; simpa using hj⟩) (fun u hu => by simp at hu; rcases hu with rfl | rfl | rfl <;> rfl) (by unfold maxLen; omega) (by omega) (by simp; omega) ?_; intro v7 w7 hown7 hg7 hat7)
        have hbW := ((h23.alloc h3s (.cells #[.string (lettersB 0), .int .i64 1, .bool false, .bool false] 55)).alloc (by simp; omega) (.cells #[.string (lettersB 0), .slice none 0 0, .slice (some ⟨w3.heap.size, 0, none⟩) 1 1] 58)).alloc (by simp; omega) (.cells #[.string (lettersB 0), .slice none 0 0, .slice (some ⟨w3.heap.size, 0, none⟩) 1 1] 58)
        have HN := Lib.hid (HI.out.step hbW (Own.nil _ _ _ _) (own_of_block (n := 1) (by rw [Below.heap_alloc _ _ _ (by simp; omega), Below.heap_alloc _ _ _ (by simp)]; exact heap_alloc_new _ _) (by omega) rfl (by simp [maxLen])) hown7 hg7)
        clear hown7 hg7 hat7 hbW HI
        obtain ⟨A7, c7, rfl, _, _⟩ := HN.out.n.form
        go_roundw
        case rel => exact ⟨0 + 1, _, by omega, by go_num, HN.out⟩
        case measure => simp [intOf]; omega
      · obtain ⟨m, rfl⟩ : ∃ m, k = m + 1 := ⟨k - 1, by omega⟩
        have hm1 : ((m + 1 : Nat) : Int) - 1 = (m : Int) := by omega
        have hm2 : (0 : Int) < ((m + 1 : Nat) : Int) := by omega
        have hlet := letters_any m ((w3.alloc (.cells #[.string (lettersB (m + 1)), .int .i64 1, .bool false, .bool false] 55)).alloc (.cells #[.string (lettersB (m + 1)), .slice none 0 0, .slice (some ⟨w3.heap.size, 0, none⟩) 1 1] 58)) (by omega)
        have hbW := (h23.alloc h3s (.cells #[.string (lettersB (m + 1)), .int .i64 1, .bool false, .bool false] 55)).alloc (by simp; omega) (.cells #[.string (lettersB (m + 1)), .slice none 0 0, .slice (some ⟨w3.heap.size, 0, none⟩) 1 1] 58)
        have hfb : ((w3.alloc (.cells #[.string (lettersB (m + 1)), .int .i64 1, .bool false, .bool false] 55)).alloc (.cells #[.string (lettersB (m + 1)), .slice none 0 0, .slice (some ⟨w3.heap.size, 0, none⟩) 1 1] 58)).heap[w3.heap.size]? = some (.cells #[.string (lettersB (m + 1)), .int .i64 1, .bool false, .bool false] 55 (0, 0)) := by
          rw [Below.heap_alloc _ _ _ (by simp)]; exact heap_alloc_new _ _
        have hbx : ((w3.alloc (.cells #[.string (lettersB (m + 1)), .int .i64 1, .bool false, .bool false] 55)).alloc (.cells #[.string (lettersB (m + 1)), .slice none 0 0, .slice (some ⟨w3.heap.size, 0, none⟩) 1 1] 58)).heap[w3.heap.size + 1]? = some (.cells #[.string (lettersB (m + 1)), .slice none 0 0, .slice (some ⟨w3.heap.size, 0, none⟩) 1 1] 58 (0, 0)) := by
          have := heap_alloc_new (w3.alloc (.cells #[.string (lettersB (m + 1)), .int .i64 1, .bool false, .bool false] 55)) (.cells #[.string (lettersB (m + 1)), .slice none 0 0, .slice (some ⟨w3.heap.size, 0, none⟩) 1 1] 58)
          simpa using this
        go_wp2_with fail
        refine hlet.mono ?_
        clear hlet
        rintro e w4 ⟨rfl, hb4⟩
        have h4 := hbW.trans (hb4.mono hbW.size)
        have h4s := hb4.size
        simp only [World.size_alloc] at h4s
        have hfb4 := (hb4.block _ (Array.getElem?_eq_some_iff.1 hfb).1).trans hfb
        have hbx4 := (hb4.block _ (Array.getElem?_eq_some_iff.1 hbx).1).trans hbx
        have hbx5 : (w4.alloc (.cells #[.string (lettersB m)] 9)).heap[w3.heap.size + 1]? = some (.cells #[.string (lettersB (m + 1)), .slice none 0 0, .slice (some ⟨w3.heap.size, 0, none⟩) 1 1] 58 (0, 0)) := by
          rw [Below.heap_alloc _ _ _ (by omega)]; exact hbx4
        have c1 := block_cell hbx5 1
        have f1 := block_free hbx5 1
        have hbx6 := setCell_block hbx5 1 (.slice (some ⟨w4.heap.size, 0, none⟩) 1 1)
        have e0 := block_cell hbx6 0
        have e1 := block_cell hbx6 1
        have e2 := block_cell hbx6 2
        have hnb : (Value.slice Av (m + 1) cv).ownBlock ≠ some (w3.heap.size + 1) := fun e => by have := (HI.out.n.lt _ e).2; omega
        have hoW := (((HI.out.n.below h4).alloc (.cells #[.string (lettersB m)] 9)).setCell ⟨w3.heap.size + 1, 1, none⟩ (.slice (some ⟨w4.heap.size, 0, none⟩) 1 1) hnb).alloc (.cells #[.string (lettersB (m + 1)), .slice (some ⟨w4.heap.size, 0, none⟩) 1 1, .slice (some ⟨w3.heap.size, 0, none⟩) 1 1] 58)
        have hbW2 := (((h4.alloc h4.size (.cells #[.string (lettersB m)] 9)).setCell (p := ⟨w3.heap.size + 1, 1, none⟩) (by simp; omega) (.slice (some ⟨w4.heap.size, 0, none⟩) 1 1)).alloc (by simp; omega) (.cells #[.string (lettersB (m + 1)), .slice (some ⟨w4.heap.size, 0, none⟩) 1 1, .slice (some ⟨w3.heap.size, 0, none⟩) 1 1] 58))
        clear hbx hfb hbW hb4
        go_wp2_with (at_builtin; refine wpList_append_q _ rfl (.tmp 41) (.tmp 43) _ rfl w.heap.size 58 i0 (.agg #[.string .empty, .slice none 0 0, .slice none 0 0]) 3 64 Tryd.underlying53 ei ez ez1 ez2 rfl (by decide) (.slice Av (m + 1) cv) (m + 1) xs rfl hoW (some ⟨w4.heap.size + 1, 0, none⟩) 1 1 [.string (lettersB (m + 1)), .slice (some ⟨w4.heap.size, 0, none⟩) 1 1, .slice (some ⟨w3.heap.size, 0, none⟩) 1 1] rfl rfl (fun _ => ⟨_, rfl, fun j u hj => by rw [addr_add, Nat.zero_add, World.cell?_alloc_at _ _ _ _ (by simp)]; simpa using hj⟩) (fun u hu => by simp at hu; rcases hu with rfl | rfl | rfl <;> rfl) (by unfold maxLen; omega) (by omega) (by simp; omega) ?_; intro v7 w7 hown7 hg7 hat7)
        have HN := Lib.hid (HI.out.step hbW2 (u := .slice (some ⟨w4.heap.size, 0, none⟩) 1 1) (x := .slice (some ⟨w3.heap.size, 0, none⟩) 1 1)
          (own_of_block (n := 1) (by rw [Below.heap_alloc _ _ _ (by simp), Below.heap_setCell _ _ _ _ (by simp; omega)]; exact heap_alloc_new _ _) (by omega) rfl (by simp [maxLen]))
          (own_of_block (n := 1) (by rw [Below.heap_alloc _ _ _ (by simp; omega), Below.heap_setCell _ _ _ _ (by simp), Below.heap_alloc _ _ _ (by omega)]; exact hfb4) (by omega) rfl (by simp [maxLen])) hown7 hg7)
        clear hown7 hg7 hat7 hbW2 hoW HI e0 e1 e2 c1 f1 hbx6 hbx5 hbx4 hfb4
        obtain ⟨A7, c7, rfl, _, _⟩ := HN.out.n.form
        go_roundw
        case rel => exact ⟨m + 1 + 1, _, by omega, by go_num, HN.out⟩
        case measure => simp [intOf]; omega
    · obtain rfl : k = N := by omega
      have hsl := HI.out.sl
      have hLB := HI.out.b
      have hgr := hg.below hLB
      have hk9 : k < 9 := by omega
      have hlen : (lineL k).length = k := by simp [lineL]
      clear HI
      by_cases hi2 : i < 0 ∨ (k : Int) ≤ i
      · have hkin := kin_any (lineL k) zzz _ wr hsl (by show 3 ≤ 1048576; omega)
        rw [line_none k hk9] at hkin
        have hz : (⟨#[122, 122, 122]⟩ : ByteArray) = zzz := rfl
        rcases hi2 with h | h
        all_goals
          go_wp2_with fail
          refine hkin.mono ?_
          clear hkin
          rintro e w2 ⟨u, rfl, hu, hb2⟩
          have hB2 := hLB.trans (hb2.mono hLB.size)
          obtain ⟨A1, c1, rfl, _, _⟩ := hu.form
          have hs := same_any 5 5 w2 (hg.below hB2)
          clear hu hsl
          go_wp2_with fail
          refine hs.mono ?_
          clear hs
          rintro e w3 ⟨rfl, hb3⟩
          go_wp2_with fail
          go_ret
          exact ⟨rfl, hB2.trans (hb3.mono hB2.size)⟩
      · obtain ⟨I, rfl⟩ : ∃ I : Nat, i = I := ⟨i.toNat, by omega⟩
        have hI1 : (I : Int) < (k : Int) := by omega
        obtain ⟨f1, f2, f3, f4⟩ := line_facts k hk9 I (by omega)
        have HV := Lib.hid hsl
        have F1 := Lib.hid f1
        have F2 := Lib.hid f2
        have F3 := Lib.hid f3
        have F4 := Lib.hid f4
        clear hsl f1 f2 f3 f4 hi2 hlen
        generalize lineL k = l at *
        go_wp2_with fail
        refine (letters_any I _ (by omega)).mono ?_
        rintro e w2 ⟨rfl, hb2⟩
        have hkin := kin_any l (lettersB I) _ w2 (HV.out.below hb2) (letters_sm I)
        rw [F1.out] at hkin
        go_wp2_with fail
        refine hkin.mono ?_
        clear hkin
        rintro e w3 ⟨u3, rfl, hu3, hb3⟩
        have h3 := hb2.trans (hb3.mono hb2.size)
        obtain ⟨A3, c3, rfl, _, _⟩ := hu3.form
        rw [F2.out]
        clear hu3
        go_wp2_with fail
        refine (letters_any I _ (by omega)).mono ?_
        rintro e w4 ⟨rfl, hb4⟩
        have h4 := h3.trans (hb4.mono h3.size)
        have hun := under_any l (lettersB I) _ w4 (HV.out.below h4) (letters_sm I)
        rw [F1.out] at hun
        go_wp2_with fail
        refine hun.mono ?_
        clear hun
        rintro e w5 ⟨u5, rfl, hu5, hb5⟩
        have h5 := h4.trans (hb5.mono h4.size)
        obtain ⟨A5, c5, rfl, _, _⟩ := hu5.form
        have F3' : (underR l (lettersB I)).length = k - I := by have := F3.out; omega
        rw [F3']
        clear hu5 F3'
        go_wp2_with fail
        refine (letters_any I _ (by omega)).mono ?_
        rintro e w6 ⟨rfl, hb6⟩
        have h6 := h5.trans (hb6.mono h5.size)
        have hfl := kfields_any l (lettersB I) _ w6 (HV.out.below h6) (letters_sm I)
        rw [F1.out] at hfl
        go_wp2_with fail
        refine hfl.mono ?_
        clear hfl
        rintro e w7 ⟨u7, rfl, hu7, hb7⟩
        have h7 := h6.trans (hb7.mono h6.size)
        obtain ⟨A7, c7, rfl, _, _⟩ := hu7.form
        rw [F4.out]
        clear hu7
        rw [errV0]
        have hsub : ((k - I : Nat) : Int) = (k : Int) - (I : Int) := by omega
        go_wp2_with fail
        go_ret
        exact ⟨by simp, hLB.trans (h7.mono hLB.size)⟩
end Go.Proofs.YtdfeloeainabjaaDoor
