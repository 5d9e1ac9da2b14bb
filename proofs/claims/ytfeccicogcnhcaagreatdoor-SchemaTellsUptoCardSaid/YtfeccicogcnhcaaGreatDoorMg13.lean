/- Parts: RkA, KndA. -/
import Derived.Test.YtfeccicogcnhcaaGreatDoorMg12
import Derived.Test.YtfeccicogcnhcaaGreatDoorMg02
import Derived.Test.YtfeccicogcnhcaaGreatDoorMg04
import Derived.Test.YtfeccicogcnhcaaGreatDoorMg07
/- Contract: slices.ContainsFunc at texts with schema.readKind$1: is there one that is no word. No condition. -/
namespace Go.Proofs.YtfeccicogcnhcaaGreatDoor
open Go Go.RowKit


def strVk (_ : World) (d : ByteArray) (u : Value) : Prop := u = .string d ∧ Sm d
set_option maxHeartbeats 400000 in
theorem idx_strsk (g : Nat) (caps : Array Value) (eg : ∀ args w, (callFunc g args).run Tryz.prog w = .ok (.enter g args) w) (p : ByteArray → Bool) (l : List (ByteArray)) (v : Value) (w : World) (hv : Sl strL w v l)
    (hp : PredB Tryz.prog g caps strVk p w) :
    Calls Tryz.prog 86 #[v, .func (.func g) #[] caps] w fun e w' => e = .returned (.int .i64 (idxI p l)) ∧ Below w.heap.size w w' := by
  obtain ⟨A, c, rfl, hlc, hcm⟩ := hv.form
  unfold maxLen at hcm
  go_enter Tryz.func86, Tryz.ntmps86
  go_wp2_with fail
  go_loopw [8] (fun i wr => ∃ k : Nat, k ≤ l.length ∧ i = .int .i64 k ∧ Below w.heap.size w wr ∧ Hid (∀ j x, j < k → l[j]? = some x → p x = false)) (fun i _ => l.length - (intOf i).toNat)
  case atStart => exact ⟨0, Nat.zero_le _, rfl, Below.refl _ _, fun j x hj => absurd hj (Nat.not_lt_zero _)⟩
  case round =>
    obtain ⟨k, hk, rfl, hb, HA⟩ := hrel
    by_cases hlt : k < l.length
    · obtain ⟨d, hd⟩ : ∃ d, l[k]? = some d := ⟨_, List.getElem?_eq_getElem hlt⟩
      obtain ⟨b, o, rfl, hsm, x0⟩ := str_at (hv.below hb) hd
      have hcall := hp d _ wr hb ⟨rfl, hsm⟩
      have HD : Hid (l[k]? = some d) := hd
      clear hd hp hv
      cases hq : p d with
      | true =>
        rw [hq] at hcall
        have HQ : Hid (p d = true) := hq
        clear hq
        go_wp2_with (go_at_fn g; refine hcall.mono ?_; rintro e w' ⟨rfl, hb2⟩)
        go_ret
        exact ⟨ret_int (idxI_hit HA.out HD.out HQ.out).symm, hb.trans (hb2.mono hb.size)⟩
      | false =>
        rw [hq] at hcall
        have HQ : Hid (p d = false) := hq
        clear hq
        go_wp2_with (go_at_fn g; refine hcall.mono ?_; rintro e w' ⟨rfl, hb2⟩)
        go_roundw
        case rel => exact ⟨k + 1, by omega, by go_num, hb.trans (hb2.mono hb.size), miss_step HA.out HD.out HQ.out⟩
        case measure => simp [intOf]; omega
    · have hkl : k = l.length := by omega
      subst hkl
      clear hp hv
      go_wp2_with fail
      go_ret
      exact ⟨ret_int (idxI_miss HA.out).symm, hb⟩
theorem cont_strs (g : Nat) (caps : Array Value) (eg : ∀ args w, (callFunc g args).run Tryz.prog w = .ok (.enter g args) w) (p : ByteArray → Bool) (l : List (ByteArray)) (v : Value) (w : World) (hv : Sl strL w v l)
    (hp : PredB Tryz.prog g caps strVk p w) :
    Calls Tryz.prog 57 #[v, .func (.func g) #[] caps] w fun e w' => e = .returned (.bool (l.any p)) ∧ Below w.heap.size w w' := by
  have h1 := idx_strsk g caps eg p l v w hv hp
  have h2 := idxI_any p l
  have H2 := Lib.hid h2
  clear h2 hv hp eg
  go_enter Tryz.func57, Tryz.ntmps57
  go_wp2_with (go_at_call 86; refine h1.mono ?_; rintro e w' ⟨rfl, hb⟩)
  go_ret
  exact ⟨ret_bool H2.out, hb⟩
theorem noword_any (s : ByteArray) (w : World) (hs : Sm s) :
    Calls Tryz.prog 58 #[.string s] w fun e w' => e = .returned (.bool (!wordB s.data.toList)) ∧ Below w.heap.size w w' := by
  have hx := word_any s w hs
  generalize wordB s.data.toList = q at *
  go_enter Tryz.func58, Tryz.ntmps58
  go_wp2_with fail
  refine hx.mono ?_
  rintro e w' ⟨rfl, hb⟩
  go_wp2_with fail
  go_ret
  exact ⟨rfl, hb⟩
theorem nowords_any (l : List ByteArray) (v : Value) (w : World) (hv : Sl strL w v l) :
    Calls Tryz.prog 57 #[v, .func (.func 58) #[] #[]] w fun e w' => e = .returned (.bool (l.any fun s => !wordB s.data.toList)) ∧ Below w.heap.size w w' :=
  cont_strs 58 #[] (enters_of Tryz.func58 (by kernel_rfl) rfl) (fun s => !wordB s.data.toList) l v w hv (fun x u wx _ ⟨hu, hx⟩ => by
    subst hu
    exact noword_any x wx hx)
open Go Go.RowKit Go.Shelf

theorem fldK_info : (Tryz.prog.info? 61).map (fun i => (i.zero, i.size, i.bytes)) = some (some (.agg #[.string .empty, .int .i64 0, .bool false, .bool false]), 4, 32) := by kernel_rfl
theorem one_fldE (d : Fld) : ∀ u ∈ d.enc, u.oneCell' = true := fun u hu => by simp [Fld.enc] at hu; rcases hu with rfl | rfl | rfl | rfl <;> rfl
theorem Own.ne_ty2 {w : World} {B B' : Nat} {e e' : TypeId} {sz sz' : Nat} {v v' : Value} {n n' : Nat} {xs xs' : List Value} (h : Own w B e sz v n xs) (h' : Own w B' e' sz' v' n' xs') (hne : e ≠ e') : v.ownBlock = none ∨ v.ownBlock ≠ v'.ownBlock := by
  rcases h.2 with ⟨rfl, _⟩ | ⟨g, o, cap, cur, rfl, _, hg, _⟩
  · exact .inl rfl
  · rcases h'.2 with ⟨rfl, _⟩ | ⟨g', o', cap', cur', rfl, _, hg', _⟩
    · exact .inr (by simp [Value.ownBlock])
    · refine .inr fun e0 => ?_
      simp [Value.ownBlock] at e0
      subst e0
      rw [hg] at hg'
      injection hg' with h1
      injection h1 with _ h2
      exact hne h2
/-- What readKind answers. -/
def KndR (l : List (List UInt8)) (w : World) (e : Ending) (w' : World) : Prop := ∃ (nm : ByteArray) (Au : Option Addr) (nu cu : Nat) (Af : Option Addr) (nf cf : Nat),
  e = .returned (.tuple #[.agg #[.string nm, .slice Au nu cu, .slice Af nf cf], .bool (readKndL l).isSome]) ∧
  (∀ k, readKndL l = some k → nm = k.name ∧ nu = k.ofs.length ∧ nf = k.fields.length ∧ Sm k.name ∧ (∀ p ∈ k.ofs, Sm p) ∧ Own w' w.heap.size 9 1 (.slice Au nu cu) k.ofs.length (k.ofs.map Value.string) ∧ (∀ p ∈ k.fields, p.ok) ∧ Own w' w.heap.size 61 4 (.slice Af nf cf) k.fields.length (k.fields.flatMap Fld.enc)) ∧ Below w.heap.size w w'
def kndOf (a : List UInt8) (o : Option (List ByteArray × List (List UInt8))) : Option Knd := match o with
  | none => none
  | some u => match fldsP u.2 with
    | none => none
    | some fs => some ⟨bs a, u.1, fs⟩
theorem readKnd_no {l : List (List UInt8)} (h : l.length < 2) : readKndL l = none := by
  unfold readKndL
  split
  · simp at h; omega
  · rfl
theorem readKnd_two (x a : List UInt8) (ws : List (List UInt8)) : readKndL (x :: a :: ws) = if wordB a = true then kndOf a (ofsP ws) else none := rfl
theorem kndOf_some (a : List UInt8) (os : List ByteArray) (ws : List (List UInt8)) : (fldsP ws = none → kndOf a (some (os, ws)) = none) ∧ ∀ fs, fldsP ws = some fs → kndOf a (some (os, ws)) = some ⟨bs a, os, fs⟩ := by
  constructor
  · intro h; unfold kndOf; simp only [h]
  · intro fs h; unfold kndOf; simp only [h]
theorem ofsP_no {ws : List (List UInt8)} (h : ¬ (1 < ws.length ∧ ws.head? = some ofW)) : ofsP ws = some ([], ws) := by
  unfold ofsP
  split
  · rename_i o x rest
    rw [if_neg (fun e => h ⟨by simp, by rw [e]; rfl⟩)]
  · rfl
theorem KndR.bad {l : List (List UInt8)} {w w' : World} {e : Ending} (h : readKndL l = none) (he : e = .returned (.tuple #[.agg #[.string ⟨#[]⟩, .slice none 0 0, .slice none 0 0], .bool false])) (hb : Below w.heap.size w w') : KndR l w e w' :=
  ⟨⟨#[]⟩, none, 0, 0, none, 0, 0, by rw [h]; exact he, (fun d hn => by rw [h] at hn; cases hn), hb⟩
theorem tx_split_own (s : ByteArray) (c : UInt8) (w : World) (h : TxP w) (hs : Sm s) :
    Calls Tryz.prog 35 #[.string s, .string ⟨#[c]⟩] w fun e w' => e = .returned (.slice (some ⟨w.heap.size, 0, none⟩) (Lib.split s.data.toList [c]).length (Lib.split s.data.toList [c]).length) ∧ Own w' w.heap.size 9 1 (.slice (some ⟨w.heap.size, 0, none⟩) (Lib.split s.data.toList [c]).length (Lib.split s.data.toList [c]).length) (Lib.split s.data.toList [c]).length (((Lib.split s.data.toList [c]).map bs).map Value.string) ∧ Below w.heap.size w w' := by
  obtain ⟨m, hm⟩ := h.len
  unfold Sm at hs
  have hl := len_size s
  refine (Any.strings_Split splitLay str_info s ⟨#[c]⟩ m w (by omega) hm (Nat.le_refl 1)).mono fun e w' ⟨he, hw⟩ => ?_
  have e1 : (Lib.splitB ⟨#[c]⟩ 0 (Lib.countB s ⟨#[c]⟩) s).map (·.data.toList) = Lib.split s.data.toList [c] := Lib.splitB_data _ _ _ _
  have e2 : Lib.splitB ⟨#[c]⟩ 0 (Lib.countB s ⟨#[c]⟩) s = (Lib.split s.data.toList [c]).map bs := by
    rw [← e1, list_bs]
  have e3 : Lib.countB s ⟨#[c]⟩ + 1 = (Lib.split s.data.toList [c]).length := by
    rw [← e1, List.length_map, Lib.splitB_all ⟨#[c]⟩ (Nat.le_refl 1) 0 _ s rfl]
  obtain ⟨_, p2⟩ := split_len c _ s.data.toList (Nat.le_refl _)
  refine ⟨by rw [he, e3], ?_, by rw [hw]; exact (Below.refl _ _).alloc (Nat.le_refl _) _⟩
  exact own_of_block (cs := ((Lib.split s.data.toList [c]).map bs).map Value.string) (by rw [hw, e2]; exact heap_alloc_new _ _) (Nat.le_refl _) (by simp) (by unfold maxLen; omega)
theorem any_no_word (P : List (List UInt8)) : ((P.map bs).any fun s => !wordB s.data.toList) = !P.all wordB := by
  induction P with
  | nil => rfl
  | cons x P ih => rw [List.map_cons, List.any_cons, List.all_cons, ih, bs_list, Bool.not_and]
theorem split_sm {x : List UInt8} (hx : x.length ≤ 1048576) : ∀ p ∈ (Lib.split x [44]).map bs, Sm p := fun p hp => by
  obtain ⟨y, hy, rfl⟩ := List.mem_map.1 hp
  have := (split_len 44 _ x (Nat.le_refl _)).1 y hy
  unfold Sm; rw [bs_size]; omega
set_option maxRecDepth 100000 in
set_option maxHeartbeats 16000000 in
theorem rknd_any (l : List (List UInt8)) (g n : Nat) (w : World) (hl : l.length = n) (hc : ∀ i x, l[i]? = some x → w.cell? ⟨g, i, none⟩ = some (.string (bs x)) ∧ x.length ≤ 1048576) (hn : n ≤ 1048577) (hT : TxOk w) (hY : Typ4 w) :
    Calls Tryz.prog 36 #[.slice (some ⟨g, 0, none⟩) n n] w (KndR l w) := by
  obtain ⟨i0, ei, ez, ez1, ez2⟩ := info_parts fldK_info
  have hb0 : Below w.heap.size w (w.alloc (.cells #[.string ⟨#[]⟩, .slice none 0 0, .slice none 0 0] 59)) := (Below.refl _ _).alloc (Nat.le_refl _) _
  have hbk := heap_alloc_new w (.cells #[.string ⟨#[]⟩, .slice none 0 0, .slice none 0 0] 59)
  by_cases h2 : n < 2
  · have HN : Hid (readKndL l = none) := readKnd_no (by omega)
    have h2' : (n : Int) < 2 := by omega
    clear hc hT hY h2 hl
    go_enter Tryz.func36, Tryz.ntmps36
    go_upto_region 1 with fail
    generalize w.alloc (.cells #[.string ⟨#[]⟩, .slice none 0 0, .slice none 0 0] 59) = W0 at *
    -- the answer: none; the world: W0, its result's box: hbk, above w: hb0
    obtain ⟨k1, k2, k3, k4⟩ := res3 (.string ⟨#[]⟩) (.slice none 0 0) (.slice none 0 0) hb0 hbk
    have K := Lib.hid (And.intro k1 (And.intro k2 (And.intro k3 k4)))
    have r0 := block_cell hbk 0
    have r1 := block_cell hbk 1
    have r2 := block_cell hbk 2
    have f0 := block_free hbk 0
    have f1 := block_free hbk 1
    have f2 := block_free hbk 2
    clear k1 k2 k3 k4
    go_wp2_with fail
    obtain ⟨k1, k2, k3, k4⟩ := K.out
    exact bodyPost_ret (v := .tuple #[.agg #[.string ⟨#[]⟩, .slice none 0 0, .slice none 0 0], .bool false]) (by simp [results, Tryz.results36, go_sem, k2, k3, k4]) rfl (KndR.bad HN.out rfl k1)
  have h2' : ¬ (n : Int) < 2 := by omega
  obtain ⟨x0, a, ws, rfl⟩ : ∃ x0 a ws, l = x0 :: a :: ws := by
    match l, hl with
    | x0 :: a :: ws, _ => exact ⟨x0, a, ws, rfl⟩
    | [], hl => simp at hl; omega
    | [_], hl => simp at hl; omega
  have hwl : ws.length = n - 2 := by simp at hl; omega
  obtain ⟨q1, ha⟩ := hc 1 a rfl
  have HC0 : Hid (∀ i x, ws[i]? = some x → w.cell? ⟨g, 2 + i, none⟩ = some (.string (bs x)) ∧ x.length ≤ 1048576) := fun i x hx => hc (2 + i) x (by rw [Nat.add_comm]; exact hx)
  have q1 := cell_below hb0 q1
  have HT := Lib.hid hT
  have HY := Lib.hid hY
  have hA := word_any (bs a) (w.alloc (.cells #[.string ⟨#[]⟩, .slice none 0 0, .slice none 0 0] 59)) (by unfold Sm; rw [bs_size]; exact ha)
  rw [bs_list] at hA
  have HD2 := Lib.hid (readKnd_two x0 a ws)
  have HSA : Hid (Sm (bs a)) := by unfold Hid Sm; rw [bs_size]; exact ha
  have hn1 : (1 : Int) < (n : Int) := by omega
  generalize hLl : x0 :: a :: ws = l at *
  clear hc hT hY ha hLl
  cases ha : wordB a with
  | false =>
    have HN : Hid (readKndL l = none) := by unfold Hid; rw [HD2.out, ha]; rfl
    rw [ha] at hA
    clear HD2 HC0 ha
    go_enter Tryz.func36, Tryz.ntmps36
    go_upto_region 1 with fail
    generalize w.alloc (.cells #[.string ⟨#[]⟩, .slice none 0 0, .slice none 0 0] 59) = W0 at *
    go_wp2_with fail
    refine hA.mono ?_
    clear hA
    rintro e w1 ⟨rfl, hb1⟩
    have hB1 := hb0.trans (hb1.mono hb0.size)
    have hbk1 := (hb1.block _ (Array.getElem?_eq_some_iff.1 hbk).1).trans hbk
    clear hb0 hb1 hbk q1
    -- the answer: none; the world: w1, its result's box: hbk1, above w: hB1
    obtain ⟨k1, k2, k3, k4⟩ := res3 (.string ⟨#[]⟩) (.slice none 0 0) (.slice none 0 0) hB1 hbk1
    have K := Lib.hid (And.intro k1 (And.intro k2 (And.intro k3 k4)))
    have r0 := block_cell hbk1 0
    have r1 := block_cell hbk1 1
    have r2 := block_cell hbk1 2
    have f0 := block_free hbk1 0
    have f1 := block_free hbk1 1
    have f2 := block_free hbk1 2
    clear k1 k2 k3 k4
    go_wp2_with fail
    obtain ⟨k1, k2, k3, k4⟩ := K.out
    exact bodyPost_ret (v := .tuple #[.agg #[.string ⟨#[]⟩, .slice none 0 0, .slice none 0 0], .bool false]) (by simp [results, Tryz.results36, go_sem, k2, k3, k4]) rfl (KndR.bad HN.out rfl k1)
  | true =>
  rw [ha] at hA
  have HD3 : Hid (readKndL l = kndOf a (ofsP ws)) := by unfold Hid; rw [HD2.out, if_pos ha]
  clear HD2 ha
  go_enter Tryz.func36, Tryz.ntmps36
  go_upto_region 1 with fail
  generalize w.alloc (.cells #[.string ⟨#[]⟩, .slice none 0 0, .slice none 0 0] 59) = W0 at *
  go_wp2_with fail
  refine hA.mono ?_
  clear hA
  rintro e w1 ⟨rfl, hb1⟩
  have hB1 := hb0.trans (hb1.mono hb0.size)
  have hbk1 := (hb1.block _ (Array.getElem?_eq_some_iff.1 hbk).1).trans hbk
  have q1 := cell_below hb1 q1
  have ha2 : Below w1.heap.size w1 (w1.alloc (.cells #[.string (bs a), .slice none 0 0, .slice none 0 0] 59)) := (Below.refl _ _).alloc (Nat.le_refl _) _
  have hK2 := heap_alloc_new w1 (.cells #[.string (bs a), .slice none 0 0, .slice none 0 0] 59)
  have hR2 := (ha2.block _ (Array.getElem?_eq_some_iff.1 hbk1).1).trans hbk1
  have hBW := hB1.trans (ha2.mono hB1.size)
  have hqw : w.heap.size ≤ w1.heap.size := hB1.size
  have hne : w.heap.size ≠ w1.heap.size := by have := (Array.getElem?_eq_some_iff.1 hbk1).1; omega
  clear hb0 hb1 hbk hbk1 hB1 ha2
  go_upto_region 4 with fail
  generalize w1.alloc (.cells #[.string (bs a), .slice none 0 0, .slice none 0 0] 59) = W at *
  generalize w1.heap.size = q at *
  clear q1
  have HK := Lib.hid hK2
  have HR := Lib.hid hR2
  clear hK2 hR2
  rcases ws with _ | ⟨y, ws'⟩
  · have hn2 : n = 2 := by simp at hwl; omega
    subst hn2
    obtain ⟨rest, hrest⟩ : ∃ r : List (List UInt8), r = [] := ⟨_, rfl⟩
    obtain ⟨ofs, hofs⟩ : ∃ r : List ByteArray, r = [] := ⟨_, rfl⟩
    have HE1 : Hid (fldsP rest = none → readKndL l = none) := fun h => by rw [hrest] at h; cases h
    have HE2 : Hid (∀ fs, fldsP rest = some fs → readKndL l = some ⟨bs a, ofs, fs⟩) := fun fs h => by rw [HD3.out, ofsP_no (by simp)]; rw [hrest] at h; rw [hofs]; exact (kndOf_some a [] []).2 fs h
    obtain ⟨D, hD⟩ : ∃ d : Nat, d = 0 := ⟨_, rfl⟩
    have HC : Hid (∀ i x, rest[i]? = some x → w.cell? ⟨g, D + i, none⟩ = some (.string (bs x)) ∧ x.length ≤ 1048576) := fun i x h => by rw [hrest] at h; simp at h
    have HK : Hid (W.heap[q]? = some (.cells #[.string (bs a), .slice none ofs.length 0, .slice none 0 0] 59 (0, 0))) := by rw [hofs]; exact HK.out
    have HO : Hid (Own W w.heap.size 9 1 (.slice none ofs.length 0) ofs.length (ofs.map Value.string)) := by rw [hofs]; exact Own.nil _ _ _ _
    have HOS : Hid (∀ p ∈ ofs, Sm p) := fun p hp => by rw [hofs] at hp; cases hp
    obtain ⟨Au, hAu⟩ : ∃ A : Option Addr, A = none := ⟨_, rfl⟩
    obtain ⟨cu, hcu⟩ : ∃ c : Nat, c = 0 := ⟨_, rfl⟩
    have HK : Hid (W.heap[q]? = some (.cells #[.string (bs a), .slice Au ofs.length cu, .slice none 0 0] 59 (0, 0))) := by rw [hAu, hcu]; exact HK
    have HO : Hid (Own W w.heap.size 9 1 (.slice Au ofs.length cu) ofs.length (ofs.map Value.string)) := by rw [hAu, hcu]; exact HO
    have hr1 : ¬ (1 : Int) < (rest.length : Int) := by rw [hrest]; decide
    have hrl : rest.length ≤ 1048577 := by rw [hrest]; simp
    clear HD3 hwl hofs HC0 hAu hcu
    go_upto_region 5 with fail
    rw [show Value.slice (some ⟨g, 0, none⟩) 0 0 = Value.slice (some ⟨g, D, none⟩) rest.length 0 from by rw [hrest, hD]; rfl]
    clear hrest hD
    go_wp2_with fail
    clear hr1
    -- the fields' words: rest, from the cell D of the row on; the world is W
    go_loopw [48] (fun i wr => ∃ (k : Nat) (us : List Fld) (Af : Option Addr) (cf : Nat), k ≤ rest.length ∧ i = .int .i64 k ∧ us.length ≤ k ∧ Below w.heap.size w wr ∧ Hid (fldsP (rest.take k) = some us) ∧ Hid (wr.heap[q]? = some (.cells #[.string (bs a), .slice Au ofs.length cu, .slice Af us.length cf] 59 (0, 0))) ∧ Hid (wr.heap[w.heap.size]? = some (.cells #[.string ⟨#[]⟩, .slice none 0 0, .slice none 0 0] 59 (0, 0))) ∧
      Hid (Own wr w.heap.size 9 1 (.slice Au ofs.length cu) ofs.length (ofs.map Value.string)) ∧ Hid (Own wr w.heap.size 61 4 (.slice Af us.length cf) us.length (us.flatMap Fld.enc)) ∧ Hid (∀ p ∈ us, p.ok)) (fun i _ => rest.length - (intOf i).toNat)
    case atStart => exact ⟨0, [], none, 0, Nat.zero_le _, rfl, Nat.le_refl _, hBW, by rw [List.take_zero]; rfl, HK, HR, HO, Own.nil _ _ _ _, fun p hp => by simp at hp⟩
    case round =>
      obtain ⟨k, us, Af, cf, hk, rfl, hul, hbr, HF, HK, HR, HO, HOF, HUO⟩ := hrel
      clear hBW
      obtain ⟨wo, hwo⟩ : ∃ x : World, x = wr := ⟨_, rfl⟩
      subst hwo
      by_cases hlt : k < rest.length
      · obtain ⟨x, hx⟩ : ∃ d, rest[k]? = some d := ⟨_, List.getElem?_eq_getElem hlt⟩
        have hlt' : (k : Int) < (rest.length : Int) := by omega
        obtain ⟨x0, hxl⟩ := HC.out k x hx
        have x0 := cell_below hbr x0
        have hxs : Sm (bs x) := by unfold Sm; rw [bs_size]; exact hxl
        have hcall := rfld_any (bs x) hxs wo (HT.out.below hbr).toTxP (HY.out.below hbr)
        rw [bs_list] at hcall
        obtain ⟨p1, p2⟩ := fldsP_take HF.out hx
        have HP1 := Lib.hid p1
        have HP2 := Lib.hid p2
        clear hx hxl p1 p2 hxs HF
        go_wp2_with fail
        refine hcall.mono ?_
        clear hcall
        rintro e w2 ⟨nm, ty, m, ky, rfl, hres, hb2⟩
        have HRES := Lib.hid hres
        have hB2 := hbr.trans (hb2.mono hbr.size)
        have hK2 := (hb2.block _ (Array.getElem?_eq_some_iff.1 HK.out).1).trans HK.out
        have hR2 := (hb2.block _ (Array.getElem?_eq_some_iff.1 HR.out).1).trans HR.out
        have hO2 := HO.out.below hb2
        have hF2 := HOF.out.below hb2
        have ha3 : Below w2.heap.size w2 (w2.alloc (.cells #[.string nm, .int .i64 ty, .bool m, .bool ky] 61)) := (Below.refl _ _).alloc (Nat.le_refl _) _
        have hbf := heap_alloc_new w2 (.cells #[.string nm, .int .i64 ty, .bool m, .bool ky] 61)
        have hK3 := (ha3.block _ (Array.getElem?_eq_some_iff.1 hK2).1).trans hK2
        have hR3 := (ha3.block _ (Array.getElem?_eq_some_iff.1 hR2).1).trans hR2
        have hO3 := hO2.below ha3
        have hF3 := hF2.below ha3
        have hB3 := hB2.trans (ha3.mono hB2.size)
        obtain ⟨fq, hfq⟩ : ∃ n, n = w2.heap.size := ⟨_, rfl⟩
        clear x0 hres hb2 hB2 hK2 hR2 hO2 hF2 HK HR HO HOF hbr ha3
        go_upto_region 14 with fail
        rw [← hfq] at hbf
        rw [← hfq]
        generalize w2.alloc (.cells #[.string nm, .int .i64 ty, .bool m, .bool ky] 61) = W3 at *
        clear hfq
        cases hf : readFldL x with
        | none =>
          have HN : Hid (readKndL l = none) := by unfold Hid; exact HE1.out (HP1.out hf)
          rw [show (none : Option Fld).isSome = false from rfl]
          clear hK3 hO3 hF3 HP1 HP2 HRES hf
          -- the answer: none; the world: W3, its result's box: hR3, above w: hB3
          obtain ⟨k1, k2, k3, k4⟩ := res3 (.string ⟨#[]⟩) (.slice none 0 0) (.slice none 0 0) hB3 hR3
          have K := Lib.hid (And.intro k1 (And.intro k2 (And.intro k3 k4)))
          have r0 := block_cell hR3 0
          have r1 := block_cell hR3 1
          have r2 := block_cell hR3 2
          have f0 := block_free hR3 0
          have f1 := block_free hR3 1
          have f2 := block_free hR3 2
          clear k1 k2 k3 k4
          go_wp2_with fail
          obtain ⟨k1, k2, k3, k4⟩ := K.out
          exact bodyPost_ret (v := .tuple #[.agg #[.string ⟨#[]⟩, .slice none 0 0, .slice none 0 0], .bool false]) (by simp [results, Tryz.results36, go_sem, k2, k3, k4]) rfl (KndR.bad HN.out rfl k1)
        | some f =>
          obtain ⟨rfl, rfl, rfl, rfl, hok⟩ := HRES.out f hf
          have HST := Lib.hid (HP2.out f hf)
          have HOK2 := Lib.hid hok
          rw [show (some f : Option Fld).isSome = true from rfl]
          clear hf HP1 HP2 HRES hok
          have k2 := block_cell hK3 2
          have b0 := block_cell hbf 0
          have b1 := block_cell hbf 1
          have b2 := block_cell hbf 2
          have b3 := block_cell hbf 3
          have HOA := Lib.hid (hF3.alloc (.cells #[.string f.name, .int .i64 f.ty, .bool f.must, .bool f.key] 61))
          have HNW : Hid (∀ j u, (Fld.enc f)[j]? = some u → (W3.alloc (.cells #[.string f.name, .int .i64 f.ty, .bool f.must, .bool f.key] 61)).cell? ⟨W3.heap.size, j, none⟩ = some u) := fun j u hj => by
            rw [World.cell?_alloc_at _ _ _ _ rfl]; simpa [Fld.enc] using hj
          have hba : Below w.heap.size w (W3.alloc (.cells #[.string f.name, .int .i64 f.ty, .bool f.must, .bool f.key] 61)) := hB3.alloc hB3.size _
          have HSB : Hid (w.heap.size ≤ (W3.alloc (.cells #[.string f.name, .int .i64 f.ty, .bool f.must, .bool f.key] 61)).heap.size) := hba.size
          have hK4 := (((Below.refl W3.heap.size W3).alloc (Nat.le_refl _) (.cells #[.string f.name, .int .i64 f.ty, .bool f.must, .bool f.key] 61)).block _ (Array.getElem?_eq_some_iff.1 hK3).1).trans hK3
          have hR4 := (((Below.refl W3.heap.size W3).alloc (Nat.le_refl _) (.cells #[.string f.name, .int .i64 f.ty, .bool f.must, .bool f.key] 61)).block _ (Array.getElem?_eq_some_iff.1 hR3).1).trans hR3
          have hO4 := hO3.alloc (.cells #[.string f.name, .int .i64 f.ty, .bool f.must, .bool f.key] 61)
          have HK4 := Lib.hid hK4
          have HR4 := Lib.hid hR4
          have HO4 := Lib.hid hO4
          have HBA := Lib.hid hba
          have hnl : us.length ≤ 1048577 := by omega
          obtain ⟨nl, hnl2⟩ : ∃ nl, us.length = nl := ⟨_, rfl⟩
          have HNL := Lib.hid hnl2
          rw [hnl2] at HOA k2 HK4
          have hnl : nl ≤ 1048577 := by omega
          clear hK3 hR3 hO3 hF3 hB3 hK4 hR4 hO4 hba hbf hnl2
          go_wp2_with (first
            | (at_builtin; refine wpList_append_q _ rfl (.tmp 61) (.tmp 63) _ rfl w.heap.size 61 i0 (.agg #[.string .empty, .int .i64 0, .bool false, .bool false]) 4 32 Tryz.underlying57 ei ez ez1 ez2 rfl (by decide) (.slice Af nl cf) nl (us.flatMap Fld.enc) rfl HOA.out (some ⟨W3.heap.size, 0, none⟩) 1 1 (Fld.enc f) rfl rfl (fun _ => ⟨_, rfl, fun j u hj => by rw [addr_add, Nat.zero_add]; exact HNW.out j u hj⟩) (one_fldE _) (by unfold maxLen; omega) (by omega) HSB.out ?_
               intro v7 w7 hown7 hg7 hat7
               have hqne := HOA.out.ne_block HK4.out (by decide)
               have hrne := HOA.out.ne_block HR4.out (by decide)
               have hK7 := grown_block hg7 HK4.out hqne
               have hR7 := grown_block hg7 HR4.out hrne
               have hO7 := HO4.out.grown hg7 (HO4.out.ne_ty2 HOA.out (by decide))
               obtain ⟨A7, c7, hv7, _, _⟩ := hown7.form
               subst hv7
               have k2 := block_cell hK7 2
               have g2 := block_free hK7 2))
          have hB7 : Below w.heap.size w w7 := HBA.out.grown hg7 HSB.out (fun kk e => (HOA.out.lt kk e).1)
          have hul1 : (us ++ [f]).length = nl + 1 := by rw [List.length_append, HNL.out]; rfl
          have HUL := Lib.hid hul1
          have hfl : (us ++ [f]).flatMap Fld.enc = us.flatMap Fld.enc ++ Fld.enc f := by simp
          have HB7 := Lib.hid (hB7.setCell (p := ⟨q, 2, none⟩) hqw (.slice A7 (nl + 1) c7))
          have HK7 : Hid ((w7.setCell ⟨q, 2, none⟩ (.slice A7 (nl + 1) c7)).heap[q]? = some (.cells #[.string (bs a), .slice Au ofs.length cu, .slice A7 (us ++ [f]).length c7] 59 (0, 0))) := by
            rw [hul1]; exact setCell_block hK7 2 (.slice A7 (nl + 1) c7)
          have HR7 := Lib.hid (setCell_other hR7 hne 2 (.slice A7 (nl + 1) c7))
          have HO7 := Lib.hid (hO7.setCell ⟨q, 2, none⟩ (.slice A7 (nl + 1) c7) (Ne.symm (HO4.out.ne_block HK4.out (by decide))))
          have HF7 : Hid (Own (w7.setCell ⟨q, 2, none⟩ (.slice A7 (nl + 1) c7)) w.heap.size 61 4 (.slice A7 (us ++ [f]).length c7) (us ++ [f]).length ((us ++ [f]).flatMap Fld.enc)) := by
            rw [hul1, hfl]; exact hown7.setCell ⟨q, 2, none⟩ (.slice A7 (nl + 1) c7) (Ne.symm (hown7.ne_block hK7 (by decide)))
          have HU7 : Hid (∀ p ∈ us ++ [f], p.ok) := fun p hp => by
            rcases List.mem_append.1 hp with h | h
            · exact HUO.out p h
            · obtain rfl := List.mem_singleton.1 h; exact HOK2.out
          clear hB7 hul1 hfl hK7 hR7 hO7 hown7 hg7 hat7 hqne hrne k2 g2
          go_wp2_with fail
          go_roundw
          case rel => exact ⟨k + 1, us ++ [f], A7, c7, by omega, by go_num, by rw [HUL.out]; have := HNL.out; omega, HB7.out, HST, HK7, HR7, HO7, HF7, HU7⟩
          case measure => simp [intOf]; omega
      · obtain rfl : k = rest.length := by omega
        have HN : Hid (readKndL l = some ⟨bs a, ofs, us⟩) := by
          have h := HF.out; rw [List.take_length] at h; exact HE2.out us h
        obtain ⟨k1, k2, k3, k4⟩ := res3 (.string (bs a)) (.slice Au ofs.length cu) (.slice Af us.length cf) hbr HR.out
        have K := Lib.hid (And.intro k1 (And.intro k2 (And.intro k3 k4)))
        have r0 := block_cell HR.out 0
        have r1 := block_cell HR.out 1
        have r2 := block_cell HR.out 2
        have f0 := block_free HR.out 0
        have f1 := block_free HR.out 1
        have f2 := block_free HR.out 2
        have y0 := block_cell HK.out 0
        have y1 := block_cell HK.out 1
        have y2 := block_cell HK.out 2
        clear k1 k2 k3 k4
        go_wp2_with fail
        obtain ⟨k1, k2, k3, k4⟩ := K.out
        have e1 := Ne.symm (HO.out.ne_block HR.out (by decide))
        have e2 := Ne.symm (HOF.out.ne_block HR.out (by decide))
        exact bodyPost_ret (v := .tuple #[.agg #[.string (bs a), .slice Au ofs.length cu, .slice Af us.length cf], .bool true]) (by simp [results, Tryz.results36, go_sem, k2, k3, k4]) rfl ⟨bs a, Au, ofs.length, cu, Af, us.length, cf, by rw [HN.out]; rfl, (fun kd hkd => by
          rw [HN.out] at hkd
          injection hkd with hkd
          subst hkd
          exact ⟨rfl, rfl, rfl, HSA.out, HOS.out, ((HO.out.setCell ⟨w.heap.size, 0, none⟩ _ e1).setCell ⟨w.heap.size, 1, none⟩ _ e1).setCell ⟨w.heap.size, 2, none⟩ _ e1, HUO.out, ((HOF.out.setCell ⟨w.heap.size, 0, none⟩ _ e2).setCell ⟨w.heap.size, 1, none⟩ _ e2).setCell ⟨w.heap.size, 2, none⟩ _ e2⟩), k1⟩
  have hn2 : (2 : Int) < (n : Int) := by simp at hwl; omega
  by_cases hof : 1 < (y :: ws').length ∧ y = ofW
  · obtain ⟨h1, rfl⟩ := hof
    rcases ws' with _ | ⟨x, rest⟩
    · simp at h1
    obtain ⟨L, hL⟩ : ∃ L, L = rest.length := ⟨_, rfl⟩
    have hn4 : n = L + 4 := by simp at hwl; omega
    subst hn4
    have hy0 := cell_below hBW (HC0.out 0 ofW rfl).1
    rw [Nat.add_zero] at hy0
    obtain ⟨hx1, hxl⟩ := HC0.out 1 x rfl
    have hx1 := cell_below hBW hx1
    have hye : (bs ofW).toList = [111, 102] := by decide +kernel
    have HC1 : Hid (∀ i x, rest[i]? = some x → w.cell? ⟨g, 4 + i, none⟩ = some (.string (bs x)) ∧ x.length ≤ 1048576) := fun i z h => by
      have := HC0.out (2 + i) z (by rw [show 2 + i = i + 1 + 1 by omega, List.getElem?_cons_succ, List.getElem?_cons_succ]; exact h)
      rw [show 2 + (2 + i) = 4 + i by omega] at this; exact this
    have hsp := tx_split_own (bs x) 44 W (HT.out.below hBW).toTxP (by unfold Sm; rw [bs_size]; exact hxl)
    rw [bs_list] at hsp
    have HD4 : Hid (readKndL l = kndOf a (if (Lib.split x [44]).all wordB = true then some ((Lib.split x [44]).map bs, rest) else none)) := by unfold Hid; rw [HD3.out, ofsP_of]
    have HSP := Lib.hid (split_sm hxl)
    have HAN := Lib.hid (any_no_word (Lib.split x [44]))
    obtain ⟨ofs, hofs⟩ : ∃ o, o = (Lib.split x [44]).map bs := ⟨_, rfl⟩
    have hml : (Lib.split x [44]).length = ofs.length := by rw [hofs, List.length_map]
    rw [hml] at hsp
    rw [← hofs] at hsp HSP HAN HD4
    obtain ⟨qa, hqa⟩ : ∃ b, b = (Lib.split x [44]).all wordB := ⟨_, rfl⟩
    rw [← hqa] at HAN HD4
    have b2 : ((bs ofW).toList == [111, 102]) = true := by rw [hye]; rfl
    have hL1 : (1 : Int) < (L : Int) + 1 + 1 := by omega
    clear HC0 HD3 hwl hofs hml hqa hxl h1 hn2 hn1 h2'
    go_wp2_with fail
    refine hsp.mono ?_
    clear hsp
    rintro e w2 ⟨rfl, hOw, hb2⟩
    have hBW2 := hBW.trans (hb2.mono hBW.size)
    have hK2 := (hb2.block _ (Array.getElem?_eq_some_iff.1 HK.out).1).trans HK.out
    have hR2 := (hb2.block _ (Array.getElem?_eq_some_iff.1 HR.out).1).trans HR.out
    have k1 := block_cell hK2 1
    have g1 := block_free hK2 1
    have hoq := Ne.symm (hOw.ne_block hK2 (by decide))
    have hO3 := (hOw.setCell ⟨q, 1, none⟩ (.slice (some ⟨W.heap.size, 0, none⟩) ofs.length ofs.length) hoq).mono hBW.size
    have hK3 := setCell_block hK2 1 (.slice (some ⟨W.heap.size, 0, none⟩) ofs.length ofs.length)
    have hR3 := setCell_other hR2 hne 1 (.slice (some ⟨W.heap.size, 0, none⟩) ofs.length ofs.length)
    have hBW3 := hBW2.setCell (p := ⟨q, 1, none⟩) hqw (.slice (some ⟨W.heap.size, 0, none⟩) ofs.length ofs.length)
    clear hBW hBW2 hb2 hK2 hR2 HK HR hOw hoq hy0 hx1 b2 hye
    go_upto_region 7 with fail
    clear k1 g1
    generalize w2.setCell ⟨q, 1, none⟩ (.slice (some ⟨W.heap.size, 0, none⟩) ofs.length ofs.length) = W3 at *
    obtain ⟨Au, hAu⟩ : ∃ A : Option Addr, A = some ⟨W.heap.size, 0, none⟩ := ⟨_, rfl⟩
    rw [← hAu] at hO3 hK3
    rw [← hAu]
    obtain ⟨cu, hcu⟩ : ∃ c : Nat, c = ofs.length := ⟨_, rfl⟩
    have hO3 : Own W3 w.heap.size 9 1 (.slice Au ofs.length cu) ofs.length (ofs.map Value.string) := by rw [hcu]; exact hO3
    have hK3 : W3.heap[q]? = some (.cells #[.string (bs a), .slice Au ofs.length cu, .slice none 0 0] 59 (0, 0)) := by rw [hcu]; exact hK3
    have hcf := nowords_any ofs (.slice Au ofs.length cu) W3 (hO3.strs HSP.out)
    rw [HAN.out] at hcf
    have y1 := block_cell hK3 1
    rw [show Value.slice Au ofs.length ofs.length = Value.slice Au ofs.length cu from by rw [hcu]]
    clear hAu hcu HAN
    cases qa with
    | false =>
      have HN : Hid (readKndL l = none) := HD4.out
      rw [show (!false) = true from rfl] at hcf
      clear HD4 HC1 HSP
      go_wp2_with fail
      refine hcf.mono ?_
      clear hcf
      rintro e w4 ⟨rfl, hb4⟩
      have hB4 := hBW3.trans (hb4.mono hBW3.size)
      have hR4 := (hb4.block _ (Array.getElem?_eq_some_iff.1 hR3).1).trans hR3
      clear y1 hb4 hR3 hK3 hO3 hBW3
      -- the answer: none; the world: w4, its result's box: hR4, above w: hB4
      obtain ⟨k1, k2, k3, k4⟩ := res3 (.string ⟨#[]⟩) (.slice none 0 0) (.slice none 0 0) hB4 hR4
      have K := Lib.hid (And.intro k1 (And.intro k2 (And.intro k3 k4)))
      have r0 := block_cell hR4 0
      have r1 := block_cell hR4 1
      have r2 := block_cell hR4 2
      have f0 := block_free hR4 0
      have f1 := block_free hR4 1
      have f2 := block_free hR4 2
      clear k1 k2 k3 k4
      go_wp2_with fail
      obtain ⟨k1, k2, k3, k4⟩ := K.out
      exact bodyPost_ret (v := .tuple #[.agg #[.string ⟨#[]⟩, .slice none 0 0, .slice none 0 0], .bool false]) (by simp [results, Tryz.results36, go_sem, k2, k3, k4]) rfl (KndR.bad HN.out rfl k1)
    | true =>
      have HE1 : Hid (fldsP rest = none → readKndL l = none) := fun h => by rw [HD4.out]; exact (kndOf_some a ofs rest).1 h
      have HE2 : Hid (∀ fs, fldsP rest = some fs → readKndL l = some ⟨bs a, ofs, fs⟩) := fun fs h => by rw [HD4.out]; exact (kndOf_some a ofs rest).2 fs h
      rw [show (!true) = false from rfl] at hcf
      clear HD4
      go_wp2_with fail
      refine hcf.mono ?_
      clear hcf
      rintro e w4 ⟨rfl, hb4⟩
      have hBW := hBW3.trans (hb4.mono hBW3.size)
      have HR := Lib.hid ((hb4.block _ (Array.getElem?_eq_some_iff.1 hR3).1).trans hR3)
      have HK := Lib.hid ((hb4.block _ (Array.getElem?_eq_some_iff.1 hK3).1).trans hK3)
      have HO := Lib.hid (hO3.below hb4)
      have HOS := HSP
      clear y1 hb4 hR3 hK3 hO3 hBW3
      rcases rest with _ | ⟨z, zs⟩
      · have hL0 : L = 0 := by simpa using hL
        subst hL0
        obtain ⟨rest, hrest⟩ : ∃ r : List (List UInt8), r = [] := ⟨_, rfl⟩
        obtain ⟨D, hD⟩ : ∃ d : Nat, d = 2 := ⟨_, rfl⟩
        have HC : Hid (∀ i x, rest[i]? = some x → w.cell? ⟨g, D + i, none⟩ = some (.string (bs x)) ∧ x.length ≤ 1048576) := fun i x h => by rw [hrest] at h; simp at h
        have HE1 : Hid (fldsP rest = none → readKndL l = none) := by rw [hrest]; exact HE1
        have HE2 : Hid (∀ fs, fldsP rest = some fs → readKndL l = some ⟨bs a, ofs, fs⟩) := by rw [hrest]; exact HE2
        have hrl : rest.length ≤ 1048577 := by rw [hrest]; simp
        clear hL HC1 hL1
        go_upto_region 10 with fail
        rw [show Value.slice (some ⟨g, 2, none⟩) 0 0 = Value.slice (some ⟨g, D, none⟩) rest.length 0 from by rw [hrest, hD]; rfl]
        clear hrest hD
        go_wp2_with fail
        -- the fields' words: rest, from the cell D of the row on; the world is W
        go_loopw [48] (fun i wr => ∃ (k : Nat) (us : List Fld) (Af : Option Addr) (cf : Nat), k ≤ rest.length ∧ i = .int .i64 k ∧ us.length ≤ k ∧ Below w.heap.size w wr ∧ Hid (fldsP (rest.take k) = some us) ∧ Hid (wr.heap[q]? = some (.cells #[.string (bs a), .slice Au ofs.length cu, .slice Af us.length cf] 59 (0, 0))) ∧ Hid (wr.heap[w.heap.size]? = some (.cells #[.string ⟨#[]⟩, .slice none 0 0, .slice none 0 0] 59 (0, 0))) ∧
          Hid (Own wr w.heap.size 9 1 (.slice Au ofs.length cu) ofs.length (ofs.map Value.string)) ∧ Hid (Own wr w.heap.size 61 4 (.slice Af us.length cf) us.length (us.flatMap Fld.enc)) ∧ Hid (∀ p ∈ us, p.ok)) (fun i _ => rest.length - (intOf i).toNat)
        case atStart => exact ⟨0, [], none, 0, Nat.zero_le _, rfl, Nat.le_refl _, hBW, by rw [List.take_zero]; rfl, HK, HR, HO, Own.nil _ _ _ _, fun p hp => by simp at hp⟩
        case round =>
          obtain ⟨k, us, Af, cf, hk, rfl, hul, hbr, HF, HK, HR, HO, HOF, HUO⟩ := hrel
          clear hBW
          obtain ⟨wo, hwo⟩ : ∃ x : World, x = wr := ⟨_, rfl⟩
          subst hwo
          by_cases hlt : k < rest.length
          · obtain ⟨x, hx⟩ : ∃ d, rest[k]? = some d := ⟨_, List.getElem?_eq_getElem hlt⟩
            have hlt' : (k : Int) < (rest.length : Int) := by omega
            obtain ⟨x0, hxl⟩ := HC.out k x hx
            have x0 := cell_below hbr x0
            have hxs : Sm (bs x) := by unfold Sm; rw [bs_size]; exact hxl
            have hcall := rfld_any (bs x) hxs wo (HT.out.below hbr).toTxP (HY.out.below hbr)
            rw [bs_list] at hcall
            obtain ⟨p1, p2⟩ := fldsP_take HF.out hx
            have HP1 := Lib.hid p1
            have HP2 := Lib.hid p2
            clear hx hxl p1 p2 hxs HF
            go_wp2_with fail
            refine hcall.mono ?_
            clear hcall
            rintro e w2 ⟨nm, ty, m, ky, rfl, hres, hb2⟩
            have HRES := Lib.hid hres
            have hB2 := hbr.trans (hb2.mono hbr.size)
            have hK2 := (hb2.block _ (Array.getElem?_eq_some_iff.1 HK.out).1).trans HK.out
            have hR2 := (hb2.block _ (Array.getElem?_eq_some_iff.1 HR.out).1).trans HR.out
            have hO2 := HO.out.below hb2
            have hF2 := HOF.out.below hb2
            have ha3 : Below w2.heap.size w2 (w2.alloc (.cells #[.string nm, .int .i64 ty, .bool m, .bool ky] 61)) := (Below.refl _ _).alloc (Nat.le_refl _) _
            have hbf := heap_alloc_new w2 (.cells #[.string nm, .int .i64 ty, .bool m, .bool ky] 61)
            have hK3 := (ha3.block _ (Array.getElem?_eq_some_iff.1 hK2).1).trans hK2
            have hR3 := (ha3.block _ (Array.getElem?_eq_some_iff.1 hR2).1).trans hR2
            have hO3 := hO2.below ha3
            have hF3 := hF2.below ha3
            have hB3 := hB2.trans (ha3.mono hB2.size)
            obtain ⟨fq, hfq⟩ : ∃ n, n = w2.heap.size := ⟨_, rfl⟩
            clear x0 hres hb2 hB2 hK2 hR2 hO2 hF2 HK HR HO HOF hbr ha3
            go_upto_region 14 with fail
            rw [← hfq] at hbf
            rw [← hfq]
            generalize w2.alloc (.cells #[.string nm, .int .i64 ty, .bool m, .bool ky] 61) = W3 at *
            clear hfq
            cases hf : readFldL x with
            | none =>
              have HN : Hid (readKndL l = none) := by unfold Hid; exact HE1.out (HP1.out hf)
              rw [show (none : Option Fld).isSome = false from rfl]
              clear hK3 hO3 hF3 HP1 HP2 HRES hf
              -- the answer: none; the world: W3, its result's box: hR3, above w: hB3
              obtain ⟨k1, k2, k3, k4⟩ := res3 (.string ⟨#[]⟩) (.slice none 0 0) (.slice none 0 0) hB3 hR3
              have K := Lib.hid (And.intro k1 (And.intro k2 (And.intro k3 k4)))
              have r0 := block_cell hR3 0
              have r1 := block_cell hR3 1
              have r2 := block_cell hR3 2
              have f0 := block_free hR3 0
              have f1 := block_free hR3 1
              have f2 := block_free hR3 2
              clear k1 k2 k3 k4
              go_wp2_with fail
              obtain ⟨k1, k2, k3, k4⟩ := K.out
              exact bodyPost_ret (v := .tuple #[.agg #[.string ⟨#[]⟩, .slice none 0 0, .slice none 0 0], .bool false]) (by simp [results, Tryz.results36, go_sem, k2, k3, k4]) rfl (KndR.bad HN.out rfl k1)
            | some f =>
              obtain ⟨rfl, rfl, rfl, rfl, hok⟩ := HRES.out f hf
              have HST := Lib.hid (HP2.out f hf)
              have HOK2 := Lib.hid hok
              rw [show (some f : Option Fld).isSome = true from rfl]
              clear hf HP1 HP2 HRES hok
              have k2 := block_cell hK3 2
              have b0 := block_cell hbf 0
              have b1 := block_cell hbf 1
              have b2 := block_cell hbf 2
              have b3 := block_cell hbf 3
              have HOA := Lib.hid (hF3.alloc (.cells #[.string f.name, .int .i64 f.ty, .bool f.must, .bool f.key] 61))
              have HNW : Hid (∀ j u, (Fld.enc f)[j]? = some u → (W3.alloc (.cells #[.string f.name, .int .i64 f.ty, .bool f.must, .bool f.key] 61)).cell? ⟨W3.heap.size, j, none⟩ = some u) := fun j u hj => by
                rw [World.cell?_alloc_at _ _ _ _ rfl]; simpa [Fld.enc] using hj
              have hba : Below w.heap.size w (W3.alloc (.cells #[.string f.name, .int .i64 f.ty, .bool f.must, .bool f.key] 61)) := hB3.alloc hB3.size _
              have HSB : Hid (w.heap.size ≤ (W3.alloc (.cells #[.string f.name, .int .i64 f.ty, .bool f.must, .bool f.key] 61)).heap.size) := hba.size
              have hK4 := (((Below.refl W3.heap.size W3).alloc (Nat.le_refl _) (.cells #[.string f.name, .int .i64 f.ty, .bool f.must, .bool f.key] 61)).block _ (Array.getElem?_eq_some_iff.1 hK3).1).trans hK3
              have hR4 := (((Below.refl W3.heap.size W3).alloc (Nat.le_refl _) (.cells #[.string f.name, .int .i64 f.ty, .bool f.must, .bool f.key] 61)).block _ (Array.getElem?_eq_some_iff.1 hR3).1).trans hR3
              have hO4 := hO3.alloc (.cells #[.string f.name, .int .i64 f.ty, .bool f.must, .bool f.key] 61)
              have HK4 := Lib.hid hK4
              have HR4 := Lib.hid hR4
              have HO4 := Lib.hid hO4
              have HBA := Lib.hid hba
              have hnl : us.length ≤ 1048577 := by omega
              obtain ⟨nl, hnl2⟩ : ∃ nl, us.length = nl := ⟨_, rfl⟩
              have HNL := Lib.hid hnl2
              rw [hnl2] at HOA k2 HK4
              have hnl : nl ≤ 1048577 := by omega
              clear hK3 hR3 hO3 hF3 hB3 hK4 hR4 hO4 hba hbf hnl2
              go_wp2_with (first
                | (at_builtin; refine wpList_append_q _ rfl (.tmp 61) (.tmp 63) _ rfl w.heap.size 61 i0 (.agg #[.string .empty, .int .i64 0, .bool false, .bool false]) 4 32 Tryz.underlying57 ei ez ez1 ez2 rfl (by decide) (.slice Af nl cf) nl (us.flatMap Fld.enc) rfl HOA.out (some ⟨W3.heap.size, 0, none⟩) 1 1 (Fld.enc f) rfl rfl (fun _ => ⟨_, rfl, fun j u hj => by rw [addr_add, Nat.zero_add]; exact HNW.out j u hj⟩) (one_fldE _) (by unfold maxLen; omega) (by omega) HSB.out ?_
                   intro v7 w7 hown7 hg7 hat7
                   have hqne := HOA.out.ne_block HK4.out (by decide)
                   have hrne := HOA.out.ne_block HR4.out (by decide)
                   have hK7 := grown_block hg7 HK4.out hqne
                   have hR7 := grown_block hg7 HR4.out hrne
                   have hO7 := HO4.out.grown hg7 (HO4.out.ne_ty2 HOA.out (by decide))
                   obtain ⟨A7, c7, hv7, _, _⟩ := hown7.form
                   subst hv7
                   have k2 := block_cell hK7 2
                   have g2 := block_free hK7 2))
              have hB7 : Below w.heap.size w w7 := HBA.out.grown hg7 HSB.out (fun kk e => (HOA.out.lt kk e).1)
              have hul1 : (us ++ [f]).length = nl + 1 := by rw [List.length_append, HNL.out]; rfl
              have HUL := Lib.hid hul1
              have hfl : (us ++ [f]).flatMap Fld.enc = us.flatMap Fld.enc ++ Fld.enc f := by simp
              have HB7 := Lib.hid (hB7.setCell (p := ⟨q, 2, none⟩) hqw (.slice A7 (nl + 1) c7))
              have HK7 : Hid ((w7.setCell ⟨q, 2, none⟩ (.slice A7 (nl + 1) c7)).heap[q]? = some (.cells #[.string (bs a), .slice Au ofs.length cu, .slice A7 (us ++ [f]).length c7] 59 (0, 0))) := by
                rw [hul1]; exact setCell_block hK7 2 (.slice A7 (nl + 1) c7)
              have HR7 := Lib.hid (setCell_other hR7 hne 2 (.slice A7 (nl + 1) c7))
              have HO7 := Lib.hid (hO7.setCell ⟨q, 2, none⟩ (.slice A7 (nl + 1) c7) (Ne.symm (HO4.out.ne_block HK4.out (by decide))))
              have HF7 : Hid (Own (w7.setCell ⟨q, 2, none⟩ (.slice A7 (nl + 1) c7)) w.heap.size 61 4 (.slice A7 (us ++ [f]).length c7) (us ++ [f]).length ((us ++ [f]).flatMap Fld.enc)) := by
                rw [hul1, hfl]; exact hown7.setCell ⟨q, 2, none⟩ (.slice A7 (nl + 1) c7) (Ne.symm (hown7.ne_block hK7 (by decide)))
              have HU7 : Hid (∀ p ∈ us ++ [f], p.ok) := fun p hp => by
                rcases List.mem_append.1 hp with h | h
                · exact HUO.out p h
                · obtain rfl := List.mem_singleton.1 h; exact HOK2.out
              clear hB7 hul1 hfl hK7 hR7 hO7 hown7 hg7 hat7 hqne hrne k2 g2
              go_wp2_with fail
              go_roundw
              case rel => exact ⟨k + 1, us ++ [f], A7, c7, by omega, by go_num, by rw [HUL.out]; have := HNL.out; omega, HB7.out, HST, HK7, HR7, HO7, HF7, HU7⟩
              case measure => simp [intOf]; omega
          · obtain rfl : k = rest.length := by omega
            have HN : Hid (readKndL l = some ⟨bs a, ofs, us⟩) := by
              have h := HF.out; rw [List.take_length] at h; exact HE2.out us h
            obtain ⟨k1, k2, k3, k4⟩ := res3 (.string (bs a)) (.slice Au ofs.length cu) (.slice Af us.length cf) hbr HR.out
            have K := Lib.hid (And.intro k1 (And.intro k2 (And.intro k3 k4)))
            have r0 := block_cell HR.out 0
            have r1 := block_cell HR.out 1
            have r2 := block_cell HR.out 2
            have f0 := block_free HR.out 0
            have f1 := block_free HR.out 1
            have f2 := block_free HR.out 2
            have y0 := block_cell HK.out 0
            have y1 := block_cell HK.out 1
            have y2 := block_cell HK.out 2
            clear k1 k2 k3 k4
            go_wp2_with fail
            obtain ⟨k1, k2, k3, k4⟩ := K.out
            have e1 := Ne.symm (HO.out.ne_block HR.out (by decide))
            have e2 := Ne.symm (HOF.out.ne_block HR.out (by decide))
            exact bodyPost_ret (v := .tuple #[.agg #[.string (bs a), .slice Au ofs.length cu, .slice Af us.length cf], .bool true]) (by simp [results, Tryz.results36, go_sem, k2, k3, k4]) rfl ⟨bs a, Au, ofs.length, cu, Af, us.length, cf, by rw [HN.out]; rfl, (fun kd hkd => by
              rw [HN.out] at hkd
              injection hkd with hkd
              subst hkd
              exact ⟨rfl, rfl, rfl, HSA.out, HOS.out, ((HO.out.setCell ⟨w.heap.size, 0, none⟩ _ e1).setCell ⟨w.heap.size, 1, none⟩ _ e1).setCell ⟨w.heap.size, 2, none⟩ _ e1, HUO.out, ((HOF.out.setCell ⟨w.heap.size, 0, none⟩ _ e2).setCell ⟨w.heap.size, 1, none⟩ _ e2).setCell ⟨w.heap.size, 2, none⟩ _ e2⟩), k1⟩
      · have hL0 : (0 : Int) < (L : Int) := by simp at hL; omega
        obtain ⟨rest, hrest⟩ : ∃ r : List (List UInt8), r = z :: zs := ⟨_, rfl⟩
        rw [← hrest] at HC1 HE1 HE2 hL
        have HC := HC1
        have hrl : rest.length ≤ 1048577 := by omega
        have HRS := Lib.hid hrest
        obtain ⟨cc, hcc⟩ : ∃ c : Nat, c = zs.length + 1 := ⟨_, rfl⟩
        have HCC := Lib.hid hcc
        clear HC1 hrest hcc
        go_upto_region 10 with fail
        rw [show Value.slice (some ⟨g, 4, none⟩) (zs.length + 1) (zs.length + 1) = Value.slice (some ⟨g, 4, none⟩) rest.length cc from by rw [HRS.out, HCC.out]; rfl]
        clear hL hL0 hL1 HRS HCC
        go_wp2_with fail
        -- the fields' words: rest, from the cell 4 of the row on; the world is W
        go_loopw [48] (fun i wr => ∃ (k : Nat) (us : List Fld) (Af : Option Addr) (cf : Nat), k ≤ rest.length ∧ i = .int .i64 k ∧ us.length ≤ k ∧ Below w.heap.size w wr ∧ Hid (fldsP (rest.take k) = some us) ∧ Hid (wr.heap[q]? = some (.cells #[.string (bs a), .slice Au ofs.length cu, .slice Af us.length cf] 59 (0, 0))) ∧ Hid (wr.heap[w.heap.size]? = some (.cells #[.string ⟨#[]⟩, .slice none 0 0, .slice none 0 0] 59 (0, 0))) ∧
          Hid (Own wr w.heap.size 9 1 (.slice Au ofs.length cu) ofs.length (ofs.map Value.string)) ∧ Hid (Own wr w.heap.size 61 4 (.slice Af us.length cf) us.length (us.flatMap Fld.enc)) ∧ Hid (∀ p ∈ us, p.ok)) (fun i _ => rest.length - (intOf i).toNat)
        case atStart => exact ⟨0, [], none, 0, Nat.zero_le _, rfl, Nat.le_refl _, hBW, by rw [List.take_zero]; rfl, HK, HR, HO, Own.nil _ _ _ _, fun p hp => by simp at hp⟩
        case round =>
          obtain ⟨k, us, Af, cf, hk, rfl, hul, hbr, HF, HK, HR, HO, HOF, HUO⟩ := hrel
          clear hBW
          obtain ⟨wo, hwo⟩ : ∃ x : World, x = wr := ⟨_, rfl⟩
          subst hwo
          by_cases hlt : k < rest.length
          · obtain ⟨x, hx⟩ : ∃ d, rest[k]? = some d := ⟨_, List.getElem?_eq_getElem hlt⟩
            have hlt' : (k : Int) < (rest.length : Int) := by omega
            obtain ⟨x0, hxl⟩ := HC.out k x hx
            have x0 := cell_below hbr x0
            have hxs : Sm (bs x) := by unfold Sm; rw [bs_size]; exact hxl
            have hcall := rfld_any (bs x) hxs wo (HT.out.below hbr).toTxP (HY.out.below hbr)
            rw [bs_list] at hcall
            obtain ⟨p1, p2⟩ := fldsP_take HF.out hx
            have HP1 := Lib.hid p1
            have HP2 := Lib.hid p2
            clear hx hxl p1 p2 hxs HF
            go_wp2_with fail
            refine hcall.mono ?_
            clear hcall
            rintro e w2 ⟨nm, ty, m, ky, rfl, hres, hb2⟩
            have HRES := Lib.hid hres
            have hB2 := hbr.trans (hb2.mono hbr.size)
            have hK2 := (hb2.block _ (Array.getElem?_eq_some_iff.1 HK.out).1).trans HK.out
            have hR2 := (hb2.block _ (Array.getElem?_eq_some_iff.1 HR.out).1).trans HR.out
            have hO2 := HO.out.below hb2
            have hF2 := HOF.out.below hb2
            have ha3 : Below w2.heap.size w2 (w2.alloc (.cells #[.string nm, .int .i64 ty, .bool m, .bool ky] 61)) := (Below.refl _ _).alloc (Nat.le_refl _) _
            have hbf := heap_alloc_new w2 (.cells #[.string nm, .int .i64 ty, .bool m, .bool ky] 61)
            have hK3 := (ha3.block _ (Array.getElem?_eq_some_iff.1 hK2).1).trans hK2
            have hR3 := (ha3.block _ (Array.getElem?_eq_some_iff.1 hR2).1).trans hR2
            have hO3 := hO2.below ha3
            have hF3 := hF2.below ha3
            have hB3 := hB2.trans (ha3.mono hB2.size)
            obtain ⟨fq, hfq⟩ : ∃ n, n = w2.heap.size := ⟨_, rfl⟩
            clear x0 hres hb2 hB2 hK2 hR2 hO2 hF2 HK HR HO HOF hbr ha3
            go_upto_region 14 with fail
            rw [← hfq] at hbf
            rw [← hfq]
            generalize w2.alloc (.cells #[.string nm, .int .i64 ty, .bool m, .bool ky] 61) = W3 at *
            clear hfq
            cases hf : readFldL x with
            | none =>
              have HN : Hid (readKndL l = none) := by unfold Hid; exact HE1.out (HP1.out hf)
              rw [show (none : Option Fld).isSome = false from rfl]
              clear hK3 hO3 hF3 HP1 HP2 HRES hf
              -- the answer: none; the world: W3, its result's box: hR3, above w: hB3
              obtain ⟨k1, k2, k3, k4⟩ := res3 (.string ⟨#[]⟩) (.slice none 0 0) (.slice none 0 0) hB3 hR3
              have K := Lib.hid (And.intro k1 (And.intro k2 (And.intro k3 k4)))
              have r0 := block_cell hR3 0
              have r1 := block_cell hR3 1
              have r2 := block_cell hR3 2
              have f0 := block_free hR3 0
              have f1 := block_free hR3 1
              have f2 := block_free hR3 2
              clear k1 k2 k3 k4
              go_wp2_with fail
              obtain ⟨k1, k2, k3, k4⟩ := K.out
              exact bodyPost_ret (v := .tuple #[.agg #[.string ⟨#[]⟩, .slice none 0 0, .slice none 0 0], .bool false]) (by simp [results, Tryz.results36, go_sem, k2, k3, k4]) rfl (KndR.bad HN.out rfl k1)
            | some f =>
              obtain ⟨rfl, rfl, rfl, rfl, hok⟩ := HRES.out f hf
              have HST := Lib.hid (HP2.out f hf)
              have HOK2 := Lib.hid hok
              rw [show (some f : Option Fld).isSome = true from rfl]
              clear hf HP1 HP2 HRES hok
              have k2 := block_cell hK3 2
              have b0 := block_cell hbf 0
              have b1 := block_cell hbf 1
              have b2 := block_cell hbf 2
              have b3 := block_cell hbf 3
              have HOA := Lib.hid (hF3.alloc (.cells #[.string f.name, .int .i64 f.ty, .bool f.must, .bool f.key] 61))
              have HNW : Hid (∀ j u, (Fld.enc f)[j]? = some u → (W3.alloc (.cells #[.string f.name, .int .i64 f.ty, .bool f.must, .bool f.key] 61)).cell? ⟨W3.heap.size, j, none⟩ = some u) := fun j u hj => by
                rw [World.cell?_alloc_at _ _ _ _ rfl]; simpa [Fld.enc] using hj
              have hba : Below w.heap.size w (W3.alloc (.cells #[.string f.name, .int .i64 f.ty, .bool f.must, .bool f.key] 61)) := hB3.alloc hB3.size _
              have HSB : Hid (w.heap.size ≤ (W3.alloc (.cells #[.string f.name, .int .i64 f.ty, .bool f.must, .bool f.key] 61)).heap.size) := hba.size
              have hK4 := (((Below.refl W3.heap.size W3).alloc (Nat.le_refl _) (.cells #[.string f.name, .int .i64 f.ty, .bool f.must, .bool f.key] 61)).block _ (Array.getElem?_eq_some_iff.1 hK3).1).trans hK3
              have hR4 := (((Below.refl W3.heap.size W3).alloc (Nat.le_refl _) (.cells #[.string f.name, .int .i64 f.ty, .bool f.must, .bool f.key] 61)).block _ (Array.getElem?_eq_some_iff.1 hR3).1).trans hR3
              have hO4 := hO3.alloc (.cells #[.string f.name, .int .i64 f.ty, .bool f.must, .bool f.key] 61)
              have HK4 := Lib.hid hK4
              have HR4 := Lib.hid hR4
              have HO4 := Lib.hid hO4
              have HBA := Lib.hid hba
              have hnl : us.length ≤ 1048577 := by omega
              obtain ⟨nl, hnl2⟩ : ∃ nl, us.length = nl := ⟨_, rfl⟩
              have HNL := Lib.hid hnl2
              rw [hnl2] at HOA k2 HK4
              have hnl : nl ≤ 1048577 := by omega
              clear hK3 hR3 hO3 hF3 hB3 hK4 hR4 hO4 hba hbf hnl2
              go_wp2_with (first
                | (at_builtin; refine wpList_append_q _ rfl (.tmp 61) (.tmp 63) _ rfl w.heap.size 61 i0 (.agg #[.string .empty, .int .i64 0, .bool false, .bool false]) 4 32 Tryz.underlying57 ei ez ez1 ez2 rfl (by decide) (.slice Af nl cf) nl (us.flatMap Fld.enc) rfl HOA.out (some ⟨W3.heap.size, 0, none⟩) 1 1 (Fld.enc f) rfl rfl (fun _ => ⟨_, rfl, fun j u hj => by rw [addr_add, Nat.zero_add]; exact HNW.out j u hj⟩) (one_fldE _) (by unfold maxLen; omega) (by omega) HSB.out ?_
                   intro v7 w7 hown7 hg7 hat7
                   have hqne := HOA.out.ne_block HK4.out (by decide)
                   have hrne := HOA.out.ne_block HR4.out (by decide)
                   have hK7 := grown_block hg7 HK4.out hqne
                   have hR7 := grown_block hg7 HR4.out hrne
                   have hO7 := HO4.out.grown hg7 (HO4.out.ne_ty2 HOA.out (by decide))
                   obtain ⟨A7, c7, hv7, _, _⟩ := hown7.form
                   subst hv7
                   have k2 := block_cell hK7 2
                   have g2 := block_free hK7 2))
              have hB7 : Below w.heap.size w w7 := HBA.out.grown hg7 HSB.out (fun kk e => (HOA.out.lt kk e).1)
              have hul1 : (us ++ [f]).length = nl + 1 := by rw [List.length_append, HNL.out]; rfl
              have HUL := Lib.hid hul1
              have hfl : (us ++ [f]).flatMap Fld.enc = us.flatMap Fld.enc ++ Fld.enc f := by simp
              have HB7 := Lib.hid (hB7.setCell (p := ⟨q, 2, none⟩) hqw (.slice A7 (nl + 1) c7))
              have HK7 : Hid ((w7.setCell ⟨q, 2, none⟩ (.slice A7 (nl + 1) c7)).heap[q]? = some (.cells #[.string (bs a), .slice Au ofs.length cu, .slice A7 (us ++ [f]).length c7] 59 (0, 0))) := by
                rw [hul1]; exact setCell_block hK7 2 (.slice A7 (nl + 1) c7)
              have HR7 := Lib.hid (setCell_other hR7 hne 2 (.slice A7 (nl + 1) c7))
              have HO7 := Lib.hid (hO7.setCell ⟨q, 2, none⟩ (.slice A7 (nl + 1) c7) (Ne.symm (HO4.out.ne_block HK4.out (by decide))))
              have HF7 : Hid (Own (w7.setCell ⟨q, 2, none⟩ (.slice A7 (nl + 1) c7)) w.heap.size 61 4 (.slice A7 (us ++ [f]).length c7) (us ++ [f]).length ((us ++ [f]).flatMap Fld.enc)) := by
                rw [hul1, hfl]; exact hown7.setCell ⟨q, 2, none⟩ (.slice A7 (nl + 1) c7) (Ne.symm (hown7.ne_block hK7 (by decide)))
              have HU7 : Hid (∀ p ∈ us ++ [f], p.ok) := fun p hp => by
                rcases List.mem_append.1 hp with h | h
                · exact HUO.out p h
                · obtain rfl := List.mem_singleton.1 h; exact HOK2.out
              clear hB7 hul1 hfl hK7 hR7 hO7 hown7 hg7 hat7 hqne hrne k2 g2
              go_wp2_with fail
              go_roundw
              case rel => exact ⟨k + 1, us ++ [f], A7, c7, by omega, by go_num, by rw [HUL.out]; have := HNL.out; omega, HB7.out, HST, HK7, HR7, HO7, HF7, HU7⟩
              case measure => simp [intOf]; omega
          · obtain rfl : k = rest.length := by omega
            have HN : Hid (readKndL l = some ⟨bs a, ofs, us⟩) := by
              have h := HF.out; rw [List.take_length] at h; exact HE2.out us h
            obtain ⟨k1, k2, k3, k4⟩ := res3 (.string (bs a)) (.slice Au ofs.length cu) (.slice Af us.length cf) hbr HR.out
            have K := Lib.hid (And.intro k1 (And.intro k2 (And.intro k3 k4)))
            have r0 := block_cell HR.out 0
            have r1 := block_cell HR.out 1
            have r2 := block_cell HR.out 2
            have f0 := block_free HR.out 0
            have f1 := block_free HR.out 1
            have f2 := block_free HR.out 2
            have y0 := block_cell HK.out 0
            have y1 := block_cell HK.out 1
            have y2 := block_cell HK.out 2
            clear k1 k2 k3 k4
            go_wp2_with fail
            obtain ⟨k1, k2, k3, k4⟩ := K.out
            have e1 := Ne.symm (HO.out.ne_block HR.out (by decide))
            have e2 := Ne.symm (HOF.out.ne_block HR.out (by decide))
            exact bodyPost_ret (v := .tuple #[.agg #[.string (bs a), .slice Au ofs.length cu, .slice Af us.length cf], .bool true]) (by simp [results, Tryz.results36, go_sem, k2, k3, k4]) rfl ⟨bs a, Au, ofs.length, cu, Af, us.length, cf, by rw [HN.out]; rfl, (fun kd hkd => by
              rw [HN.out] at hkd
              injection hkd with hkd
              subst hkd
              exact ⟨rfl, rfl, rfl, HSA.out, HOS.out, ((HO.out.setCell ⟨w.heap.size, 0, none⟩ _ e1).setCell ⟨w.heap.size, 1, none⟩ _ e1).setCell ⟨w.heap.size, 2, none⟩ _ e1, HUO.out, ((HOF.out.setCell ⟨w.heap.size, 0, none⟩ _ e2).setCell ⟨w.heap.size, 1, none⟩ _ e2).setCell ⟨w.heap.size, 2, none⟩ _ e2⟩), k1⟩
  · obtain ⟨rest, hrest⟩ : ∃ r : List (List UInt8), r = y :: ws' := ⟨_, rfl⟩
    obtain ⟨ofs, hofs⟩ : ∃ r : List ByteArray, r = [] := ⟨_, rfl⟩
    have hfo := ofsP_no (ws := y :: ws') (by rintro ⟨h1, h2⟩; exact hof ⟨h1, Option.some.inj h2⟩)
    rw [hfo] at HD3
    rw [← hrest] at HD3 hwl hof HC0
    have HE1 : Hid (fldsP rest = none → readKndL l = none) := fun h => by rw [HD3.out]; exact (kndOf_some a [] rest).1 h
    have HE2 : Hid (∀ fs, fldsP rest = some fs → readKndL l = some ⟨bs a, ofs, fs⟩) := fun fs h => by rw [HD3.out, hofs]; exact (kndOf_some a [] rest).2 fs h
    have HK : Hid (W.heap[q]? = some (.cells #[.string (bs a), .slice none ofs.length 0, .slice none 0 0] 59 (0, 0))) := by rw [hofs]; exact HK.out
    have HO : Hid (Own W w.heap.size 9 1 (.slice none ofs.length 0) ofs.length (ofs.map Value.string)) := by rw [hofs]; exact Own.nil _ _ _ _
    have HOS : Hid (∀ p ∈ ofs, Sm p) := fun p hp => by rw [hofs] at hp; cases hp
    obtain ⟨Au, hAu⟩ : ∃ A : Option Addr, A = none := ⟨_, rfl⟩
    obtain ⟨cu, hcu⟩ : ∃ c : Nat, c = 0 := ⟨_, rfl⟩
    have HK : Hid (W.heap[q]? = some (.cells #[.string (bs a), .slice Au ofs.length cu, .slice none 0 0] 59 (0, 0))) := by rw [hAu, hcu]; exact HK
    have HO : Hid (Own W w.heap.size 9 1 (.slice Au ofs.length cu) ofs.length (ofs.map Value.string)) := by rw [hAu, hcu]; exact HO
    have HC := HC0
    have hrl : rest.length ≤ 1048577 := by omega
    have hy0 := (HC0.out 0 y (by rw [hrest]; rfl)).1
    have hy0 := cell_below hBW hy0
    rw [Nat.add_zero] at hy0
    have hye := bs_lit (K := y) (L := ofW) (M := [111, 102]) (by decide +kernel)
    have HWL := Lib.hid hwl
    have hof2 : ¬ (1 : Int) < (rest.length : Int) ∨ ((1 : Int) < (rest.length : Int) ∧ ¬ y = ofW) := by
      by_cases h1 : 1 < rest.length
      · exact .inr ⟨by omega, fun e => hof ⟨h1, e⟩⟩
      · exact .inl (by omega)
    clear HD3 hofs HC0 hAu hcu hrest hof hfo
    go_upto_region 5 with fail
    rw [← HWL.out]
    clear hn2 hwl HWL hn1 h2'
    rcases hof2 with h1 | ⟨h1, h2⟩
    · clear hye hy0
      go_wp2_with fail
      clear h1
      -- the fields' words: rest, from the cell 2 of the row on; the world is W
      go_loopw [48] (fun i wr => ∃ (k : Nat) (us : List Fld) (Af : Option Addr) (cf : Nat), k ≤ rest.length ∧ i = .int .i64 k ∧ us.length ≤ k ∧ Below w.heap.size w wr ∧ Hid (fldsP (rest.take k) = some us) ∧ Hid (wr.heap[q]? = some (.cells #[.string (bs a), .slice Au ofs.length cu, .slice Af us.length cf] 59 (0, 0))) ∧ Hid (wr.heap[w.heap.size]? = some (.cells #[.string ⟨#[]⟩, .slice none 0 0, .slice none 0 0] 59 (0, 0))) ∧
        Hid (Own wr w.heap.size 9 1 (.slice Au ofs.length cu) ofs.length (ofs.map Value.string)) ∧ Hid (Own wr w.heap.size 61 4 (.slice Af us.length cf) us.length (us.flatMap Fld.enc)) ∧ Hid (∀ p ∈ us, p.ok)) (fun i _ => rest.length - (intOf i).toNat)
      case atStart => exact ⟨0, [], none, 0, Nat.zero_le _, rfl, Nat.le_refl _, hBW, by rw [List.take_zero]; rfl, HK, HR, HO, Own.nil _ _ _ _, fun p hp => by simp at hp⟩
      case round =>
        obtain ⟨k, us, Af, cf, hk, rfl, hul, hbr, HF, HK, HR, HO, HOF, HUO⟩ := hrel
        clear hBW
        obtain ⟨wo, hwo⟩ : ∃ x : World, x = wr := ⟨_, rfl⟩
        subst hwo
        by_cases hlt : k < rest.length
        · obtain ⟨x, hx⟩ : ∃ d, rest[k]? = some d := ⟨_, List.getElem?_eq_getElem hlt⟩
          have hlt' : (k : Int) < (rest.length : Int) := by omega
          obtain ⟨x0, hxl⟩ := HC.out k x hx
          have x0 := cell_below hbr x0
          have hxs : Sm (bs x) := by unfold Sm; rw [bs_size]; exact hxl
          have hcall := rfld_any (bs x) hxs wo (HT.out.below hbr).toTxP (HY.out.below hbr)
          rw [bs_list] at hcall
          obtain ⟨p1, p2⟩ := fldsP_take HF.out hx
          have HP1 := Lib.hid p1
          have HP2 := Lib.hid p2
          clear hx hxl p1 p2 hxs HF
          go_wp2_with fail
          refine hcall.mono ?_
          clear hcall
          rintro e w2 ⟨nm, ty, m, ky, rfl, hres, hb2⟩
          have HRES := Lib.hid hres
          have hB2 := hbr.trans (hb2.mono hbr.size)
          have hK2 := (hb2.block _ (Array.getElem?_eq_some_iff.1 HK.out).1).trans HK.out
          have hR2 := (hb2.block _ (Array.getElem?_eq_some_iff.1 HR.out).1).trans HR.out
          have hO2 := HO.out.below hb2
          have hF2 := HOF.out.below hb2
          have ha3 : Below w2.heap.size w2 (w2.alloc (.cells #[.string nm, .int .i64 ty, .bool m, .bool ky] 61)) := (Below.refl _ _).alloc (Nat.le_refl _) _
          have hbf := heap_alloc_new w2 (.cells #[.string nm, .int .i64 ty, .bool m, .bool ky] 61)
          have hK3 := (ha3.block _ (Array.getElem?_eq_some_iff.1 hK2).1).trans hK2
          have hR3 := (ha3.block _ (Array.getElem?_eq_some_iff.1 hR2).1).trans hR2
          have hO3 := hO2.below ha3
          have hF3 := hF2.below ha3
          have hB3 := hB2.trans (ha3.mono hB2.size)
          obtain ⟨fq, hfq⟩ : ∃ n, n = w2.heap.size := ⟨_, rfl⟩
          clear x0 hres hb2 hB2 hK2 hR2 hO2 hF2 HK HR HO HOF hbr ha3
          go_upto_region 14 with fail
          rw [← hfq] at hbf
          rw [← hfq]
          generalize w2.alloc (.cells #[.string nm, .int .i64 ty, .bool m, .bool ky] 61) = W3 at *
          clear hfq
          cases hf : readFldL x with
          | none =>
            have HN : Hid (readKndL l = none) := by unfold Hid; exact HE1.out (HP1.out hf)
            rw [show (none : Option Fld).isSome = false from rfl]
            clear hK3 hO3 hF3 HP1 HP2 HRES hf
            -- the answer: none; the world: W3, its result's box: hR3, above w: hB3
            obtain ⟨k1, k2, k3, k4⟩ := res3 (.string ⟨#[]⟩) (.slice none 0 0) (.slice none 0 0) hB3 hR3
            have K := Lib.hid (And.intro k1 (And.intro k2 (And.intro k3 k4)))
            have r0 := block_cell hR3 0
            have r1 := block_cell hR3 1
            have r2 := block_cell hR3 2
            have f0 := block_free hR3 0
            have f1 := block_free hR3 1
            have f2 := block_free hR3 2
            clear k1 k2 k3 k4
            go_wp2_with fail
            obtain ⟨k1, k2, k3, k4⟩ := K.out
            exact bodyPost_ret (v := .tuple #[.agg #[.string ⟨#[]⟩, .slice none 0 0, .slice none 0 0], .bool false]) (by simp [results, Tryz.results36, go_sem, k2, k3, k4]) rfl (KndR.bad HN.out rfl k1)
          | some f =>
            obtain ⟨rfl, rfl, rfl, rfl, hok⟩ := HRES.out f hf
            have HST := Lib.hid (HP2.out f hf)
            have HOK2 := Lib.hid hok
            rw [show (some f : Option Fld).isSome = true from rfl]
            clear hf HP1 HP2 HRES hok
            have k2 := block_cell hK3 2
            have b0 := block_cell hbf 0
            have b1 := block_cell hbf 1
            have b2 := block_cell hbf 2
            have b3 := block_cell hbf 3
            have HOA := Lib.hid (hF3.alloc (.cells #[.string f.name, .int .i64 f.ty, .bool f.must, .bool f.key] 61))
            have HNW : Hid (∀ j u, (Fld.enc f)[j]? = some u → (W3.alloc (.cells #[.string f.name, .int .i64 f.ty, .bool f.must, .bool f.key] 61)).cell? ⟨W3.heap.size, j, none⟩ = some u) := fun j u hj => by
              rw [World.cell?_alloc_at _ _ _ _ rfl]; simpa [Fld.enc] using hj
            have hba : Below w.heap.size w (W3.alloc (.cells #[.string f.name, .int .i64 f.ty, .bool f.must, .bool f.key] 61)) := hB3.alloc hB3.size _
            have HSB : Hid (w.heap.size ≤ (W3.alloc (.cells #[.string f.name, .int .i64 f.ty, .bool f.must, .bool f.key] 61)).heap.size) := hba.size
            have hK4 := (((Below.refl W3.heap.size W3).alloc (Nat.le_refl _) (.cells #[.string f.name, .int .i64 f.ty, .bool f.must, .bool f.key] 61)).block _ (Array.getElem?_eq_some_iff.1 hK3).1).trans hK3
            have hR4 := (((Below.refl W3.heap.size W3).alloc (Nat.le_refl _) (.cells #[.string f.name, .int .i64 f.ty, .bool f.must, .bool f.key] 61)).block _ (Array.getElem?_eq_some_iff.1 hR3).1).trans hR3
            have hO4 := hO3.alloc (.cells #[.string f.name, .int .i64 f.ty, .bool f.must, .bool f.key] 61)
            have HK4 := Lib.hid hK4
            have HR4 := Lib.hid hR4
            have HO4 := Lib.hid hO4
            have HBA := Lib.hid hba
            have hnl : us.length ≤ 1048577 := by omega
            obtain ⟨nl, hnl2⟩ : ∃ nl, us.length = nl := ⟨_, rfl⟩
            have HNL := Lib.hid hnl2
            rw [hnl2] at HOA k2 HK4
            have hnl : nl ≤ 1048577 := by omega
            clear hK3 hR3 hO3 hF3 hB3 hK4 hR4 hO4 hba hbf hnl2
            go_wp2_with (first
              | (at_builtin; refine wpList_append_q _ rfl (.tmp 61) (.tmp 63) _ rfl w.heap.size 61 i0 (.agg #[.string .empty, .int .i64 0, .bool false, .bool false]) 4 32 Tryz.underlying57 ei ez ez1 ez2 rfl (by decide) (.slice Af nl cf) nl (us.flatMap Fld.enc) rfl HOA.out (some ⟨W3.heap.size, 0, none⟩) 1 1 (Fld.enc f) rfl rfl (fun _ => ⟨_, rfl, fun j u hj => by rw [addr_add, Nat.zero_add]; exact HNW.out j u hj⟩) (one_fldE _) (by unfold maxLen; omega) (by omega) HSB.out ?_
                 intro v7 w7 hown7 hg7 hat7
                 have hqne := HOA.out.ne_block HK4.out (by decide)
                 have hrne := HOA.out.ne_block HR4.out (by decide)
                 have hK7 := grown_block hg7 HK4.out hqne
                 have hR7 := grown_block hg7 HR4.out hrne
                 have hO7 := HO4.out.grown hg7 (HO4.out.ne_ty2 HOA.out (by decide))
                 obtain ⟨A7, c7, hv7, _, _⟩ := hown7.form
                 subst hv7
                 have k2 := block_cell hK7 2
                 have g2 := block_free hK7 2))
            have hB7 : Below w.heap.size w w7 := HBA.out.grown hg7 HSB.out (fun kk e => (HOA.out.lt kk e).1)
            have hul1 : (us ++ [f]).length = nl + 1 := by rw [List.length_append, HNL.out]; rfl
            have HUL := Lib.hid hul1
            have hfl : (us ++ [f]).flatMap Fld.enc = us.flatMap Fld.enc ++ Fld.enc f := by simp
            have HB7 := Lib.hid (hB7.setCell (p := ⟨q, 2, none⟩) hqw (.slice A7 (nl + 1) c7))
            have HK7 : Hid ((w7.setCell ⟨q, 2, none⟩ (.slice A7 (nl + 1) c7)).heap[q]? = some (.cells #[.string (bs a), .slice Au ofs.length cu, .slice A7 (us ++ [f]).length c7] 59 (0, 0))) := by
              rw [hul1]; exact setCell_block hK7 2 (.slice A7 (nl + 1) c7)
            have HR7 := Lib.hid (setCell_other hR7 hne 2 (.slice A7 (nl + 1) c7))
            have HO7 := Lib.hid (hO7.setCell ⟨q, 2, none⟩ (.slice A7 (nl + 1) c7) (Ne.symm (HO4.out.ne_block HK4.out (by decide))))
            have HF7 : Hid (Own (w7.setCell ⟨q, 2, none⟩ (.slice A7 (nl + 1) c7)) w.heap.size 61 4 (.slice A7 (us ++ [f]).length c7) (us ++ [f]).length ((us ++ [f]).flatMap Fld.enc)) := by
              rw [hul1, hfl]; exact hown7.setCell ⟨q, 2, none⟩ (.slice A7 (nl + 1) c7) (Ne.symm (hown7.ne_block hK7 (by decide)))
            have HU7 : Hid (∀ p ∈ us ++ [f], p.ok) := fun p hp => by
              rcases List.mem_append.1 hp with h | h
              · exact HUO.out p h
              · obtain rfl := List.mem_singleton.1 h; exact HOK2.out
            clear hB7 hul1 hfl hK7 hR7 hO7 hown7 hg7 hat7 hqne hrne k2 g2
            go_wp2_with fail
            go_roundw
            case rel => exact ⟨k + 1, us ++ [f], A7, c7, by omega, by go_num, by rw [HUL.out]; have := HNL.out; omega, HB7.out, HST, HK7, HR7, HO7, HF7, HU7⟩
            case measure => simp [intOf]; omega
        · obtain rfl : k = rest.length := by omega
          have HN : Hid (readKndL l = some ⟨bs a, ofs, us⟩) := by
            have h := HF.out; rw [List.take_length] at h; exact HE2.out us h
          obtain ⟨k1, k2, k3, k4⟩ := res3 (.string (bs a)) (.slice Au ofs.length cu) (.slice Af us.length cf) hbr HR.out
          have K := Lib.hid (And.intro k1 (And.intro k2 (And.intro k3 k4)))
          have r0 := block_cell HR.out 0
          have r1 := block_cell HR.out 1
          have r2 := block_cell HR.out 2
          have f0 := block_free HR.out 0
          have f1 := block_free HR.out 1
          have f2 := block_free HR.out 2
          have y0 := block_cell HK.out 0
          have y1 := block_cell HK.out 1
          have y2 := block_cell HK.out 2
          clear k1 k2 k3 k4
          go_wp2_with fail
          obtain ⟨k1, k2, k3, k4⟩ := K.out
          have e1 := Ne.symm (HO.out.ne_block HR.out (by decide))
          have e2 := Ne.symm (HOF.out.ne_block HR.out (by decide))
          exact bodyPost_ret (v := .tuple #[.agg #[.string (bs a), .slice Au ofs.length cu, .slice Af us.length cf], .bool true]) (by simp [results, Tryz.results36, go_sem, k2, k3, k4]) rfl ⟨bs a, Au, ofs.length, cu, Af, us.length, cf, by rw [HN.out]; rfl, (fun kd hkd => by
            rw [HN.out] at hkd
            injection hkd with hkd
            subst hkd
            exact ⟨rfl, rfl, rfl, HSA.out, HOS.out, ((HO.out.setCell ⟨w.heap.size, 0, none⟩ _ e1).setCell ⟨w.heap.size, 1, none⟩ _ e1).setCell ⟨w.heap.size, 2, none⟩ _ e1, HUO.out, ((HOF.out.setCell ⟨w.heap.size, 0, none⟩ _ e2).setCell ⟨w.heap.size, 1, none⟩ _ e2).setCell ⟨w.heap.size, 2, none⟩ _ e2⟩), k1⟩
    · have b1 : ¬ (bs y).toList = [111, 102] := by rw [hye]; exact h2
      have b2 : ((bs y).toList == [111, 102]) = false := beq_eq_false_iff_ne.2 b1
      clear hye h2
      go_wp2_with fail
      clear h1 b1 b2 hy0
      -- the fields' words: rest, from the cell 2 of the row on; the world is W
      go_loopw [48] (fun i wr => ∃ (k : Nat) (us : List Fld) (Af : Option Addr) (cf : Nat), k ≤ rest.length ∧ i = .int .i64 k ∧ us.length ≤ k ∧ Below w.heap.size w wr ∧ Hid (fldsP (rest.take k) = some us) ∧ Hid (wr.heap[q]? = some (.cells #[.string (bs a), .slice Au ofs.length cu, .slice Af us.length cf] 59 (0, 0))) ∧ Hid (wr.heap[w.heap.size]? = some (.cells #[.string ⟨#[]⟩, .slice none 0 0, .slice none 0 0] 59 (0, 0))) ∧
        Hid (Own wr w.heap.size 9 1 (.slice Au ofs.length cu) ofs.length (ofs.map Value.string)) ∧ Hid (Own wr w.heap.size 61 4 (.slice Af us.length cf) us.length (us.flatMap Fld.enc)) ∧ Hid (∀ p ∈ us, p.ok)) (fun i _ => rest.length - (intOf i).toNat)
      case atStart => exact ⟨0, [], none, 0, Nat.zero_le _, rfl, Nat.le_refl _, hBW, by rw [List.take_zero]; rfl, HK, HR, HO, Own.nil _ _ _ _, fun p hp => by simp at hp⟩
      case round =>
        obtain ⟨k, us, Af, cf, hk, rfl, hul, hbr, HF, HK, HR, HO, HOF, HUO⟩ := hrel
        clear hBW
        obtain ⟨wo, hwo⟩ : ∃ x : World, x = wr := ⟨_, rfl⟩
        subst hwo
        by_cases hlt : k < rest.length
        · obtain ⟨x, hx⟩ : ∃ d, rest[k]? = some d := ⟨_, List.getElem?_eq_getElem hlt⟩
          have hlt' : (k : Int) < (rest.length : Int) := by omega
          obtain ⟨x0, hxl⟩ := HC.out k x hx
          have x0 := cell_below hbr x0
          have hxs : Sm (bs x) := by unfold Sm; rw [bs_size]; exact hxl
          have hcall := rfld_any (bs x) hxs wo (HT.out.below hbr).toTxP (HY.out.below hbr)
          rw [bs_list] at hcall
          obtain ⟨p1, p2⟩ := fldsP_take HF.out hx
          have HP1 := Lib.hid p1
          have HP2 := Lib.hid p2
          clear hx hxl p1 p2 hxs HF
          go_wp2_with fail
          refine hcall.mono ?_
          clear hcall
          rintro e w2 ⟨nm, ty, m, ky, rfl, hres, hb2⟩
          have HRES := Lib.hid hres
          have hB2 := hbr.trans (hb2.mono hbr.size)
          have hK2 := (hb2.block _ (Array.getElem?_eq_some_iff.1 HK.out).1).trans HK.out
          have hR2 := (hb2.block _ (Array.getElem?_eq_some_iff.1 HR.out).1).trans HR.out
          have hO2 := HO.out.below hb2
          have hF2 := HOF.out.below hb2
          have ha3 : Below w2.heap.size w2 (w2.alloc (.cells #[.string nm, .int .i64 ty, .bool m, .bool ky] 61)) := (Below.refl _ _).alloc (Nat.le_refl _) _
          have hbf := heap_alloc_new w2 (.cells #[.string nm, .int .i64 ty, .bool m, .bool ky] 61)
          have hK3 := (ha3.block _ (Array.getElem?_eq_some_iff.1 hK2).1).trans hK2
          have hR3 := (ha3.block _ (Array.getElem?_eq_some_iff.1 hR2).1).trans hR2
          have hO3 := hO2.below ha3
          have hF3 := hF2.below ha3
          have hB3 := hB2.trans (ha3.mono hB2.size)
          obtain ⟨fq, hfq⟩ : ∃ n, n = w2.heap.size := ⟨_, rfl⟩
          clear x0 hres hb2 hB2 hK2 hR2 hO2 hF2 HK HR HO HOF hbr ha3
          go_upto_region 14 with fail
          rw [← hfq] at hbf
          rw [← hfq]
          generalize w2.alloc (.cells #[.string nm, .int .i64 ty, .bool m, .bool ky] 61) = W3 at *
          clear hfq
          cases hf : readFldL x with
          | none =>
            have HN : Hid (readKndL l = none) := by unfold Hid; exact HE1.out (HP1.out hf)
            rw [show (none : Option Fld).isSome = false from rfl]
            clear hK3 hO3 hF3 HP1 HP2 HRES hf
            -- the answer: none; the world: W3, its result's box: hR3, above w: hB3
            obtain ⟨k1, k2, k3, k4⟩ := res3 (.string ⟨#[]⟩) (.slice none 0 0) (.slice none 0 0) hB3 hR3
            have K := Lib.hid (And.intro k1 (And.intro k2 (And.intro k3 k4)))
            have r0 := block_cell hR3 0
            have r1 := block_cell hR3 1
            have r2 := block_cell hR3 2
            have f0 := block_free hR3 0
            have f1 := block_free hR3 1
            have f2 := block_free hR3 2
            clear k1 k2 k3 k4
            go_wp2_with fail
            obtain ⟨k1, k2, k3, k4⟩ := K.out
            exact bodyPost_ret (v := .tuple #[.agg #[.string ⟨#[]⟩, .slice none 0 0, .slice none 0 0], .bool false]) (by simp [results, Tryz.results36, go_sem, k2, k3, k4]) rfl (KndR.bad HN.out rfl k1)
          | some f =>
            obtain ⟨rfl, rfl, rfl, rfl, hok⟩ := HRES.out f hf
            have HST := Lib.hid (HP2.out f hf)
            have HOK2 := Lib.hid hok
            rw [show (some f : Option Fld).isSome = true from rfl]
            clear hf HP1 HP2 HRES hok
            have k2 := block_cell hK3 2
            have b0 := block_cell hbf 0
            have b1 := block_cell hbf 1
            have b2 := block_cell hbf 2
            have b3 := block_cell hbf 3
            have HOA := Lib.hid (hF3.alloc (.cells #[.string f.name, .int .i64 f.ty, .bool f.must, .bool f.key] 61))
            have HNW : Hid (∀ j u, (Fld.enc f)[j]? = some u → (W3.alloc (.cells #[.string f.name, .int .i64 f.ty, .bool f.must, .bool f.key] 61)).cell? ⟨W3.heap.size, j, none⟩ = some u) := fun j u hj => by
              rw [World.cell?_alloc_at _ _ _ _ rfl]; simpa [Fld.enc] using hj
            have hba : Below w.heap.size w (W3.alloc (.cells #[.string f.name, .int .i64 f.ty, .bool f.must, .bool f.key] 61)) := hB3.alloc hB3.size _
            have HSB : Hid (w.heap.size ≤ (W3.alloc (.cells #[.string f.name, .int .i64 f.ty, .bool f.must, .bool f.key] 61)).heap.size) := hba.size
            have hK4 := (((Below.refl W3.heap.size W3).alloc (Nat.le_refl _) (.cells #[.string f.name, .int .i64 f.ty, .bool f.must, .bool f.key] 61)).block _ (Array.getElem?_eq_some_iff.1 hK3).1).trans hK3
            have hR4 := (((Below.refl W3.heap.size W3).alloc (Nat.le_refl _) (.cells #[.string f.name, .int .i64 f.ty, .bool f.must, .bool f.key] 61)).block _ (Array.getElem?_eq_some_iff.1 hR3).1).trans hR3
            have hO4 := hO3.alloc (.cells #[.string f.name, .int .i64 f.ty, .bool f.must, .bool f.key] 61)
            have HK4 := Lib.hid hK4
            have HR4 := Lib.hid hR4
            have HO4 := Lib.hid hO4
            have HBA := Lib.hid hba
            have hnl : us.length ≤ 1048577 := by omega
            obtain ⟨nl, hnl2⟩ : ∃ nl, us.length = nl := ⟨_, rfl⟩
            have HNL := Lib.hid hnl2
            rw [hnl2] at HOA k2 HK4
            have hnl : nl ≤ 1048577 := by omega
            clear hK3 hR3 hO3 hF3 hB3 hK4 hR4 hO4 hba hbf hnl2
            go_wp2_with (first
              | (at_builtin; refine wpList_append_q _ rfl (.tmp 61) (.tmp 63) _ rfl w.heap.size 61 i0 (.agg #[.string .empty, .int .i64 0, .bool false, .bool false]) 4 32 Tryz.underlying57 ei ez ez1 ez2 rfl (by decide) (.slice Af nl cf) nl (us.flatMap Fld.enc) rfl HOA.out (some ⟨W3.heap.size, 0, none⟩) 1 1 (Fld.enc f) rfl rfl (fun _ => ⟨_, rfl, fun j u hj => by rw [addr_add, Nat.zero_add]; exact HNW.out j u hj⟩) (one_fldE _) (by unfold maxLen; omega) (by omega) HSB.out ?_
                 intro v7 w7 hown7 hg7 hat7
                 have hqne := HOA.out.ne_block HK4.out (by decide)
                 have hrne := HOA.out.ne_block HR4.out (by decide)
                 have hK7 := grown_block hg7 HK4.out hqne
                 have hR7 := grown_block hg7 HR4.out hrne
                 have hO7 := HO4.out.grown hg7 (HO4.out.ne_ty2 HOA.out (by decide))
                 obtain ⟨A7, c7, hv7, _, _⟩ := hown7.form
                 subst hv7
                 have k2 := block_cell hK7 2
                 have g2 := block_free hK7 2))
            have hB7 : Below w.heap.size w w7 := HBA.out.grown hg7 HSB.out (fun kk e => (HOA.out.lt kk e).1)
            have hul1 : (us ++ [f]).length = nl + 1 := by rw [List.length_append, HNL.out]; rfl
            have HUL := Lib.hid hul1
            have hfl : (us ++ [f]).flatMap Fld.enc = us.flatMap Fld.enc ++ Fld.enc f := by simp
            have HB7 := Lib.hid (hB7.setCell (p := ⟨q, 2, none⟩) hqw (.slice A7 (nl + 1) c7))
            have HK7 : Hid ((w7.setCell ⟨q, 2, none⟩ (.slice A7 (nl + 1) c7)).heap[q]? = some (.cells #[.string (bs a), .slice Au ofs.length cu, .slice A7 (us ++ [f]).length c7] 59 (0, 0))) := by
              rw [hul1]; exact setCell_block hK7 2 (.slice A7 (nl + 1) c7)
            have HR7 := Lib.hid (setCell_other hR7 hne 2 (.slice A7 (nl + 1) c7))
            have HO7 := Lib.hid (hO7.setCell ⟨q, 2, none⟩ (.slice A7 (nl + 1) c7) (Ne.symm (HO4.out.ne_block HK4.out (by decide))))
            have HF7 : Hid (Own (w7.setCell ⟨q, 2, none⟩ (.slice A7 (nl + 1) c7)) w.heap.size 61 4 (.slice A7 (us ++ [f]).length c7) (us ++ [f]).length ((us ++ [f]).flatMap Fld.enc)) := by
              rw [hul1, hfl]; exact hown7.setCell ⟨q, 2, none⟩ (.slice A7 (nl + 1) c7) (Ne.symm (hown7.ne_block hK7 (by decide)))
            have HU7 : Hid (∀ p ∈ us ++ [f], p.ok) := fun p hp => by
              rcases List.mem_append.1 hp with h | h
              · exact HUO.out p h
              · obtain rfl := List.mem_singleton.1 h; exact HOK2.out
            clear hB7 hul1 hfl hK7 hR7 hO7 hown7 hg7 hat7 hqne hrne k2 g2
            go_wp2_with fail
            go_roundw
            case rel => exact ⟨k + 1, us ++ [f], A7, c7, by omega, by go_num, by rw [HUL.out]; have := HNL.out; omega, HB7.out, HST, HK7, HR7, HO7, HF7, HU7⟩
            case measure => simp [intOf]; omega
        · obtain rfl : k = rest.length := by omega
          have HN : Hid (readKndL l = some ⟨bs a, ofs, us⟩) := by
            have h := HF.out; rw [List.take_length] at h; exact HE2.out us h
          obtain ⟨k1, k2, k3, k4⟩ := res3 (.string (bs a)) (.slice Au ofs.length cu) (.slice Af us.length cf) hbr HR.out
          have K := Lib.hid (And.intro k1 (And.intro k2 (And.intro k3 k4)))
          have r0 := block_cell HR.out 0
          have r1 := block_cell HR.out 1
          have r2 := block_cell HR.out 2
          have f0 := block_free HR.out 0
          have f1 := block_free HR.out 1
          have f2 := block_free HR.out 2
          have y0 := block_cell HK.out 0
          have y1 := block_cell HK.out 1
          have y2 := block_cell HK.out 2
          clear k1 k2 k3 k4
          go_wp2_with fail
          obtain ⟨k1, k2, k3, k4⟩ := K.out
          have e1 := Ne.symm (HO.out.ne_block HR.out (by decide))
          have e2 := Ne.symm (HOF.out.ne_block HR.out (by decide))
          exact bodyPost_ret (v := .tuple #[.agg #[.string (bs a), .slice Au ofs.length cu, .slice Af us.length cf], .bool true]) (by simp [results, Tryz.results36, go_sem, k2, k3, k4]) rfl ⟨bs a, Au, ofs.length, cu, Af, us.length, cf, by rw [HN.out]; rfl, (fun kd hkd => by
            rw [HN.out] at hkd
            injection hkd with hkd
            subst hkd
            exact ⟨rfl, rfl, rfl, HSA.out, HOS.out, ((HO.out.setCell ⟨w.heap.size, 0, none⟩ _ e1).setCell ⟨w.heap.size, 1, none⟩ _ e1).setCell ⟨w.heap.size, 2, none⟩ _ e1, HUO.out, ((HOF.out.setCell ⟨w.heap.size, 0, none⟩ _ e2).setCell ⟨w.heap.size, 1, none⟩ _ e2).setCell ⟨w.heap.size, 2, none⟩ _ e2⟩), k1⟩
end Go.Proofs.YtfeccicogcnhcaaGreatDoor
