/- Parts: KinD, Eqs, EndA. -/
import Derived.Test.YthefofclbepkoaaDoorMg10
import Derived.Test.YthefofclbepkoaaDoorMg01
import Derived.Laws.StructEq
import Derived.Test.YthefofclbepkoaaDoorMg08
import Derived.Test.YthefofclbepkoaaDoorMg09
/- Contracts: slices.Index, slices.Contains over texts, kinref1.In, slices.IndexFunc over kinds, kind.Find. -/
namespace Go.Proofs.YthefofclbepkoaaDoor
open Go.RowKit

theorem bytes_beq (a b : ByteArray) : (a.toList == b.toList) = decide (a = b) := by
  rw [Bool.eq_iff_iff, beq_iff_eq, decide_eq_true_eq]
  constructor
  · intro h
    rw [ByteArray.toList_eq, ByteArray.toList_eq] at h
    have := Array.toList_inj.1 h
    cases a; cases b; simp at this; rw [this]
  · intro h; rw [h]

set_option maxHeartbeats 400000 in
theorem indexStr_any (l : List ByteArray) (x : ByteArray) (v : Value) (w : World) (hv : Sl strL w v l) :
    Calls Tryd.prog 159 #[v, .string x] w fun e w' => e = .returned (.int .i64 (idxI (fun y => decide (x = y)) l)) ∧ w = w' := by
  obtain ⟨A, c, rfl, hlc, hcm⟩ := hv.form
  unfold maxLen at hcm
  go_enter Tryd.func159, Tryd.ntmps159
  go_wp2_with fail
  go_loop [8] (fun i => ∃ k : Nat, k ≤ l.length ∧ i = .int .i64 k ∧ Hid (∀ j y, j < k → l[j]? = some y → decide (x = y) = false)) (fun i => l.length - (intOf i).toNat)
  case atStart => exact ⟨0, Nat.zero_le _, rfl, fun j x hj => absurd hj (Nat.not_lt_zero _)⟩
  case round =>
    obtain ⟨k, hk, rfl, HA⟩ := hrel
    by_cases hlt : k < l.length
    · obtain ⟨d, hd⟩ : ∃ d, l[k]? = some d := ⟨_, List.getElem?_eq_getElem hlt⟩
      obtain ⟨b, o, rfl, _, hcell⟩ := str_at hv hd
      have HD : Hid (l[k]? = some d) := hd
      clear hd hv
      by_cases hq0 : x = d
      · have hq : decide (x = d) = true := decide_eq_true hq0
        have HE : Hid (idxI (fun y => decide (x = y)) l = k) := idxI_hit HA.out HD.out hq
        clear hq
        subst hq0
        go_wp2_with fail
        go_ret
        exact ⟨by rw [HE.out]; rfl, rfl⟩
      · have hq : decide (x = d) = false := decide_eq_false hq0
        have hqb : (x.toList == d.toList) = false := by rw [bytes_beq]; exact hq
        have HS : Hid (∀ j y, j < k + 1 → l[j]? = some y → decide (x = y) = false) := miss_step HA.out HD.out hq
        go_wp2_with fail
        go_round
        case rel => exact ⟨k + 1, by omega, by go_num, HS⟩
        case measure => simp [intOf]; omega
    · have hkl : k = l.length := by omega
      subst hkl
      have HE : Hid (idxI (fun y => decide (x = y)) l = -1) := idxI_miss HA.out
      clear hv
      go_wp2_with fail
      go_ret
      exact ⟨by rw [HE.out]; rfl, rfl⟩
theorem containsStr_any (l : List ByteArray) (x : ByteArray) (v : Value) (w : World) (hv : Sl strL w v l) :
    Calls Tryd.prog 137 #[v, .string x] w fun e w' => e = .returned (.bool (l.any fun y => decide (x = y))) ∧ w = w' := by
  have h1 := indexStr_any l x v w hv
  have h2 := idxI_any (fun y => decide (x = y)) l
  have H2 := Lib.hid h2
  clear h2 hv
  go_enter Tryd.func137, Tryd.ntmps137
  go_wp2_with (go_at_call 159; refine h1.mono ?_; rintro e w' ⟨rfl, rfl⟩)
  go_ret
  exact ⟨ret_bool H2.out, rfl⟩

set_option maxHeartbeats 400000 in
theorem in1_any (l : List ByteArray) (x : ByteArray) (v : Value) (w : World) (hv : Sl strL w v l) :
    Calls Tryd.prog 118 #[v, .string x] w fun e w' => e = .returned (.bool (l.any fun y => decide (y = x))) ∧ w = w' := by
  obtain ⟨A, c, rfl, hlc, hcm⟩ := hv.form
  unfold maxLen at hcm
  go_enter Tryd.func118, Tryd.ntmps118
  go_wp2_with fail
  go_loop [5] (fun i => ∃ k : Nat, k ≤ l.length ∧ i = .int .i64 k ∧ Hid (∀ j y, j < k → l[j]? = some y → decide (y = x) = false)) (fun i => l.length - (intOf i).toNat)
  case atStart => exact ⟨0, Nat.zero_le _, rfl, fun j x hj => absurd hj (Nat.not_lt_zero _)⟩
  case round =>
    obtain ⟨k, hk, rfl, HA⟩ := hrel
    by_cases hlt : k < l.length
    · obtain ⟨d, hd⟩ : ∃ d, l[k]? = some d := ⟨_, List.getElem?_eq_getElem hlt⟩
      obtain ⟨b, o, rfl, _, hcell⟩ := str_at hv hd
      have HD : Hid (l[k]? = some d) := hd
      clear hd hv
      by_cases hq0 : d = x
      · have hq : decide (d = x) = true := decide_eq_true hq0
        have HE : Hid (l.any (fun y => decide (y = x)) = true) := List.any_eq_true.2 ⟨d, List.mem_of_getElem? HD.out, hq⟩
        clear hq
        subst hq0
        go_wp2_with fail
        go_ret
        exact ⟨by rw [HE.out]; rfl, rfl⟩
      · have hq : decide (d = x) = false := decide_eq_false hq0
        have hqb : (d.toList == x.toList) = false := by rw [bytes_beq]; exact hq
        have HS : Hid (∀ j y, j < k + 1 → l[j]? = some y → decide (y = x) = false) := miss_step HA.out HD.out hq
        go_wp2_with fail
        go_round
        case rel => exact ⟨k + 1, by omega, by go_num, HS⟩
        case measure => simp [intOf]; omega
    · have hkl : k = l.length := by omega
      subst hkl
      have HE : Hid (l.any (fun y => decide (y = x)) = false) := by
        rw [← idxI_any, idxI_miss HA.out]; rfl
      clear hv
      go_wp2_with fail
      go_ret
      exact ⟨by rw [HE.out]; rfl, rfl⟩

/-! ### kind.Find -/
def kndV (w : World) (d : Knd) (u : Value) : Prop := ∃ a b n c m e, u = .agg #[.string d.name, .slice a n c, .slice b m e]
set_option maxHeartbeats 400000 in
theorem idx_knds (g : Nat) (caps : Array Value) (eg : ∀ args w, (callFunc g args).run Tryd.prog w = .ok (.enter g args) w) (p : Knd → Bool) (l : List (Knd)) (v : Value) (w : World) (hv : Sl kndL w v l)
    (hp : PredB Tryd.prog g caps kndV p w) :
    Calls Tryd.prog 70 #[v, .func (.func g) #[] caps] w fun e w' => e = .returned (.int .i64 (idxI p l)) ∧ Below w.heap.size w w' := by
  obtain ⟨A, c, rfl, hlc, hcm⟩ := hv.form
  unfold maxLen at hcm
  go_enter Tryd.func70, Tryd.ntmps70
  go_wp2_with fail
  go_loopw [8] (fun i wr => ∃ k : Nat, k ≤ l.length ∧ i = .int .i64 k ∧ Below w.heap.size w wr ∧ Hid (∀ j x, j < k → l[j]? = some x → p x = false)) (fun i _ => l.length - (intOf i).toNat)
  case atStart => exact ⟨0, Nat.zero_le _, rfl, Below.refl _ _, fun j x hj => absurd hj (Nat.not_lt_zero _)⟩
  case round =>
    obtain ⟨k, hk, rfl, hb, HA⟩ := hrel
    by_cases hlt : k < l.length
    · obtain ⟨d, hd⟩ : ∃ d, l[k]? = some d := ⟨_, List.getElem?_eq_getElem hlt⟩
      obtain ⟨b, o, rfl, u, x, h1, h2, h3, c0, c1, c2⟩ := knd_at (hv.below hb) hd
      obtain ⟨A1, q1, rfl, _, _⟩ := h2.form
      obtain ⟨A2, q2, rfl, _, _⟩ := h3.form
      have hcall := hp d (.agg #[.string d.name, .slice A1 d.ofs.length q1, .slice A2 d.fields.length q2]) wr hb ⟨A1, A2, _, q1, _, q2, rfl⟩
      clear h2 h3
      have HD : Hid (l[k]? = some d) := hd
      clear hd hp hv
      cases hq : p d with
      | true =>
        rw [hq] at hcall
        have HQ : Hid (p d = true) := hq
        clear hq
        go_wp2_with (go_at_fn g; refine hcall.mono ?_; rintro e w' ⟨rfl, hb2⟩)
        go_ret
        exact ⟨ret_int (idxI_hit HA.out HD.out HQ.out).symm, hb.trans (hb2.mono hb.size)⟩
      | false =>
        rw [hq] at hcall
        have HQ : Hid (p d = false) := hq
        clear hq
        go_wp2_with (go_at_fn g; refine hcall.mono ?_; rintro e w' ⟨rfl, hb2⟩)
        go_roundw
        case rel => exact ⟨k + 1, by omega, by go_num, hb.trans (hb2.mono hb.size), miss_step HA.out HD.out HQ.out⟩
        case measure => simp [intOf]; omega
    · have hkl : k = l.length := by omega
      subst hkl
      clear hp hv
      go_wp2_with fail
      go_ret
      exact ⟨ret_int (idxI_miss HA.out).symm, hb⟩
theorem kFind1_any (d : Knd) (name : ByteArray) (u : Value) (bk : Nat) (w : World) (hu : kndV w d u) (hc : w.cell? ⟨bk, 0, none⟩ = some (.string name)) :
    Calls Tryd.prog 71 #[u, .pointer (some ⟨bk, 0, none⟩)] w fun e w' => e = .returned (.bool (decide (d.name = name))) ∧ Below w.heap.size w w' := by
  obtain ⟨a, b, n, c, m, e, rfl⟩ := hu
  have hlt := World.block_lt_of_cell? _ _ hc
  by_cases hq : d.name = name
  · have hd : decide (d.name = name) = true := decide_eq_true hq
    rw [hd]
    have hqb : (d.name.toList == name.toList) = true := by rw [bytes_beq]; exact hd
    clear hq hd
    go_enter Tryd.func71, Tryd.ntmps71
    go_wp2_with fail
    go_ret
    exact ⟨rfl, (Below.refl _ _).alloc (Nat.le_refl _) _⟩
  · have hd : decide (d.name = name) = false := decide_eq_false hq
    rw [hd]
    have hqb : (d.name.toList == name.toList) = false := by rw [bytes_beq]; exact hd
    clear hq hd
    go_enter Tryd.func71, Tryd.ntmps71
    go_wp2_with fail
    go_ret
    exact ⟨rfl, (Below.refl _ _).alloc (Nat.le_refl _) _⟩
/-- Where a kind of a name is. -/
def kFind (l : List Knd) (name : ByteArray) : Int := idxI (fun k => decide (k.name = name)) l
theorem kFind_any (l : List Knd) (name : ByteArray) (v : Value) (w : World) (hv : Sl kndL w v l) :
    Calls Tryd.prog 36 #[v, .string name] w fun e w' => e = .returned (.int .i64 (kFind l name)) ∧ Below w.heap.size w w' := by
  have hb0 : Below w.heap.size w (w.alloc (.cells #[.string name] 9)) := (Below.refl _ _).alloc (Nat.le_refl _) _
  have h1 := idx_knds 71 #[.pointer (some ⟨w.heap.size, 0, none⟩)] (by intro args w; kernel_rfl) (fun k => decide (k.name = name)) l v _ (hv.below hb0)
    (fun d u wx hx hu => kFind1_any d name u w.heap.size wx hu (cell_below hx (by rw [World.cell?_alloc_at _ _ _ _ rfl]; rfl)))
  obtain ⟨A, c, rfl, _, _⟩ := hv.form
  clear hv
  go_enter Tryd.func36, Tryd.ntmps36
  go_wp2_with fail
  refine h1.mono ?_
  rintro e w2 ⟨rfl, hb2⟩
  go_wp2_with fail
  go_ret
  exact ⟨rfl, hb0.trans (hb2.mono (by simp))⟩
end Go.Proofs.YthefofclbepkoaaDoor

/- Plain laws of the model: '==' and '!=' between the program's structs of flat cells. No condition. -/
namespace Go.Proofs.YthefofclbepkoaaDoor
open Go Go.RowKit

theorem bytes_eq (a b : ByteArray) : (a.toList = b.toList) = (a = b) := by
  have := bytes_beq a b
  apply propext
  constructor
  · intro h; rw [h] at this; simpa using this.symm
  · intro h; rw [h]
theorem fld_guard (op : BinOp) (a b : Operand) (xs ys : Array Value) (w : World) : (eqGuard op 80 a b (.agg xs) (.agg ys)).run Tryd.prog w = .ok () w := run_eqGuard_agg w op 80 a b xs ys (by kernel_rfl)
theorem fld_same (d : Nat) (x y : Fld) (w : World) : (Op.equalIn (d + 2) 80 (.agg #[.string x.name, .int .i64 x.ty, .bool x.must, .bool x.key]) (.agg #[.string y.name, .int .i64 y.ty, .bool y.must, .bool y.key])).run Tryd.prog w = .ok (decide (x = y)) w := by
  have hS : Tryd.prog.underlying 80 = some (.struct (Tryd.prog.fieldsOf 80)) := by kernel_rfl
  have hp : Tryd.prog.stoodInHeld 80 = false := by kernel_rfl
  have e1 := Tryd.underlying9
  have e2 := Tryd.underlying3
  have e3 := Tryd.underlying4
  rw [run_equalIn_agg w (d + 1) 80 _ _ hS hp]
  simp only [Program.fieldsOf, Tryd.underlying80]
  go_simp
  simp only [bytes_eq]
  cases x; cases y
  simp only [Fld.mk.injEq]
  rename_i a b c d a' b' c' d'
  by_cases h1 : a = a' <;> by_cases h2 : b = b' <;> by_cases h3 : c = c' <;> by_cases h4 : d = d' <;> simp [h1, h2, h3, h4]
theorem fld_eql (x y : Fld) (w : World) : (binOp .eql 80 (.agg #[.string x.name, .int .i64 x.ty, .bool x.must, .bool x.key]) (.agg #[.string y.name, .int .i64 y.ty, .bool y.must, .bool y.key])).run Tryd.prog w = .ok (.bool (decide (x = y))) w := by
  rw [run_eql_struct, show (10000 : Nat) = 9998 + 2 from rfl, fld_same]; rfl
theorem fld_neq (x y : Fld) (w : World) : (binOp .neq 80 (.agg #[.string x.name, .int .i64 x.ty, .bool x.must, .bool x.key]) (.agg #[.string y.name, .int .i64 y.ty, .bool y.must, .bool y.key])).run Tryd.prog w = .ok (.bool (!decide (x = y))) w := by
  rw [run_neq_struct, show (10000 : Nat) = 9998 + 2 from rfl, fld_same]; rfl
end Go.Proofs.YthefofclbepkoaaDoor

/- Contract: graph.Ends. -/
namespace Go.Proofs.YthefofclbepkoaaDoor
open Go Go.RowKit

/-- Ends of ties, in order. -/
def endsS (g : Grf) (id : Int) (bond : ByteArray) (back : Bool) : List Int := sortI (endsL g.ties id bond back)
theorem endsL_len (ts : List Tie) (id : Int) (bond : ByteArray) (back : Bool) : (endsL ts id bond back).length ≤ ts.length := by
  unfold endsL; rw [List.length_map]; exact List.length_filter_le _ _
theorem endsL_take {ts : List Tie} {k : Nat} {t : Tie} (ht : ts[k]? = some t) (id : Int) (bond : ByteArray) (back : Bool) :
    endsL (ts.take (k + 1)) id bond back = endsL (ts.take k) id bond back ++ (if endT back bond id t then [endX back t] else []) := by
  unfold endsL
  rw [List.take_add_one, ht, List.filter_append, List.map_append]
  congr 1
  show ((([t] : List Tie).filter (endT back bond id)).map (endX back)) = _
  rw [List.filter_cons]
  split <;> rfl
theorem endX_i64 {t : Tie} (h : t.ok) (back : Bool) : I64 (endX back t) := by
  unfold endX
  cases back
  · exact h.2.2
  · exact h.2.1
theorem eint_info : (Tryd.prog.info? 3).map (fun i => (i.zero, i.size, i.bytes)) = some (some (.int .i64 0), 1, 8) := by kernel_rfl
set_option maxRecDepth 100000 in
set_option maxHeartbeats 8000000 in
theorem ends_any (g : Grf) (id : Int) (bond : ByteArray) (back : Bool) (vn vt : Value) (w : World) (hG : GrfR w vn vt g) (hl : g.ties.length ≤ 1000) :
    Calls Tryd.prog 96 #[.agg #[vn, vt], .int .i64 id, .string bond, .bool back] w fun e w' => ∃ u, e = .returned u ∧ Own w' w.heap.size 3 1 u (endsS g id bond back).length ((endsS g id bond back).map (Value.int .i64)) ∧ (∀ x ∈ endsS g id bond back, I64 x) ∧ Below w.heap.size w w' := by
  obtain ⟨i0, ei, ez, ez1, ez2⟩ := info_parts eint_info
  obtain ⟨An, cn, rfl, _, _⟩ := hG.1.form
  obtain ⟨At, ct, rfl, _, _⟩ := hG.2.form
  have hb0 : Below w.heap.size w (w.alloc (.cells #[.slice An g.nodes.length cn, .slice At g.ties.length ct] 47)) := (Below.refl _ _).alloc (Nat.le_refl _) _
  obtain ⟨x0, x1⟩ := cell_box2 w (.slice An g.nodes.length cn) (.slice At g.ties.length ct) 47
  generalize hW0 : w.alloc (.cells #[.slice An g.nodes.length cn, .slice At g.ties.length ct] 47) = W0 at *
  have HG := Lib.hid (hG.below hb0)
  have hw0 := hb0.size
  have HE : Hid (endsS g id bond back = sortI (endsL g.ties id bond back)) := rfl
  clear hG
  cases back with
  | true =>
    go_enter Tryd.func96, Tryd.ntmps96
    go_wp2_with fail
    clear hW0
    go_loopw [9, 15] (fun v i wr => W0.heap.size ≤ wr.heap.size ∧ ∃ k : Nat, k ≤ g.ties.length ∧ i = .int .i64 k ∧ Below W0.heap.size W0 wr ∧ Own wr W0.heap.size 3 1 v (endsL (g.ties.take k) id bond true).length ((endsL (g.ties.take k) id bond true).map (Value.int .i64))) (fun _ i _ => g.ties.length - (intOf i).toNat)
    case atStart => exact ⟨Nat.le_refl _, 0, Nat.zero_le _, rfl, Below.refl _ _, Own.nil _ _ _ _⟩
    case round =>
      -- true: back; t.dst, t.src: what stands in the box
      obtain ⟨hsz, k, hk, rfl, hbr, hown⟩ := hrel
      have y1 := cell_below hbr x1
      have hBr := hb0.trans (hbr.mono hw0)
      obtain ⟨acc, hacc⟩ : ∃ acc, endsL (g.ties.take k) id bond true = acc := ⟨_, rfl⟩
      have hal : acc.length ≤ k := by
        rw [← hacc]
        exact Nat.le_trans (endsL_len _ _ _ _) (by rw [List.length_take]; omega)
      by_cases hlt : k < g.ties.length
      · obtain ⟨t, ht⟩ : ∃ t, g.ties[k]? = some t := ⟨_, List.getElem?_eq_getElem hlt⟩
        have hlt' : (k : Int) < (g.ties.length : Int) := by omega
        obtain ⟨b, o, rfl, htok, z0, z1, z2⟩ := tie_at (HG.out.below hbr).2 ht
        have HS : Hid (endsL (g.ties.take (k + 1)) id bond true = acc ++ if decide (t.bond = bond) && (t.dst == id) then [t.src] else []) := by
          have := endsL_take ht id bond true
          rw [hacc] at this
          exact this
        have HX : Hid (I64 (t.src)) := endX_i64 htok true
        have hbx : Below wr.heap.size wr (wr.alloc (.cells #[.string t.bond, .int .i64 (t.dst), .int .i64 (t.src)] 102)) := (Below.refl _ _).alloc (Nat.le_refl _) _
        obtain ⟨b0, b1, b2⟩ := cell_box3 wr (.string t.bond) (.int .i64 (t.dst)) (.int .i64 (t.src)) 102
        rw [hacc] at hown
        have hn1 : W0.heap.size ≤ (wr.alloc (.cells #[.string t.bond, .int .i64 (t.dst), .int .i64 (t.src)] 102)).heap.size := by simp; omega
        have HN1 := Lib.hid hn1
        clear ht hacc hn1
        go_upto_region 7 with fail
        generalize wr.alloc (.cells #[.string t.bond, .int .i64 (t.dst), .int .i64 (t.src)] 102) = W1 at *
        have hB1 := hbr.trans (hbx.mono hsz)
        have ho1 := hown.below hbx
        by_cases hq : t.bond = bond
        · have hqb : (t.bond.toList == bond.toList) = true := by rw [hq]; simp
          have hqd : decide (t.bond.toList = bond.toList) = true := by rw [hq]; simp
          have hqe : t.bond.toList = bond.toList := by rw [hq]
          have hqf : decide (t.bond = bond) = true := decide_eq_true hq
          by_cases hp : t.dst = id
          · have HS2 : Hid (endsL (g.ties.take (k + 1)) id bond true = acc ++ [t.src]) := by
              unfold Hid
              rw [HS.out, hqf, hp]
              simp
            have hp' : decide (t.dst = id) = true := decide_eq_true hp
            have hp'' : (t.dst == id) = true := by rw [hp]; simp
            clear hq hqf HS z0 z1 z2
            obtain ⟨Ap, cp, rfl, _, _⟩ := hown.form
            have ho2 := ho1.alloc (.cells #[.int .i64 (t.src)] 3)
            go_wp2_with (at_builtin; refine wpList_append_q _ rfl (.tmp 36) (.tmp 39) _ rfl W0.heap.size 3 i0 (.int .i64 0) 1 8 Tryd.underlying57 ei ez ez1 ez2 rfl (by decide) (.slice Ap acc.length cp) acc.length (acc.map (Value.int .i64)) rfl ho2 (some ⟨W1.heap.size, 0, none⟩) 1 1 [.int .i64 (t.src)] rfl rfl (fun _ => ⟨_, rfl, cell_one_new W1 (.int .i64 (t.src)) 3⟩) (by simp [Value.oneCell']) (by unfold maxLen; omega) (by omega) (by have := HN1.out; simp; omega) ?_; intro v7 w7 hown7 hg7 hat7)
            have hb7 : Below W0.heap.size W0 w7 := (hB1.alloc HN1.out _).grown hg7 (by have := HN1.out; simp; omega) (fun kk hkk => (ho1.lt kk hkk).1)
            have ho7 : Own w7 W0.heap.size 3 1 v7 (acc ++ [t.src]).length ((acc ++ [t.src]).map (Value.int .i64)) := by simpa using hown7
            have hs7 := hb7.size
            clear hg7 hat7 hown7
            go_roundw
            case rel => exact ⟨hs7, k + 1, by omega, by go_num, hb7, by rw [HS2.out]; exact ho7⟩
            case measure => simp [intOf]; omega
          · have HS2 : Hid (endsL (g.ties.take (k + 1)) id bond true = acc) := by
              unfold Hid
              rw [HS.out, hqf]
              simp [hp]
            have hp' : decide (t.dst = id) = false := decide_eq_false hp
            have hp'' : (t.dst == id) = false := by simp [hp]
            clear hq hqf HS z0 z1 z2
            have hs7 := hB1.size
            go_wp2_with fail
            go_roundw
            case rel => exact ⟨hs7, k + 1, by omega, by go_num, hB1, by rw [HS2.out]; exact ho1⟩
            case measure => simp [intOf]; omega
        · have hqb : (t.bond.toList == bond.toList) = false := by rw [bytes_beq]; exact decide_eq_false hq
          have hqc : ¬ t.bond.toList = bond.toList := by rw [bytes_eq]; exact hq
          have HS2 : Hid (endsL (g.ties.take (k + 1)) id bond true = acc) := by
            unfold Hid
            rw [HS.out, decide_eq_false hq]
            simp
          clear hq HS z0 z1 z2
          have hs7 := hB1.size
          go_wp2_with fail
          go_roundw
          case rel => exact ⟨hs7, k + 1, by omega, by go_num, hB1, by rw [HS2.out]; exact ho1⟩
          case measure => simp [intOf]; omega
      · obtain rfl : k = g.ties.length := by omega
        rw [List.take_length] at hacc
        have HAL : Hid (∀ x ∈ acc, I64 x) := fun x hx => by
          rw [← hacc] at hx
          unfold endsL at hx
          obtain ⟨t, ht, rfl⟩ := List.mem_map.1 hx
          obtain ⟨i, hi⟩ := List.mem_iff_getElem?.1 (List.mem_filter.1 ht).1
          obtain ⟨b, o, hv, htok, _⟩ := tie_at HG.out.2 hi
          exact endX_i64 htok _
        have HE2 : Hid (endsS g id bond true = sortI acc) := by unfold Hid; rw [HE.out, hacc]
        rw [List.take_length, hacc] at hown
        have hst := sortInts_any acc _ _ _ hown (by omega)
        obtain ⟨Ap, cp, rfl, _, _⟩ := hown.form
        clear hacc
        go_wp2_with fail
        refine hst.mono ?_
        clear hst
        rintro e w5 ⟨rfl, ho5, hg5⟩
        have hb5 : Below W0.heap.size W0 w5 := hbr.grown hg5 (by omega) (fun kk hkk => (hown.lt kk hkk).1)
        clear hown hg5
        go_wp2_with fail
        go_ret
        refine ⟨_, rfl, ?_, ?_, hb0.trans (hb5.mono hw0)⟩
        · rw [HE2.out]
          rw [sortI_len] at ho5 ⊢
          exact ho5.mono hw0
        · rw [HE2.out]
          exact fun x hx => HAL.out x ((sortI_perm acc).mem_iff.1 hx)
  | false =>
    go_enter Tryd.func96, Tryd.ntmps96
    go_wp2_with fail
    clear hW0
    go_loopw [9, 15] (fun v i wr => W0.heap.size ≤ wr.heap.size ∧ ∃ k : Nat, k ≤ g.ties.length ∧ i = .int .i64 k ∧ Below W0.heap.size W0 wr ∧ Own wr W0.heap.size 3 1 v (endsL (g.ties.take k) id bond false).length ((endsL (g.ties.take k) id bond false).map (Value.int .i64))) (fun _ i _ => g.ties.length - (intOf i).toNat)
    case atStart => exact ⟨Nat.le_refl _, 0, Nat.zero_le _, rfl, Below.refl _ _, Own.nil _ _ _ _⟩
    case round =>
      -- false: back; t.src, t.dst: what stands in the box
      obtain ⟨hsz, k, hk, rfl, hbr, hown⟩ := hrel
      have y1 := cell_below hbr x1
      have hBr := hb0.trans (hbr.mono hw0)
      obtain ⟨acc, hacc⟩ : ∃ acc, endsL (g.ties.take k) id bond false = acc := ⟨_, rfl⟩
      have hal : acc.length ≤ k := by
        rw [← hacc]
        exact Nat.le_trans (endsL_len _ _ _ _) (by rw [List.length_take]; omega)
      by_cases hlt : k < g.ties.length
      · obtain ⟨t, ht⟩ : ∃ t, g.ties[k]? = some t := ⟨_, List.getElem?_eq_getElem hlt⟩
        have hlt' : (k : Int) < (g.ties.length : Int) := by omega
        obtain ⟨b, o, rfl, htok, z0, z1, z2⟩ := tie_at (HG.out.below hbr).2 ht
        have HS : Hid (endsL (g.ties.take (k + 1)) id bond false = acc ++ if decide (t.bond = bond) && (t.src == id) then [t.dst] else []) := by
          have := endsL_take ht id bond false
          rw [hacc] at this
          exact this
        have HX : Hid (I64 (t.dst)) := endX_i64 htok false
        have hbx : Below wr.heap.size wr (wr.alloc (.cells #[.string t.bond, .int .i64 (t.src), .int .i64 (t.dst)] 102)) := (Below.refl _ _).alloc (Nat.le_refl _) _
        obtain ⟨b0, b1, b2⟩ := cell_box3 wr (.string t.bond) (.int .i64 (t.src)) (.int .i64 (t.dst)) 102
        rw [hacc] at hown
        have hn1 : W0.heap.size ≤ (wr.alloc (.cells #[.string t.bond, .int .i64 (t.src), .int .i64 (t.dst)] 102)).heap.size := by simp; omega
        have HN1 := Lib.hid hn1
        clear ht hacc hn1
        go_upto_region 7 with fail
        generalize wr.alloc (.cells #[.string t.bond, .int .i64 (t.src), .int .i64 (t.dst)] 102) = W1 at *
        have hB1 := hbr.trans (hbx.mono hsz)
        have ho1 := hown.below hbx
        by_cases hq : t.bond = bond
        · have hqb : (t.bond.toList == bond.toList) = true := by rw [hq]; simp
          have hqd : decide (t.bond.toList = bond.toList) = true := by rw [hq]; simp
          have hqe : t.bond.toList = bond.toList := by rw [hq]
          have hqf : decide (t.bond = bond) = true := decide_eq_true hq
          by_cases hp : t.src = id
          · have HS2 : Hid (endsL (g.ties.take (k + 1)) id bond false = acc ++ [t.dst]) := by
              unfold Hid
              rw [HS.out, hqf, hp]
              simp
            have hp' : decide (t.src = id) = true := decide_eq_true hp
            have hp'' : (t.src == id) = true := by rw [hp]; simp
            clear hq hqf HS z0 z1 z2
            obtain ⟨Ap, cp, rfl, _, _⟩ := hown.form
            have ho2 := ho1.alloc (.cells #[.int .i64 (t.dst)] 3)
            go_wp2_with (at_builtin; refine wpList_append_q _ rfl (.tmp 36) (.tmp 39) _ rfl W0.heap.size 3 i0 (.int .i64 0) 1 8 Tryd.underlying57 ei ez ez1 ez2 rfl (by decide) (.slice Ap acc.length cp) acc.length (acc.map (Value.int .i64)) rfl ho2 (some ⟨W1.heap.size, 0, none⟩) 1 1 [.int .i64 (t.dst)] rfl rfl (fun _ => ⟨_, rfl, cell_one_new W1 (.int .i64 (t.dst)) 3⟩) (by simp [Value.oneCell']) (by unfold maxLen; omega) (by omega) (by have := HN1.out; simp; omega) ?_; intro v7 w7 hown7 hg7 hat7)
            have hb7 : Below W0.heap.size W0 w7 := (hB1.alloc HN1.out _).grown hg7 (by have := HN1.out; simp; omega) (fun kk hkk => (ho1.lt kk hkk).1)
            have ho7 : Own w7 W0.heap.size 3 1 v7 (acc ++ [t.dst]).length ((acc ++ [t.dst]).map (Value.int .i64)) := by simpa using hown7
            have hs7 := hb7.size
            clear hg7 hat7 hown7
            go_roundw
            case rel => exact ⟨hs7, k + 1, by omega, by go_num, hb7, by rw [HS2.out]; exact ho7⟩
            case measure => simp [intOf]; omega
          · have HS2 : Hid (endsL (g.ties.take (k + 1)) id bond false = acc) := by
              unfold Hid
              rw [HS.out, hqf]
              simp [hp]
            have hp' : decide (t.src = id) = false := decide_eq_false hp
            have hp'' : (t.src == id) = false := by simp [hp]
            clear hq hqf HS z0 z1 z2
            have hs7 := hB1.size
            go_wp2_with fail
            go_roundw
            case rel => exact ⟨hs7, k + 1, by omega, by go_num, hB1, by rw [HS2.out]; exact ho1⟩
            case measure => simp [intOf]; omega
        · have hqb : (t.bond.toList == bond.toList) = false := by rw [bytes_beq]; exact decide_eq_false hq
          have hqc : ¬ t.bond.toList = bond.toList := by rw [bytes_eq]; exact hq
          have HS2 : Hid (endsL (g.ties.take (k + 1)) id bond false = acc) := by
            unfold Hid
            rw [HS.out, decide_eq_false hq]
            simp
          clear hq HS z0 z1 z2
          have hs7 := hB1.size
          go_wp2_with fail
          go_roundw
          case rel => exact ⟨hs7, k + 1, by omega, by go_num, hB1, by rw [HS2.out]; exact ho1⟩
          case measure => simp [intOf]; omega
      · obtain rfl : k = g.ties.length := by omega
        rw [List.take_length] at hacc
        have HAL : Hid (∀ x ∈ acc, I64 x) := fun x hx => by
          rw [← hacc] at hx
          unfold endsL at hx
          obtain ⟨t, ht, rfl⟩ := List.mem_map.1 hx
          obtain ⟨i, hi⟩ := List.mem_iff_getElem?.1 (List.mem_filter.1 ht).1
          obtain ⟨b, o, hv, htok, _⟩ := tie_at HG.out.2 hi
          exact endX_i64 htok _
        have HE2 : Hid (endsS g id bond false = sortI acc) := by unfold Hid; rw [HE.out, hacc]
        rw [List.take_length, hacc] at hown
        have hst := sortInts_any acc _ _ _ hown (by omega)
        obtain ⟨Ap, cp, rfl, _, _⟩ := hown.form
        clear hacc
        go_wp2_with fail
        refine hst.mono ?_
        clear hst
        rintro e w5 ⟨rfl, ho5, hg5⟩
        have hb5 : Below W0.heap.size W0 w5 := hbr.grown hg5 (by omega) (fun kk hkk => (hown.lt kk hkk).1)
        clear hown hg5
        go_wp2_with fail
        go_ret
        refine ⟨_, rfl, ?_, ?_, hb0.trans (hb5.mono hw0)⟩
        · rw [HE2.out]
          rw [sortI_len] at ho5 ⊢
          exact ho5.mono hw0
        · rw [HE2.out]
          exact fun x hx => HAL.out x ((sortI_perm acc).mem_iff.1 hx)
end Go.Proofs.YthefofclbepkoaaDoor
