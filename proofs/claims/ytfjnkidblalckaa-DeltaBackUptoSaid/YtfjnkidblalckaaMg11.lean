/- Parts: OpenB, OpenC, DelD, DelT, CloN. -/
import Derived.Test.YtfjnkidblalckaaMg10
import Derived.ChangeMaps5
import Derived.Test.YtfjnkidblalckaaMg08
import Derived.Test.YtfjnkidblalckaaMg04
import Derived.Test.YtfjnkidblalckaaMg06
/- Plain: the program's structs, read as data, lie as the layouts say (this program's numbers of types). -/
namespace Go.Proofs.Ytfjnkidblalckaa
open Go Go.RowKit Go.Deep Go.ChangeShapes Go.WideShapes

theorem oInt : Opens Try.prog intL 3 := opens_int Try.underlying3
theorem oStr : Opens Try.prog strL 9 := opens_str Try.underlying9
theorem oBool : Opens Try.prog boolL 4 := opens_bool Try.underlying4

theorem o_val : Opens Try.prog valL 36 := by
  intro H enc w base spare held fuel cs x hx hb
  obtain ⟨hl, hf⟩ := field_at Try.underlying36 hx hb
  rw [show Try.prog.cellsOf 36 = 3 from by kernel_rfl] at hl
  match cs, hl with
  | [c0, c1, c2], _ =>
    obtain ⟨a0, e0, h0⟩ := hf (L := intL) 0 _ 1 rfl (by kernel_rfl) oInt
    have e0 : [c0] = [.int .i64 a0] := e0
    injection e0 with e0 _
    subst e0
    obtain ⟨a1, e1, h1⟩ := hf (L := intL) 1 _ 1 rfl (by kernel_rfl) oInt
    have e1 : [c1] = [.int .i64 a1] := e1
    injection e1 with e1 _
    subst e1
    obtain ⟨a2, e2, h2⟩ := hf (L := strL) 2 _ 1 rfl (by kernel_rfl) oStr
    have e2 : [c2] = [.string a2] := e2
    injection e2 with e2 _
    subst e2
    exact ⟨⟨a0, a1, a2⟩, rfl, h0, h1, h2⟩
theorem o_prp : Opens Try.prog prpL 38 := by
  intro H enc w base spare held fuel cs x hx hb
  obtain ⟨hl, hf⟩ := field_at Try.underlying38 hx hb
  rw [show Try.prog.cellsOf 38 = 4 from by kernel_rfl] at hl
  match cs, hl with
  | [c0, c1, c2, c3], _ =>
    obtain ⟨a0, e0, h0⟩ := hf (L := strL) 0 _ 1 rfl (by kernel_rfl) oStr
    have e0 : [c0] = [.string a0] := e0
    injection e0 with e0 _
    subst e0
    obtain ⟨v, e1, h1⟩ := hf (L := valL) 1 _ 3 rfl (by kernel_rfl) o_val
    have e1 : [c1, c2, c3] = [.int .i64 v.ty, .int .i64 v.n, .string v.s] := e1
    injection e1 with e1 e2
    injection e2 with e2 e3
    injection e3 with e3 _
    subst e1; subst e2; subst e3
    exact ⟨⟨a0, v⟩, rfl, h0, h1⟩
theorem o_tie : Opens Try.prog tieL 40 := by
  intro H enc w base spare held fuel cs x hx hb
  obtain ⟨hl, hf⟩ := field_at Try.underlying40 hx hb
  rw [show Try.prog.cellsOf 40 = 3 from by kernel_rfl] at hl
  match cs, hl with
  | [c0, c1, c2], _ =>
    obtain ⟨a0, e0, h0⟩ := hf (L := strL) 0 _ 1 rfl (by kernel_rfl) oStr
    have e0 : [c0] = [.string a0] := e0
    injection e0 with e0 _
    subst e0
    obtain ⟨a1, e1, h1⟩ := hf (L := intL) 1 _ 1 rfl (by kernel_rfl) oInt
    have e1 : [c1] = [.int .i64 a1] := e1
    injection e1 with e1 _
    subst e1
    obtain ⟨a2, e2, h2⟩ := hf (L := intL) 2 _ 1 rfl (by kernel_rfl) oInt
    have e2 : [c2] = [.int .i64 a2] := e2
    injection e2 with e2 _
    subst e2
    exact ⟨⟨a0, a1, a2⟩, rfl, h0, h1, h2⟩
theorem o_rec : Opens Try.prog (slL prpL) 28 := Opens.slice Try.underlying28 (by kernel_rfl) (by decide) o_prp
theorem o_ties : Opens Try.prog (slL tieL) 23 := Opens.slice Try.underlying23 (by kernel_rfl) (by decide) o_tie
theorem o_nod : Opens Try.prog nodL 30 := by
  intro H enc w base spare held fuel cs x hx hb
  obtain ⟨hl, hf⟩ := field_at Try.underlying30 hx hb
  rw [show Try.prog.cellsOf 30 = 3 from by kernel_rfl] at hl
  match cs, hl with
  | [c0, c1, c2], _ =>
    obtain ⟨a0, e0, h0⟩ := hf (L := intL) 0 _ 1 rfl (by kernel_rfl) oInt
    have e0 : [c0] = [.int .i64 a0] := e0
    injection e0 with e0 _
    subst e0
    obtain ⟨a1, e1, h1⟩ := hf (L := strL) 1 _ 1 rfl (by kernel_rfl) oStr
    have e1 : [c1] = [.string a1] := e1
    injection e1 with e1 _
    subst e1
    obtain ⟨a2, v2, e2, h2⟩ := hf (L := slL prpL) 2 _ 1 rfl (by kernel_rfl) o_rec
    have e2 : [c2] = [v2] := e2
    injection e2 with e2 _
    subst e2
    exact ⟨⟨a0, a1, a2⟩, c2, rfl, h0, h1, h2⟩
theorem o_nods : Opens Try.prog (slL nodL) 22 := Opens.slice Try.underlying22 (by kernel_rfl) (by decide) o_nod

/-! ### Arguments -/
/-- A one-cell argument. -/
theorem arg_one {D : Type} {L : Lay D} {t : TypeId} {H : Type} {enc : TypeId × Value → H} {w : World} {base : Nat} {spare : Nat → Bool} {held : Bool} {v : Value} {d : DataW H} {p : List MemPlace}
    (ho : Opens Try.prog L t) (h : DataW.Trod enc Try.prog w base spare held t v d p) (hb : Rows.uptoBulk d ≤ 1048576) : ∃ x, L.cells w x v.cells.toList := by
  obtain ⟨fuel, hf⟩ := h
  exact ho H enc w base spare held fuel _ _ hf hb
set_option maxRecDepth 100000 in
/-- A struct of two slices. -/
theorem arg_two {D E : Type} {L : Lay D} {M : Lay E} {t : TypeId} {f0 f1 : Field} {H : Type} {enc : TypeId × Value → H} {w : World} {base b0 : Nat} {r : Reach} {spare : Nat → Bool} {held : Bool} {v : Value} {d : DataW H} {p : List MemPlace}
    (hs : Try.prog.underlying t = some (.struct #[f0, f1])) (hone : oneCellFields Try.prog #[f0, f1] = true) (hC : Try.prog.cellsOf t = 2) (h0 : Opens Try.prog (slL L) f0.type) (h1 : Opens Try.prog (slL M) f1.type)
    (hv : Value.okWide Try.prog w r b0 t v) (h : DataW.Trod enc Try.prog w base spare held t v d p) (hb : Rows.uptoBulk d ≤ 1048576) : ∃ v0 v1 l m, v = .agg #[v0, v1] ∧ Sl L w v0 l ∧ Sl M w v1 m := by
  obtain ⟨v0, v1, y0, y1, n, rfl, rfl, rfl, g0, g1⟩ := Joins.open_agg2 hs hone hC hv h
  simp only [Rows.uptoBulk, Rows.uptoBulkAll] at hb
  obtain ⟨l, v0', e0, k0⟩ := h0 H enc w base spare held n _ _ g0 (by omega)
  obtain ⟨m, v1', e1, k1⟩ := h1 H enc w base spare held n _ _ g1 (by omega)
  injection e0 with e0 _
  injection e1 with e1 _
  subst e0; subst e1
  exact ⟨v0, v1, l, m, rfl, k0, k1⟩
set_option maxRecDepth 100000 in
theorem arg_graph {H : Type} {enc : TypeId × Value → H} {w : World} {base b0 : Nat} {r : Reach} {spare : Nat → Bool} {held : Bool} {v : Value} {d : DataW H} {p : List MemPlace}
    (hv : Value.okWide Try.prog w r b0 25 v) (h : DataW.Trod enc Try.prog w base spare held 25 v d p) (hb : Rows.uptoBulk d ≤ 1048576) : ∃ v0 v1 g, v = .agg #[v0, v1] ∧ GrfR w v0 v1 g := by
  obtain ⟨v0, v1, l, m, rfl, h0, h1⟩ := arg_two Try.underlying25 (by kernel_rfl) (by kernel_rfl) o_nods o_ties hv h hb
  exact ⟨v0, v1, ⟨l, m⟩, rfl, h0, h1⟩
end Go.Proofs.Ytfjnkidblalckaa

/- Plain: arguments that are one cell: texts, numbers, bools, slices. -/
namespace Go.Proofs.Ytfjnkidblalckaa
open Go Go.RowKit Go.Deep Go.ChangeShapes Go.WideShapes

set_option maxRecDepth 100000 in
theorem arg_str {H : Type} {enc : TypeId × Value → H} {w : World} {base b0 : Nat} {r : Reach} {spare : Nat → Bool} {held : Bool} {v : Value} {d : DataW H} {p : List MemPlace}
    (hv : Value.okWide Try.prog w r b0 9 v) (h : DataW.Trod enc Try.prog w base spare held 9 v d p) (hb : Rows.uptoBulk d ≤ 1048576) : ∃ s, v = .string s ∧ Sm s := by
  obtain ⟨s, rfl, rfl, _, _⟩ := ChangeMaps.open_string Try.underlying9 hv h
  refine ⟨s, rfl, ?_⟩
  have hb' : s.data.toList.length + 1 ≤ 1048576 := hb
  clear hb
  unfold Sm
  have : s.data.toList.length = s.size := Array.length_toList
  omega
set_option maxRecDepth 100000 in
theorem arg_int {H : Type} {enc : TypeId × Value → H} {w : World} {base b0 : Nat} {r : Reach} {spare : Nat → Bool} {held : Bool} {v : Value} {d : DataW H} {p : List MemPlace}
    (hv : Value.okWide Try.prog w r b0 3 v) (h : DataW.Trod enc Try.prog w base spare held 3 v d p) : ∃ n, v = .int .i64 n ∧ I64 n := by
  obtain ⟨n, rfl, _, _, hn⟩ := open_int Try.underlying3 hv h
  refine ⟨n, rfl, ?_⟩
  have := hn
  simp only [Lit.wf, Bool.and_eq_true, decide_eq_true_eq] at this
  exact this
set_option maxRecDepth 100000 in
theorem arg_bool {H : Type} {enc : TypeId × Value → H} {w : World} {base b0 : Nat} {r : Reach} {spare : Nat → Bool} {held : Bool} {v : Value} {d : DataW H} {p : List MemPlace}
    (hv : Value.okWide Try.prog w r b0 4 v) (h : DataW.Trod enc Try.prog w base spare held 4 v d p) : ∃ b, v = .bool b := by
  obtain ⟨b, rfl, _, _⟩ := open_bool Try.underlying4 hv h
  exact ⟨b, rfl⟩
set_option maxRecDepth 100000 in
theorem arg_sl {D : Type} {L : Lay D} {t e : TypeId} {H : Type} {enc : TypeId × Value → H} {w : World} {base b0 : Nat} {r : Reach} {spare : Nat → Bool} {held : Bool} {v : Value} {d : DataW H} {p : List MemPlace}
    (ht : Try.prog.underlying t = some (.slice e)) (ho : Opens Try.prog (slL L) t) (hv : Value.okWide Try.prog w r b0 t v) (h : DataW.Trod enc Try.prog w base spare held t v d p) (hb : Rows.uptoBulk d ≤ 1048576) : ∃ l, Sl L w v l := by
  obtain ⟨l, v', e1, h1⟩ := arg_one ho h hb
  obtain ⟨a, n, c, rfl⟩ := okWide_slice ht hv
  simp only [Value.cells, List.cons.injEq, and_true] at e1
  subst e1
  exact ⟨l, h1⟩
end Go.Proofs.Ytfjnkidblalckaa

/- Plain law of the model: the shift down of slices.Delete, by one element. No condition. -/
namespace Go.Proofs.Ytfjnkidblalckaa
open Go Go.RowKit

theorem Own.shift {P : Program} {w : World} {B : Nat} {e : TypeId} {g o n c i sz : Nat} {xs : List Value} (t : TypeId) (i0 : TypeInfo) (ht : P.underlying t = some (.slice e)) (hi : P.info? e = some i0) (hs : i0.size = sz)
    (h : Own w B e sz (.slice (some ⟨g, o, none⟩) n c) n xs) (hx1 : ∀ u ∈ xs, u.oneCell' = true) (hin : i < n) (a : Addr) (ha : ∀ j u, (xs.drop ((i + 1) * sz))[j]? = some u → w.cell? (a.add j) = some u) :
    ∃ w', (∀ ty c', (Builtin.append_ #[t, t] ty #[.slice (some ⟨g, o, none⟩) i c, .slice (some a) (n - (i + 1)) c']).run P w = .ok (.slice (some ⟨g, o, none⟩) (n - 1) c) w') ∧
      Own w' B e sz (.slice (some ⟨g, o, none⟩) n c) n (xs.take (i * sz) ++ xs.drop ((i + 1) * sz) ++ xs.drop ((n - 1) * sz)) ∧ w.grownBy w' (some g) := by
  rcases h.2 with ⟨h0, _⟩ | ⟨g', o', cap, cur, hv, hb, hg, h2, h3, h4, h5⟩
  · cases h0
  · injection hv with e1 _ e3
    injection e1 with e1
    injection e1 with e1 e2
    subst e1; subst e2; subst e3
    have hlen := h.1
    have hnc : n * sz ≤ c * sz := Nat.mul_le_mul_right _ h2
    have hin2 : i * sz + sz ≤ n * sz := by have := Nat.mul_le_mul_right sz (show i + 1 ≤ n by omega); rw [Nat.add_mul, Nat.one_mul] at this; exact this
    have e5 : (i + 1) * sz = i * sz + sz := by rw [Nat.add_mul, Nat.one_mul]
    have e6 : (n - 1) * sz = n * sz - sz := by rw [Nat.sub_mul, Nat.one_mul]
    have e7 : (n - (i + 1)) * sz = n * sz - (i * sz + sz) := by rw [Nat.sub_mul, e5]
    have hdl : (xs.drop ((i + 1) * sz)).length = (n - (i + 1)) * sz := by rw [List.length_drop, hlen, Nat.sub_mul]
    have e8 : i + (n - (i + 1)) = n - 1 := by omega
    refine ⟨w.setRow g (cur.toList.take (o + i * sz) ++ xs.drop ((i + 1) * sz) ++ cur.toList.drop (o + i * sz + (xs.drop ((i + 1) * sz)).length)).toArray, fun ty c' => ?_, ⟨?_, .inr ⟨g, o, c, _, rfl, hb, setRow_heap w g cur _ e _ hg, h2, h3, ?_, ?_⟩⟩, grownBy_setRow⟩
    · have := run_append_at (P := P) w t ty e i0 ht hi g o i c cur hg a (n - (i + 1)) c' (xs.drop ((i + 1) * sz)) (by rw [hs, hdl]) ha (fun u hu => hx1 u (List.mem_of_mem_drop hu)) (by omega) (by rw [hs, hdl, e7]; omega)
      rw [hs, e8] at this
      exact this
    · simp only [List.length_append, List.length_take, List.length_drop, hlen, e5, e6]
      omega
    · simp only [List.size_toArray, List.length_append, List.length_take, List.length_drop, Array.length_toList, hlen, e5]
      omega
    · have hcl : cur.toList = cur.toList.take o ++ xs ++ cur.toList.drop (o + n * sz) := by
        conv => lhs; rw [← List.take_append_drop o cur.toList, ← List.take_append_drop (n * sz) (cur.toList.drop o), h5]
        rw [List.drop_drop, List.append_assoc]
      have hol : (cur.toList.take o).length = o := by simp; omega
      generalize cur.toList.take o = A at *
      generalize cur.toList.drop (o + n * sz) = C at *
      rw [hcl, hdl, e7, e5, e6]
      subst hol
      have hxs : xs = xs.take (i * sz) ++ xs.drop (i * sz) := (List.take_append_drop _ _).symm
      have t1 : (A ++ xs ++ C).take (A.length + i * sz) = A ++ xs.take (i * sz) := by
        rw [List.append_assoc, List.take_append, List.take_of_length_le (by omega), show A.length + i * sz - A.length = i * sz by omega, List.take_append_of_le_length (by omega)]
      have t2 : (A ++ xs ++ C).drop (A.length + i * sz + (n * sz - (i * sz + sz))) = xs.drop (n * sz - sz) ++ C := by
        rw [List.append_assoc, List.drop_append, List.drop_of_length_le (by omega), List.nil_append, List.drop_append_of_le_length (by omega)]
        congr 2
        omega
      rw [t1, t2]
      show ((A ++ xs.take (i * sz) ++ xs.drop (i * sz + sz) ++ (xs.drop (n * sz - sz) ++ C)).drop A.length).take (n * sz) = _
      rw [List.append_assoc, List.append_assoc, List.drop_left]
      rw [show xs.take (i * sz) ++ (xs.drop (i * sz + sz) ++ (xs.drop (n * sz - sz) ++ C)) = (xs.take (i * sz) ++ xs.drop (i * sz + sz) ++ xs.drop (n * sz - sz)) ++ C by simp]
      rw [List.take_append_of_le_length (by simp; omega), List.take_of_length_le (by simp; omega)]
end Go.Proofs.Ytfjnkidblalckaa

/- Contract: slices.DeleteFunc at []Tie. -/
namespace Go.Proofs.Ytfjnkidblalckaa
open Go Go.RowKit




def tieAg (_ : World) (d : Tie) (u : Value) : Prop := u = .agg #[.string d.bond, .int .i64 d.src, .int .i64 d.dst] ∧ d.ok
set_option maxHeartbeats 400000 in
theorem idx_ties (g : Nat) (caps : Array Value) (eg : ∀ args w, (callFunc g args).run Try.prog w = .ok (.enter g args) w) (p : Tie → Bool) (l : List (Tie)) (v : Value) (w : World) (hv : Sl tieL w v l)
    (hp : PredB Try.prog g caps tieAg p w) :
    Calls Try.prog 64 #[v, .func (.func g) #[] caps] w fun e w' => e = .returned (.int .i64 (idxI p l)) ∧ Below w.heap.size w w' := by
  obtain ⟨A, c, rfl, hlc, hcm⟩ := hv.form
  unfold maxLen at hcm
  go_enter Try.func64, Try.ntmps64
  go_wp2_with fail
  go_loopw [8] (fun i wr => ∃ k : Nat, k ≤ l.length ∧ i = .int .i64 k ∧ Below w.heap.size w wr ∧ Hid (∀ j x, j < k → l[j]? = some x → p x = false)) (fun i _ => l.length - (intOf i).toNat)
  case atStart => exact ⟨0, Nat.zero_le _, rfl, Below.refl _ _, fun j x hj => absurd hj (Nat.not_lt_zero _)⟩
  case round =>
    obtain ⟨k, hk, rfl, hb, HA⟩ := hrel
    by_cases hlt : k < l.length
    · obtain ⟨d, hd⟩ : ∃ d, l[k]? = some d := ⟨_, List.getElem?_eq_getElem hlt⟩
      obtain ⟨b, o, rfl, hsm, x0, x1, x2⟩ := tie_at (hv.below hb) hd
      have hcall := hp d _ wr hb ⟨rfl, hsm⟩
      have HD : Hid (l[k]? = some d) := hd
      clear hd hp hv
      cases hq : p d with
      | true =>
        rw [hq] at hcall
        have HQ : Hid (p d = true) := hq
        clear hq
        go_wp2_with (go_at_fn g; refine hcall.mono ?_; rintro e w' ⟨rfl, hb2⟩)
        go_ret
        exact ⟨ret_int (idxI_hit HA.out HD.out HQ.out).symm, hb.trans (hb2.mono hb.size)⟩
      | false =>
        rw [hq] at hcall
        have HQ : Hid (p d = false) := hq
        clear hq
        go_wp2_with (go_at_fn g; refine hcall.mono ?_; rintro e w' ⟨rfl, hb2⟩)
        go_roundw
        case rel => exact ⟨k + 1, by omega, by go_num, hb.trans (hb2.mono hb.size), miss_step HA.out HD.out HQ.out⟩
        case measure => simp [intOf]; omega
    · have hkl : k = l.length := by omega
      subst hkl
      clear hp hv
      go_wp2_with fail
      go_ret
      exact ⟨ret_int (idxI_miss HA.out).symm, hb⟩
theorem del_ties_info : (Try.prog.info? 40).map (fun i => (i.zero, i.size, i.bytes)) = some (some (.agg #[.string .empty, .int .i64 0, .int .i64 0]), 3, 32) := by kernel_rfl
set_option maxRecDepth 100000 in
set_option maxHeartbeats 4000000 in
theorem del_ties_g (g : Nat) (caps : Array Value) (eg : ∀ args w, (callFunc g args).run Try.prog w = .ok (.enter g args) w) (p : Tie → Bool) (l : List Tie) (v : Value) (B : Nat) (w : World) (hB : B ≤ w.heap.size)
    (hown : Own w B 40 3 v l.length (l.flatMap Tie.enc)) (hok : ∀ x ∈ l, x.ok) (hl : l.length ≤ 1000) (hp : PredG Try.prog g caps (fun d u => u = (.agg #[.string d.bond, .int .i64 d.src, .int .i64 d.dst]) ∧ d.ok) p v.ownBlock w) :
    Calls Try.prog 46 #[v, .func (.func g) #[] caps] w fun e w' => ∃ u, e = .returned u ∧ Own w' B 40 3 u (l.filter fun x => !p x).length ((l.filter fun x => !p x).flatMap Tie.enc) ∧ w.grownBy w' v.ownBlock ∧ u.ownBlock = v.ownBlock := by
  obtain ⟨i0, ei, ez, ez1, ez2⟩ := info_parts del_ties_info
  have hidx := idx_ties g caps eg p l _ w (hown.ties hok) (fun x u wx hb hu => hp x u wx (grownBy_below hb _) hu)
  rcases idxI_cases p l with ⟨h1, h2⟩ | ⟨k0, d0, h1, h2, h3⟩
  · rw [h1] at hidx
    obtain ⟨A, c, rfl, hlc, hcm⟩ := hown.form
    have H2 := Lib.hid h2
    have HO := Lib.hid hown
    clear h1 h2 hown hp hok
    go_enter Try.func46, Try.ntmps46
    go_wp2_with (go_at_call 64; refine hidx.mono ?_; rintro e w1 ⟨rfl, hb1⟩)
    go_ret
    exact ⟨_, rfl, by rw [H2.out]; exact HO.out.below hb1, grownBy_below hb1 _, rfl⟩
  · rw [h1] at hidx
    obtain ⟨g0, o0, c, rfl, hBg, hgl⟩ := hown.addr (len_pos h2)
    obtain ⟨_, c', hv, hlc, hcm⟩ := hown.form
    injection hv with hvA hvL hvC
    subst hvC; subst hvA
    clear hvL
    unfold maxLen at hcm
    have HK0 := Lib.hid h3
    have hk0l := (List.getElem?_eq_some_iff.1 h2).1
    have HP := Lib.hid hp
    have HOK := Lib.hid hok
    have HO := Lib.hid hown
    have hkl : (k0 : Int) + 1 ≤ (l.length : Int) := by omega
    have hl2 : (l.length : Int) ≤ 1000 := by omega
    have hne : ((k0 : Int) == -1) = false := beq_eq_false_iff_ne.2 (by omega)
    have hown' : Own w B 40 3 (.slice (some ⟨g0, o0, none⟩) l.length c) l.length (l.flatMap Tie.enc) := hown
    clear h1 h2 h3 hown hp hok
    go_enter Try.func46, Try.ntmps46
    go_wp2_with (go_at_call 64; refine hidx.mono ?_; rintro e w1 ⟨rfl, hb1⟩)
    have ho1 := hown'.below hb1
    have hgb1 : w.grownBy w1 (some g0) := grownBy_below hb1 _
    clear hidx hown'
    go_loopw [5, 6] (fun i j wr => ∃ (a b : Nat) (dk : List Tie), i = .int .i64 a ∧ j = .int .i64 b ∧ a < b ∧ b ≤ l.length ∧ Own wr B 40 3 (.slice (some ⟨g0, o0, none⟩) l.length c) l.length (dk.flatMap Tie.enc) ∧ w.grownBy wr (some g0) ∧ Hid (Kept p l dk b a)) (fun _ j _ => l.length - (intOf j).toNat)
    case atStart => exact ⟨k0, k0 + 1, l, rfl, by go_num, by omega, by omega, ho1, hgb1, HK0.out⟩
    case round =>
      clear ho1 hgb1
      obtain ⟨a, b, dk, rfl, rfl, hab, hbl, hO, hgr, HK⟩ := hrel
      have hdl := HK.out.len
      have hal : (a : Int) < (l.length : Int) := by omega
      have hgrs := hgr.size
      by_cases hlt : b < l.length
      · obtain ⟨d, hd⟩ : ∃ d, l[b]? = some d := ⟨_, List.getElem?_eq_getElem hlt⟩
        obtain ⟨q, hq⟩ : ∃ q, dk[a]? = some q := ⟨_, List.getElem?_eq_getElem (by omega)⟩
        have hdk : dk[b]? = some d := (HK.out.at hlt).trans hd
        have hlt' : (b : Int) < (l.length : Int) := by omega
        have x0 : wr.cell? ⟨g0, o0 + b * 3, none⟩ = some (.string d.bond) := hO.cell (j := b * 3 + 0) rfl (flat_get (j := 0) Tie.enc_len hdk rfl)
        have x1 : wr.cell? ⟨g0, o0 + b * 3 + 1, none⟩ = some (.int .i64 d.src) := hO.cell (j := b * 3 + 1) rfl (flat_get (j := 1) Tie.enc_len hdk rfl)
        have x2 : wr.cell? ⟨g0, o0 + b * 3 + 2, none⟩ = some (.int .i64 d.dst) := hO.cell (j := b * 3 + 2) rfl (flat_get (j := 2) Tie.enc_len hdk rfl)
        obtain ⟨z0, z1, z2⟩ := cell_box3 wr (.string d.bond) (.int .i64 d.src) (.int .i64 d.dst) 40
        have hbx : Below wr.heap.size wr (wr.alloc (.cells #[.string d.bond, .int .i64 d.src, .int .i64 d.dst] 40)) := (Below.refl _ _).alloc (Nat.le_refl _) _
        have hOx := hO.below hbx
        have hgx : w.grownBy (wr.alloc (.cells #[.string d.bond, .int .i64 d.src, .int .i64 d.dst] 40)) (some g0) := hgr.trans (grownBy_below hbx _)
        have hcall := HP.out d (.agg #[.string d.bond, .int .i64 d.src, .int .i64 d.dst]) (wr.alloc (.cells #[.string d.bond, .int .i64 d.src, .int .i64 d.dst] 40)) hgx ⟨rfl, HOK.out d (List.mem_of_getElem? hd)⟩
        have HD := Lib.hid hd
        clear hd hdk hO hgr
        cases hpd : p d with
        | true =>
          rw [hpd] at hcall
          have HN := Lib.hid (HK.out.skip HD.out hpd)
          clear hpd hq
          go_wp2_with (go_at_fn g; refine hcall.mono ?_; rintro e w2 ⟨rfl, hb2⟩)
          have hO2 := hOx.below hb2
          have hg2 := hgx.trans (grownBy_below hb2 (some g0))
          clear hcall hb2 hOx hgx x0 x1 x2 z0 z1 z2
          go_roundw
          case rel => exact ⟨a, b + 1, dk, rfl, by go_num, by omega, by omega, hO2, hg2, HN⟩
          case measure => simp [intOf]; omega
        | false =>
          rw [hpd] at hcall
          have HN := Lib.hid (HK.out.keep HD.out hpd)
          clear hpd
          go_wp2_with (
            (go_at_fn g
             refine hcall.mono ?_
             rintro e w2 ⟨rfl, hb2⟩
             have hO2 := hOx.below hb2
             have hg2 := hgx.trans (grownBy_below hb2 (some g0))
             clear hOx hgx
             have y0 : w2.cell? ⟨g0, o0 + a * 3, none⟩ = some (.string q.bond) := hO2.cell (j := a * 3 + 0) rfl (flat_get (j := 0) Tie.enc_len hq rfl)
             have y1 : w2.cell? ⟨g0, o0 + a * 3 + 1, none⟩ = some (.int .i64 q.src) := hO2.cell (j := a * 3 + 1) rfl (flat_get (j := 1) Tie.enc_len hq rfl)
             have y2 : w2.cell? ⟨g0, o0 + a * 3 + 2, none⟩ = some (.int .i64 q.dst) := hO2.cell (j := a * 3 + 2) rfl (flat_get (j := 2) Tie.enc_len hq rfl)
             have f0 : w2.frozen? ⟨g0, o0 + a * 3, none⟩ = false := hO2.frozen rfl _
             have f1 : w2.frozen? ⟨g0, o0 + a * 3 + 1, none⟩ = false := hO2.frozen rfl _
             have f2 : w2.frozen? ⟨g0, o0 + a * 3 + 2, none⟩ = false := hO2.frozen rfl _
             have b0 := cell_below hb2 z0
             have b1 := cell_below hb2 z1
             have b2 := cell_below hb2 z2
             have ho3 := (((hO2.store (a * 3) (by omega) (.string d.bond)).store (a * 3 + 1) (by omega) (.int .i64 d.src)).store (a * 3 + 2) (by omega) (.int .i64 d.dst))
             have HO3 : Hid (Own (((w2.setCell ⟨g0, o0 + a * 3, none⟩ (.string d.bond)).setCell ⟨g0, o0 + a * 3 + 1, none⟩ (.int .i64 d.src)).setCell ⟨g0, o0 + a * 3 + 2, none⟩ (.int .i64 d.dst)) B 40 3 (.slice (some ⟨g0, o0, none⟩) l.length c) l.length ((dk.set a d).flatMap Tie.enc)) := by
               rw [← flat_set Tie.enc_len dk a d (by omega)]; exact ho3
             have HG3 : Hid (w.grownBy (((w2.setCell ⟨g0, o0 + a * 3, none⟩ (.string d.bond)).setCell ⟨g0, o0 + a * 3 + 1, none⟩ (.int .i64 d.src)).setCell ⟨g0, o0 + a * 3 + 2, none⟩ (.int .i64 d.dst)) (some g0)) := (((hg2.trans (grownBy_setCell_q _ ⟨g0, o0 + a * 3, none⟩ _)).trans (grownBy_setCell_q _ ⟨g0, o0 + a * 3 + 1, none⟩ _)).trans (grownBy_setCell_q _ ⟨g0, o0 + a * 3 + 2, none⟩ _))
             clear ho3 hO2 hg2 z0 z1 z2
             skip)
            )
          go_roundw
          case rel => exact ⟨a + 1, b + 1, dk.set a d, by go_num, by go_num, by omega, by omega, HO3.out, HG3.out, HN⟩
          case measure => simp [intOf]; omega
      · obtain rfl : b = l.length := by omega
        obtain ⟨hd1, hd2⟩ := HK.out.done
        obtain ⟨w9, hr9, ho9, hg9⟩ := hO.clear (P := Try.prog) 23 i0 (.agg #[.string .empty, .int .i64 0, .int .i64 0]) 3 Try.underlying23 ei ez rfl (by kernel_rfl) (by decide) (show a < l.length by omega)
        have HG9 := Lib.hid (hgr.trans hg9)
        have HO9 : Hid (Own w9 B 40 3 (.slice (some ⟨g0, o0, none⟩) a c) (l.filter fun x => !p x).length ((l.filter fun x => !p x).flatMap Tie.enc)) := by
          unfold Hid
          rw [hd2, ← hd1, ← flat_take Tie.enc_len dk a (by omega)]
          exact ho9
        have hca : ¬ c = a := by omega
        have hac : (a : Int) ≤ (c : Int) := by omega
        clear hd1 hd2 ho9 hg9 hO hgr
        go_wp2_with (at_builtin; refine wpList_clear_q _ rfl (.tmp 38) _ rfl _ rfl (hr9 _ _) ?_)
        go_ret
        exact ⟨_, rfl, HO9.out, HG9.out, rfl⟩
theorem del_ties (g : Nat) (caps : Array Value) (eg : ∀ args w, (callFunc g args).run Try.prog w = .ok (.enter g args) w) (p : Tie → Bool) (l : List Tie) (v : Value) (B : Nat) (w : World) (hB : B ≤ w.heap.size)
    (hown : Own w B 40 3 v l.length (l.flatMap Tie.enc)) (hok : ∀ x ∈ l, x.ok) (hl : l.length ≤ 1000) (hp : PredO Try.prog g caps (fun d u => u = (.agg #[.string d.bond, .int .i64 d.src, .int .i64 d.dst]) ∧ d.ok) p B w) :
    Calls Try.prog 46 #[v, .func (.func g) #[] caps] w fun e w' => ∃ u, e = .returned u ∧ Own w' B 40 3 u (l.filter fun x => !p x).length ((l.filter fun x => !p x).flatMap Tie.enc) ∧ w.grownBy w' v.ownBlock ∧ u.ownBlock = v.ownBlock :=
  del_ties_g g caps eg p l v B w hB hown hok hl (fun x u wx hgw hu => hp x u wx ((Below.refl B w).grown hgw hB (fun k e => (hown.lt k e).1)) hu)
end Go.Proofs.Ytfjnkidblalckaa

/- Contracts: slices.Clone at nodes and at ties, graph.OwnNode, graph.Own. -/
namespace Go.Proofs.Ytfjnkidblalckaa
open Go Go.RowKit



theorem clone_nods_info : (Try.prog.info? 30).map (fun i => (i.zero, i.size, i.bytes)) = some (some (.agg #[.int .i64 0, .string .empty, .slice none 0 0]), 3, 48) := by kernel_rfl
set_option maxHeartbeats 2000000 in
theorem clone_nods {w : World} {A : Option Addr} {n c : Nat} {xs : List Value} (hlen : xs.length = n * 3) (h1 : ∀ u ∈ xs, u.oneCell' = true) (hx : 0 < n → ∃ b o, A = some ⟨b, o, none⟩ ∧ ∀ j u, xs[j]? = some u → w.cell? ⟨b, o + j, none⟩ = some u) (hl : n ≤ 1048576) :
    Calls Try.prog 33 #[.slice A n c] w fun e w' => ∃ u, e = .returned u ∧ Own w' w.heap.size 30 3 u n xs ∧ Below w.heap.size w w' := by
  obtain ⟨i0, ei, ez, ez1, ez2⟩ := info_parts clone_nods_info
  have q22 : ∀ (w : World) (a : Option Addr) (n c n' c' : Nat), (binOp .eql 22 (.slice a n c) (.slice none n' c')).run Try.prog w = .ok (.bool a.isNone) w := fun w a n c n' c' => Lib.run_eql_slice_nil w _ _ a n c n' c' Try.underlying22
  cases A with
  | none =>
    have h0 : n = 0 := by
      rcases Nat.eq_zero_or_pos n with h | h
      · exact h
      · obtain ⟨_, _, hA, _⟩ := hx h; cases hA
    subst h0
    have hx0 : xs = [] := List.eq_nil_of_length_eq_zero (by rw [hlen, Nat.zero_mul])
    subst hx0
    clear hx hlen h1
    go_enter Try.func33, Try.ntmps33
    go_wp2_with fail
    go_ret
    exact ⟨_, rfl, Own.nil _ _ _ _, Below.refl _ _⟩
  | some a =>
    have hX : Hid (0 < n → ∃ b o, (some a : Option Addr) = some ⟨b, o, none⟩ ∧ ∀ j u, xs[j]? = some u → w.cell? ⟨b, o + j, none⟩ = some u) := hx
    have hL := Lib.hid hlen
    have h1H := Lib.hid h1
    clear hx hlen h1
    go_enter Try.func33, Try.ntmps33
    go_wp2_with (at_builtin; refine wpList_append_q _ rfl (.tmp 5) (.tmp 6) 22 rfl w.heap.size 30 i0 (.agg #[.int .i64 0, .string .empty, .slice none 0 0]) 3 48 Try.underlying22 ei ez ez1 ez2 rfl (by decide) (.slice (some ⟨w.heap.size, 0, none⟩) 0 0) 0 [] rfl Own.made (some a) n c xs rfl hL.out (fun hp => by
        obtain ⟨b, o, hA, hy⟩ := hX.out hp
        exact ⟨_, hA, fun j u hj => by rw [addr_add]; exact cell_below ((Below.refl _ _).alloc (Nat.le_refl _) _) (hy j u hj)⟩) h1H.out (by unfold maxLen; omega) (by omega) (by simp) ?_; intro v7 w7 hown7 hg7 hat7)
    have hb7 : Below w.heap.size w w7 := ((Below.refl _ _).alloc (Nat.le_refl _) _).grown hg7 (by simp) (fun k hk => Nat.le_of_eq (by simpa [Value.ownBlock] using hk))
    simp only [Nat.zero_add, List.nil_append] at hown7
    clear hg7 hat7
    go_ret
    exact ⟨_, rfl, hown7, hb7⟩
theorem clone_ties_info : (Try.prog.info? 40).map (fun i => (i.zero, i.size, i.bytes)) = some (some (.agg #[.string .empty, .int .i64 0, .int .i64 0]), 3, 32) := by kernel_rfl
set_option maxHeartbeats 2000000 in
theorem clone_ties {w : World} {v : Value} {l : List Tie} (hv : Sl tieL w v l) (hl : l.length ≤ 1048576) : Calls Try.prog 32 #[v] w (CloneR tieL 40 l w) := by
  obtain ⟨i0, ei, ez, ez1, ez2⟩ := info_parts clone_ties_info
  obtain ⟨A, c, rfl, _, _⟩ := hv.form
  obtain ⟨xs, hr, hx⟩ := Row.of_sl hv
  have hlen := hr.len
  have h1 := hr.oneCell one_tie
  have q22 : ∀ (w : World) (a : Option Addr) (n c n' c' : Nat), (binOp .eql 23 (.slice a n c) (.slice none n' c')).run Try.prog w = .ok (.bool a.isNone) w := fun w a n c n' c' => Lib.run_eql_slice_nil w _ _ a n c n' c' Try.underlying23
  cases A with
  | none =>
    have h0 : l = [] := by
      rcases Nat.eq_zero_or_pos l.length with h | h
      · exact List.eq_nil_of_length_eq_zero h
      · obtain ⟨_, _, hA, _⟩ := hx h; cases hA
    subst h0
    clear hv hr hx hlen h1
    go_enter Try.func32, Try.ntmps32
    go_wp2_with fail
    go_ret
    exact ⟨_, [], rfl, Own.nil _ _ _ _, rfl, Below.refl _ _⟩
  | some a =>
    have hX : Hid (0 < l.length → ∃ b o, (some a : Option Addr) = some ⟨b, o, none⟩ ∧ ∀ j u, xs[j]? = some u → w.cell? ⟨b, o + j, none⟩ = some u) := hx
    have hR := Lib.hid hr
    have hL := Lib.hid hlen
    have h1H := Lib.hid h1
    clear hv hr hx hlen h1
    go_enter Try.func32, Try.ntmps32
    go_wp2_with (at_builtin; refine wpList_append_q _ rfl (.tmp 5) (.tmp 6) 23 rfl w.heap.size 40 i0 (.agg #[.string .empty, .int .i64 0, .int .i64 0]) 3 32 Try.underlying23 ei ez ez1 ez2 rfl (by decide) (.slice (some ⟨w.heap.size, 0, none⟩) 0 0) 0 [] rfl Own.made (some a) l.length c xs rfl hL.out (fun hp => by
        obtain ⟨b, o, hA, hy⟩ := hX.out hp
        exact ⟨_, hA, fun j u hj => by rw [addr_add]; exact cell_below ((Below.refl _ _).alloc (Nat.le_refl _) _) (hy j u hj)⟩) h1H.out (by unfold maxLen; omega) (by omega) (by simp) ?_; intro v7 w7 hown7 hg7 hat7)
    have hb7 : Below w.heap.size w w7 := ((Below.refl _ _).alloc (Nat.le_refl _) _).grown hg7 (by simp) (fun k hk => Nat.le_of_eq (by simpa [Value.ownBlock] using hk))
    simp only [Nat.zero_add, List.nil_append] at hown7
    clear hg7 hat7
    go_ret
    exact ⟨_, xs, rfl, hown7, hR.out, hb7⟩
set_option maxHeartbeats 1000000 in
theorem ownNode_any (n : Nod) (v : Value) (w : World) (hv : Sl prpL w v n.props) (hl : n.props.length ≤ 1048576) :
    Calls Try.prog 22 #[.agg #[.int .i64 n.id, .string n.kind, v]] w fun e w' => ∃ u, e = .returned (.agg #[.int .i64 n.id, .string n.kind, u]) ∧ OwnP w' w.heap.size u n.props ∧ Below w.heap.size w w' := by
  have hb0 : Below w.heap.size w ((w.alloc (.cells #[.int .i64 n.id, .string n.kind, v] 30)).alloc (.cells #[.int .i64 0, .string .empty, .slice none 0 0] 30)) := ((Below.refl _ _).alloc (Nat.le_refl _) _).alloc (by simp) _
  have hcl := clone_prps (hv.below hb0) hl
  have g0 : ((w.alloc (.cells #[.int .i64 n.id, .string n.kind, v] 30)).alloc (.cells #[.int .i64 0, .string .empty, .slice none 0 0] 30)).heap[w.heap.size]? = some (.cells #[.int .i64 n.id, .string n.kind, v] 30 (0, 0)) := by
    rw [Below.heap_alloc _ _ _ (by simp)]; exact heap_alloc_new _ _
  have g1 : ((w.alloc (.cells #[.int .i64 n.id, .string n.kind, v] 30)).alloc (.cells #[.int .i64 0, .string .empty, .slice none 0 0] 30)).heap[w.heap.size + 1]? = some (.cells #[.int .i64 0, .string .empty, .slice none 0 0] 30 (0, 0)) := by
    have := heap_alloc_new (w.alloc (.cells #[.int .i64 n.id, .string n.kind, v] 30)) (.cells #[.int .i64 0, .string .empty, .slice none 0 0] 30); simpa using this
  have x0 := block_cell g0 0
  have x1 := block_cell g0 1
  have x2 := block_cell g0 2
  have hsz : ((w.alloc (.cells #[.int .i64 n.id, .string n.kind, v] 30)).alloc (.cells #[.int .i64 0, .string .empty, .slice none 0 0] 30)).heap.size = w.heap.size + 2 := by simp
  obtain ⟨A, c, rfl, _, _⟩ := hv.form
  clear hv
  go_enter Try.func22, Try.ntmps22
  go_wp2_with fail
  refine hcl.mono ?_
  clear hcl
  rintro e w2 ⟨u, xs, rfl, hown, hrow, hb2⟩
  obtain ⟨rfl, hok⟩ := Row.flat hrow
  have hown := Own.mono (B' := w.heap.size) hown (by rw [hsz]; omega)
  have HK := Lib.hid hok
  have g2 := (hb2.block _ (Array.getElem?_eq_some_iff.1 g0).1).trans g0
  have g3 := (hb2.block _ (Array.getElem?_eq_some_iff.1 g1).1).trans g1
  have y0 := block_cell g2 0
  have y1 := block_cell g2 1
  have y2 := block_cell g2 2
  have y3 := block_cell g3 0
  have y4 := block_cell g3 1
  have y5 := block_cell g3 2
  have f2 := block_free g2 2
  have f3 := block_free g3 0
  have f4 := block_free g3 1
  have f5 := block_free g3 2
  have hB2 := hb0.trans (hb2.mono hb0.size)
  have HO : Hid (∀ W, Same 38 w2 W → OwnP W w.heap.size u n.props) := fun W hs => ⟨Own.same hown hs, HK.out⟩
  obtain ⟨A2, c2, rfl, _, _⟩ := hown.form
  have hsame : ∀ W : World, W = ((((w2.setCell ⟨w.heap.size, 2, none⟩ (.slice A2 n.props.length c2)).setCell ⟨w.heap.size + 1, 0, none⟩ (.int .i64 n.id)).setCell ⟨w.heap.size + 1, 1, none⟩ (.string n.kind)).setCell ⟨w.heap.size + 1, 2, none⟩ (.slice A2 n.props.length c2)) → Same 38 w2 W := by
    rintro W rfl
    have k0 := setCell_block g2 2 (.slice A2 n.props.length c2)
    have s0 := Same.setCell (T := 38) (p := ⟨w.heap.size, 2, none⟩) g2 (by decide) (.slice A2 n.props.length c2)
    have k1 : (w2.setCell ⟨w.heap.size, 2, none⟩ (.slice A2 n.props.length c2)).heap[w.heap.size + 1]? = some (.cells #[.int .i64 0, .string .empty, .slice none 0 0] 30 (0, 0)) := by rw [Below.heap_setCell _ _ _ _ (by simp)]; exact g3
    have s1 := Same.setCell (T := 38) (p := ⟨w.heap.size + 1, 0, none⟩) k1 (by decide) (.int .i64 n.id)
    have k2 := setCell_block k1 0 (.int .i64 n.id)
    have s2 := Same.setCell (T := 38) (p := ⟨w.heap.size + 1, 1, none⟩) k2 (by decide) (.string n.kind)
    have k3 := setCell_block k2 1 (.string n.kind)
    have s3 := Same.setCell (T := 38) (p := ⟨w.heap.size + 1, 2, none⟩) k3 (by decide) (.slice A2 n.props.length c2)
    exact s0.trans (s1.trans (s2.trans s3))
  have HS := Lib.hid hsame
  have G3 := Lib.hid g3
  clear hown hrow hok g0 g1 g2 g3 x0 x1 x2 hsame
  go_wp2_with fail
  have h3 : ((((w2.setCell ⟨w.heap.size, 2, none⟩ (.slice A2 n.props.length c2)).setCell ⟨w.heap.size + 1, 0, none⟩ (.int .i64 n.id)).setCell ⟨w.heap.size + 1, 1, none⟩ (.string n.kind)).setCell ⟨w.heap.size + 1, 2, none⟩ (.slice A2 n.props.length c2)).heap[w.heap.size + 1]? = some (.cells #[.int .i64 n.id, .string n.kind, .slice A2 n.props.length c2] 30 (0, 0)) := by
    have k1 : (w2.setCell ⟨w.heap.size, 2, none⟩ (.slice A2 n.props.length c2)).heap[w.heap.size + 1]? = some (.cells #[.int .i64 0, .string .empty, .slice none 0 0] 30 (0, 0)) := by rw [Below.heap_setCell _ _ _ _ (by simp)]; exact G3.out
    exact setCell_block (setCell_block (setCell_block k1 0 (.int .i64 n.id)) 1 (.string n.kind)) 2 (.slice A2 n.props.length c2)
  have k2 := block_cell h3 0
  have k3 := block_cell h3 1
  have k4 := block_cell h3 2
  exact bodyPost_ret (v := .agg #[.int .i64 n.id, .string n.kind, .slice A2 n.props.length c2]) (by simp [results, Try.results22, go_sem, k2, k3, k4]) rfl ⟨_, rfl, HO.out _ (HS.out _ rfl), (((hB2.setCell (p := ⟨w.heap.size, 2, none⟩) (Nat.le_refl _) _).setCell (p := ⟨w.heap.size + 1, 0, none⟩) (by show w.heap.size ≤ w.heap.size + 1; omega) _).setCell (p := ⟨w.heap.size + 1, 1, none⟩) (by show w.heap.size ≤ w.heap.size + 1; omega) _).setCell (p := ⟨w.heap.size + 1, 2, none⟩) (by show w.heap.size ≤ w.heap.size + 1; omega) _⟩
end Go.Proofs.Ytfjnkidblalckaa
