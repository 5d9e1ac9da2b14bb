/- Parts: DelD, DelT, DelO. -/
import Derived.Test.YtldonhgcifhpgaaMg11
import Derived.Test.YtldonhgcifhpgaaMg12
import Derived.Test.YtldonhgcifhpgaaMg13
/- Plain law of the model: the shift down of slices.Delete, by one element. No condition. -/
namespace Go.Proofs.Ytldonhgcifhpgaa
open Go Go.RowKit

theorem Own.shift {P : Program} {w : World} {B : Nat} {e : TypeId} {g o n c i sz : Nat} {xs : List Value} (t : TypeId) (i0 : TypeInfo) (ht : P.underlying t = some (.slice e)) (hi : P.info? e = some i0) (hs : i0.size = sz)
    (h : Own w B e sz (.slice (some ⟨g, o, none⟩) n c) n xs) (hx1 : ∀ u ∈ xs, u.oneCell' = true) (hin : i < n) (a : Addr) (ha : ∀ j u, (xs.drop ((i + 1) * sz))[j]? = some u → w.cell? (a.add j) = some u) :
    ∃ w', (∀ ty c', (Builtin.append_ #[t, t] ty #[.slice (some ⟨g, o, none⟩) i c, .slice (some a) (n - (i + 1)) c']).run P w = .ok (.slice (some ⟨g, o, none⟩) (n - 1) c) w') ∧
      Own w' B e sz (.slice (some ⟨g, o, none⟩) n c) n (xs.take (i * sz) ++ xs.drop ((i + 1) * sz) ++ xs.drop ((n - 1) * sz)) ∧ w.grownBy w' (some g) := by
  rcases h.2 with ⟨h0, _⟩ | ⟨g', o', cap, cur, hv, hb, hg, h2, h3, h4, h5⟩
  · cases h0
  · injection hv with e1 _ e3
    injection e1 with e1
    injection e1 with e1 e2
    subst e1; subst e2; subst e3
    have hlen := h.1
    have hnc : n * sz ≤ c * sz := Nat.mul_le_mul_right _ h2
    have hin2 : i * sz + sz ≤ n * sz := by have := Nat.mul_le_mul_right sz (show i + 1 ≤ n by omega); rw [Nat.add_mul, Nat.one_mul] at this; exact this
    have e5 : (i + 1) * sz = i * sz + sz := by rw [Nat.add_mul, Nat.one_mul]
    have e6 : (n - 1) * sz = n * sz - sz := by rw [Nat.sub_mul, Nat.one_mul]
    have e7 : (n - (i + 1)) * sz = n * sz - (i * sz + sz) := by rw [Nat.sub_mul, e5]
    have hdl : (xs.drop ((i + 1) * sz)).length = (n - (i + 1)) * sz := by rw [List.length_drop, hlen, Nat.sub_mul]
    have e8 : i + (n - (i + 1)) = n - 1 := by omega
    refine ⟨w.setRow g (cur.toList.take (o + i * sz) ++ xs.drop ((i + 1) * sz) ++ cur.toList.drop (o + i * sz + (xs.drop ((i + 1) * sz)).length)).toArray, fun ty c' => ?_, ⟨?_, .inr ⟨g, o, c, _, rfl, hb, setRow_heap w g cur _ e _ hg, h2, h3, ?_, ?_⟩⟩, grownBy_setRow⟩
    · have := run_append_at (P := P) w t ty e i0 ht hi g o i c cur hg a (n - (i + 1)) c' (xs.drop ((i + 1) * sz)) (by rw [hs, hdl]) ha (fun u hu => hx1 u (List.mem_of_mem_drop hu)) (by omega) (by rw [hs, hdl, e7]; omega)
      rw [hs, e8] at this
      exact this
    · simp only [List.length_append, List.length_take, List.length_drop, hlen, e5, e6]
      omega
    · simp only [List.size_toArray, List.length_append, List.length_take, List.length_drop, Array.length_toList, hlen, e5]
      omega
    · have hcl : cur.toList = cur.toList.take o ++ xs ++ cur.toList.drop (o + n * sz) := by
        conv => lhs; rw [← List.take_append_drop o cur.toList, ← List.take_append_drop (n * sz) (cur.toList.drop o), h5]
        rw [List.drop_drop, List.append_assoc]
      have hol : (cur.toList.take o).length = o := by simp; omega
      generalize cur.toList.take o = A at *
      generalize cur.toList.drop (o + n * sz) = C at *
      rw [hcl, hdl, e7, e5, e6]
      subst hol
      have hxs : xs = xs.take (i * sz) ++ xs.drop (i * sz) := (List.take_append_drop _ _).symm
      have t1 : (A ++ xs ++ C).take (A.length + i * sz) = A ++ xs.take (i * sz) := by
        rw [List.append_assoc, List.take_append, List.take_of_length_le (by omega), show A.length + i * sz - A.length = i * sz by omega, List.take_append_of_le_length (by omega)]
      have t2 : (A ++ xs ++ C).drop (A.length + i * sz + (n * sz - (i * sz + sz))) = xs.drop (n * sz - sz) ++ C := by
        rw [List.append_assoc, List.drop_append, List.drop_of_length_le (by omega), List.nil_append, List.drop_append_of_le_length (by omega)]
        congr 2
        omega
      rw [t1, t2]
      show ((A ++ xs.take (i * sz) ++ xs.drop (i * sz + sz) ++ (xs.drop (n * sz - sz) ++ C)).drop A.length).take (n * sz) = _
      rw [List.append_assoc, List.append_assoc, List.drop_left]
      rw [show xs.take (i * sz) ++ (xs.drop (i * sz + sz) ++ (xs.drop (n * sz - sz) ++ C)) = (xs.take (i * sz) ++ xs.drop (i * sz + sz) ++ xs.drop (n * sz - sz)) ++ C by simp]
      rw [List.take_append_of_le_length (by simp; omega), List.take_of_length_le (by simp; omega)]
end Go.Proofs.Ytldonhgcifhpgaa

/- Contract: slices.DeleteFunc at []Tie. -/
namespace Go.Proofs.Ytldonhgcifhpgaa
open Go Go.RowKit




def tieAg (_ : World) (d : Tie) (u : Value) : Prop := u = .agg #[.string d.bond, .int .i64 d.src, .int .i64 d.dst] ∧ d.ok
set_option maxHeartbeats 400000 in
theorem idx_ties (g : Nat) (caps : Array Value) (eg : ∀ args w, (callFunc g args).run Try.prog w = .ok (.enter g args) w) (p : Tie → Bool) (l : List (Tie)) (v : Value) (w : World) (hv : Sl tieL w v l)
    (hp : PredB Try.prog g caps tieAg p w) :
    Calls Try.prog 161 #[v, .func (.func g) #[] caps] w fun e w' => e = .returned (.int .i64 (idxI p l)) ∧ Below w.heap.size w w' := by
  obtain ⟨A, c, rfl, hlc, hcm⟩ := hv.form
  unfold maxLen at hcm
  go_enter Try.func161, Try.ntmps161
  go_wp2_with fail
  go_loopw [8] (fun i wr => ∃ k : Nat, k ≤ l.length ∧ i = .int .i64 k ∧ Below w.heap.size w wr ∧ Hid (∀ j x, j < k → l[j]? = some x → p x = false)) (fun i _ => l.length - (intOf i).toNat)
  case atStart => exact ⟨0, Nat.zero_le _, rfl, Below.refl _ _, fun j x hj => absurd hj (Nat.not_lt_zero _)⟩
  case round =>
    obtain ⟨k, hk, rfl, hb, HA⟩ := hrel
    by_cases hlt : k < l.length
    · obtain ⟨d, hd⟩ : ∃ d, l[k]? = some d := ⟨_, List.getElem?_eq_getElem hlt⟩
      obtain ⟨b, o, rfl, hsm, x0, x1, x2⟩ := tie_at (hv.below hb) hd
      have hcall := hp d _ wr hb ⟨rfl, hsm⟩
      have HD : Hid (l[k]? = some d) := hd
      clear hd hp hv
      cases hq : p d with
      | true =>
        rw [hq] at hcall
        have HQ : Hid (p d = true) := hq
        clear hq
        go_wp2_with (go_at_fn g; refine hcall.mono ?_; rintro e w' ⟨rfl, hb2⟩)
        go_ret
        exact ⟨ret_int (idxI_hit HA.out HD.out HQ.out).symm, hb.trans (hb2.mono hb.size)⟩
      | false =>
        rw [hq] at hcall
        have HQ : Hid (p d = false) := hq
        clear hq
        go_wp2_with (go_at_fn g; refine hcall.mono ?_; rintro e w' ⟨rfl, hb2⟩)
        go_roundw
        case rel => exact ⟨k + 1, by omega, by go_num, hb.trans (hb2.mono hb.size), miss_step HA.out HD.out HQ.out⟩
        case measure => simp [intOf]; omega
    · have hkl : k = l.length := by omega
      subst hkl
      clear hp hv
      go_wp2_with fail
      go_ret
      exact ⟨ret_int (idxI_miss HA.out).symm, hb⟩
theorem del_ties_info : (Try.prog.info? 74).map (fun i => (i.zero, i.size, i.bytes)) = some (some (.agg #[.string .empty, .int .i64 0, .int .i64 0]), 3, 32) := by kernel_rfl
set_option maxRecDepth 100000 in
set_option maxHeartbeats 4000000 in
theorem del_ties_g (g : Nat) (caps : Array Value) (eg : ∀ args w, (callFunc g args).run Try.prog w = .ok (.enter g args) w) (p : Tie → Bool) (l : List Tie) (v : Value) (B : Nat) (w : World) (hB : B ≤ w.heap.size)
    (hown : Own w B 74 3 v l.length (l.flatMap Tie.enc)) (hok : ∀ x ∈ l, x.ok) (hl : l.length ≤ 1000) (hp : PredG Try.prog g caps (fun d u => u = (.agg #[.string d.bond, .int .i64 d.src, .int .i64 d.dst]) ∧ d.ok) p v.ownBlock w) :
    Calls Try.prog 138 #[v, .func (.func g) #[] caps] w fun e w' => ∃ u, e = .returned u ∧ Own w' B 74 3 u (l.filter fun x => !p x).length ((l.filter fun x => !p x).flatMap Tie.enc) ∧ w.grownBy w' v.ownBlock ∧ u.ownBlock = v.ownBlock := by
  obtain ⟨i0, ei, ez, ez1, ez2⟩ := info_parts del_ties_info
  have hidx := idx_ties g caps eg p l _ w (hown.ties hok) (fun x u wx hb hu => hp x u wx (grownBy_below hb _) hu)
  rcases idxI_cases p l with ⟨h1, h2⟩ | ⟨k0, d0, h1, h2, h3⟩
  · rw [h1] at hidx
    obtain ⟨A, c, rfl, hlc, hcm⟩ := hown.form
    have H2 := Lib.hid h2
    have HO := Lib.hid hown
    clear h1 h2 hown hp hok
    go_enter Try.func138, Try.ntmps138
    go_wp2_with (go_at_call 161; refine hidx.mono ?_; rintro e w1 ⟨rfl, hb1⟩)
    go_ret
    exact ⟨_, rfl, by rw [H2.out]; exact HO.out.below hb1, grownBy_below hb1 _, rfl⟩
  · rw [h1] at hidx
    obtain ⟨g0, o0, c, rfl, hBg, hgl⟩ := hown.addr (len_pos h2)
    obtain ⟨_, c', hv, hlc, hcm⟩ := hown.form
    injection hv with hvA hvL hvC
    subst hvC; subst hvA
    clear hvL
    unfold maxLen at hcm
    have HK0 := Lib.hid h3
    have hk0l := (List.getElem?_eq_some_iff.1 h2).1
    have HP := Lib.hid hp
    have HOK := Lib.hid hok
    have HO := Lib.hid hown
    have hkl : (k0 : Int) + 1 ≤ (l.length : Int) := by omega
    have hl2 : (l.length : Int) ≤ 1000 := by omega
    have hne : ((k0 : Int) == -1) = false := beq_eq_false_iff_ne.2 (by omega)
    have hown' : Own w B 74 3 (.slice (some ⟨g0, o0, none⟩) l.length c) l.length (l.flatMap Tie.enc) := hown
    clear h1 h2 h3 hown hp hok
    go_enter Try.func138, Try.ntmps138
    go_wp2_with (go_at_call 161; refine hidx.mono ?_; rintro e w1 ⟨rfl, hb1⟩)
    have ho1 := hown'.below hb1
    have hgb1 : w.grownBy w1 (some g0) := grownBy_below hb1 _
    clear hidx hown'
    go_loopw [5, 6] (fun i j wr => ∃ (a b : Nat) (dk : List Tie), i = .int .i64 a ∧ j = .int .i64 b ∧ a < b ∧ b ≤ l.length ∧ Own wr B 74 3 (.slice (some ⟨g0, o0, none⟩) l.length c) l.length (dk.flatMap Tie.enc) ∧ w.grownBy wr (some g0) ∧ Hid (Kept p l dk b a)) (fun _ j _ => l.length - (intOf j).toNat)
    case atStart => exact ⟨k0, k0 + 1, l, rfl, by go_num, by omega, by omega, ho1, hgb1, HK0.out⟩
    case round =>
      clear ho1 hgb1
      obtain ⟨a, b, dk, rfl, rfl, hab, hbl, hO, hgr, HK⟩ := hrel
      have hdl := HK.out.len
      have hal : (a : Int) < (l.length : Int) := by omega
      have hgrs := hgr.size
      by_cases hlt : b < l.length
      · obtain ⟨d, hd⟩ : ∃ d, l[b]? = some d := ⟨_, List.getElem?_eq_getElem hlt⟩
        obtain ⟨q, hq⟩ : ∃ q, dk[a]? = some q := ⟨_, List.getElem?_eq_getElem (by omega)⟩
        have hdk : dk[b]? = some d := (HK.out.at hlt).trans hd
        have hlt' : (b : Int) < (l.length : Int) := by omega
        have x0 : wr.cell? ⟨g0, o0 + b * 3, none⟩ = some (.string d.bond) := hO.cell (j := b * 3 + 0) rfl (flat_get (j := 0) Tie.enc_len hdk rfl)
        have x1 : wr.cell? ⟨g0, o0 + b * 3 + 1, none⟩ = some (.int .i64 d.src) := hO.cell (j := b * 3 + 1) rfl (flat_get (j := 1) Tie.enc_len hdk rfl)
        have x2 : wr.cell? ⟨g0, o0 + b * 3 + 2, none⟩ = some (.int .i64 d.dst) := hO.cell (j := b * 3 + 2) rfl (flat_get (j := 2) Tie.enc_len hdk rfl)
        obtain ⟨z0, z1, z2⟩ := cell_box3 wr (.string d.bond) (.int .i64 d.src) (.int .i64 d.dst) 74
        have hbx : Below wr.heap.size wr (wr.alloc (.cells #[.string d.bond, .int .i64 d.src, .int .i64 d.dst] 74)) := (Below.refl _ _).alloc (Nat.le_refl _) _
        have hOx := hO.below hbx
        have hgx : w.grownBy (wr.alloc (.cells #[.string d.bond, .int .i64 d.src, .int .i64 d.dst] 74)) (some g0) := hgr.trans (grownBy_below hbx _)
        have hcall := HP.out d (.agg #[.string d.bond, .int .i64 d.src, .int .i64 d.dst]) (wr.alloc (.cells #[.string d.bond, .int .i64 d.src, .int .i64 d.dst] 74)) hgx ⟨rfl, HOK.out d (List.mem_of_getElem? hd)⟩
        have HD := Lib.hid hd
        clear hd hdk hO hgr
        cases hpd : p d with
        | true =>
          rw [hpd] at hcall
          have HN := Lib.hid (HK.out.skip HD.out hpd)
          clear hpd hq
          go_wp2_with (go_at_fn g; refine hcall.mono ?_; rintro e w2 ⟨rfl, hb2⟩)
          have hO2 := hOx.below hb2
          have hg2 := hgx.trans (grownBy_below hb2 (some g0))
          clear hcall hb2 hOx hgx x0 x1 x2 z0 z1 z2
          go_roundw
          case rel => exact ⟨a, b + 1, dk, rfl, by go_num, by omega, by omega, hO2, hg2, HN⟩
          case measure => simp [intOf]; omega
        | false =>
          rw [hpd] at hcall
          have HN := Lib.hid (HK.out.keep HD.out hpd)
          clear hpd
          go_wp2_with (
            (go_at_fn g
             refine hcall.mono ?_
             rintro e w2 ⟨rfl, hb2⟩
             have hO2 := hOx.below hb2
             have hg2 := hgx.trans (grownBy_below hb2 (some g0))
             clear hOx hgx
             have y0 : w2.cell? ⟨g0, o0 + a * 3, none⟩ = some (.string q.bond) := hO2.cell (j := a * 3 + 0) rfl (flat_get (j := 0) Tie.enc_len hq rfl)
             have y1 : w2.cell? ⟨g0, o0 + a * 3 + 1, none⟩ = some (.int .i64 q.src) := hO2.cell (j := a * 3 + 1) rfl (flat_get (j := 1) Tie.enc_len hq rfl)
             have y2 : w2.cell? ⟨g0, o0 + a * 3 + 2, none⟩ = some (.int .i64 q.dst) := hO2.cell (j := a * 3 + 2) rfl (flat_get (j := 2) Tie.enc_len hq rfl)
             have f0 : w2.frozen? ⟨g0, o0 + a * 3, none⟩ = false := hO2.frozen rfl _
             have f1 : w2.frozen? ⟨g0, o0 + a * 3 + 1, none⟩ = false := hO2.frozen rfl _
             have f2 : w2.frozen? ⟨g0, o0 + a * 3 + 2, none⟩ = false := hO2.frozen rfl _
             have b0 := cell_below hb2 z0
             have b1 := cell_below hb2 z1
             have b2 := cell_below hb2 z2
             have ho3 := (((hO2.store (a * 3) (by omega) (.string d.bond)).store (a * 3 + 1) (by omega) (.int .i64 d.src)).store (a * 3 + 2) (by omega) (.int .i64 d.dst))
             have HO3 : Hid (Own (((w2.setCell ⟨g0, o0 + a * 3, none⟩ (.string d.bond)).setCell ⟨g0, o0 + a * 3 + 1, none⟩ (.int .i64 d.src)).setCell ⟨g0, o0 + a * 3 + 2, none⟩ (.int .i64 d.dst)) B 74 3 (.slice (some ⟨g0, o0, none⟩) l.length c) l.length ((dk.set a d).flatMap Tie.enc)) := by
               rw [← flat_set Tie.enc_len dk a d (by omega)]; exact ho3
             have HG3 : Hid (w.grownBy (((w2.setCell ⟨g0, o0 + a * 3, none⟩ (.string d.bond)).setCell ⟨g0, o0 + a * 3 + 1, none⟩ (.int .i64 d.src)).setCell ⟨g0, o0 + a * 3 + 2, none⟩ (.int .i64 d.dst)) (some g0)) := (((hg2.trans (grownBy_setCell_q _ ⟨g0, o0 + a * 3, none⟩ _)).trans (grownBy_setCell_q _ ⟨g0, o0 + a * 3 + 1, none⟩ _)).trans (grownBy_setCell_q _ ⟨g0, o0 + a * 3 + 2, none⟩ _))
             clear ho3 hO2 hg2 z0 z1 z2
             skip)
            )
          go_roundw
          case rel => exact ⟨a + 1, b + 1, dk.set a d, by go_num, by go_num, by omega, by omega, HO3.out, HG3.out, HN⟩
          case measure => simp [intOf]; omega
      · obtain rfl : b = l.length := by omega
        obtain ⟨hd1, hd2⟩ := HK.out.done
        obtain ⟨w9, hr9, ho9, hg9⟩ := hO.clear (P := Try.prog) 68 i0 (.agg #[.string .empty, .int .i64 0, .int .i64 0]) 3 Try.underlying68 ei ez rfl (by kernel_rfl) (by decide) (show a < l.length by omega)
        have HG9 := Lib.hid (hgr.trans hg9)
        have HO9 : Hid (Own w9 B 74 3 (.slice (some ⟨g0, o0, none⟩) a c) (l.filter fun x => !p x).length ((l.filter fun x => !p x).flatMap Tie.enc)) := by
          unfold Hid
          rw [hd2, ← hd1, ← flat_take Tie.enc_len dk a (by omega)]
          exact ho9
        have hca : ¬ c = a := by omega
        have hac : (a : Int) ≤ (c : Int) := by omega
        clear hd1 hd2 ho9 hg9 hO hgr
        go_wp2_with (at_builtin; refine wpList_clear_q _ rfl (.tmp 38) _ rfl _ rfl (hr9 _ _) ?_)
        go_ret
        exact ⟨_, rfl, HO9.out, HG9.out, rfl⟩
theorem del_ties (g : Nat) (caps : Array Value) (eg : ∀ args w, (callFunc g args).run Try.prog w = .ok (.enter g args) w) (p : Tie → Bool) (l : List Tie) (v : Value) (B : Nat) (w : World) (hB : B ≤ w.heap.size)
    (hown : Own w B 74 3 v l.length (l.flatMap Tie.enc)) (hok : ∀ x ∈ l, x.ok) (hl : l.length ≤ 1000) (hp : PredO Try.prog g caps (fun d u => u = (.agg #[.string d.bond, .int .i64 d.src, .int .i64 d.dst]) ∧ d.ok) p B w) :
    Calls Try.prog 138 #[v, .func (.func g) #[] caps] w fun e w' => ∃ u, e = .returned u ∧ Own w' B 74 3 u (l.filter fun x => !p x).length ((l.filter fun x => !p x).flatMap Tie.enc) ∧ w.grownBy w' v.ownBlock ∧ u.ownBlock = v.ownBlock :=
  del_ties_g g caps eg p l v B w hB hown hok hl (fun x u wx hgw hu => hp x u wx ((Below.refl B w).grown hgw hB (fun k e => (hown.lt k e).1)) hu)
end Go.Proofs.Ytldonhgcifhpgaa

/- Contracts: slices.Delete of one node, of one tie, of one property. -/
namespace Go.Proofs.Ytldonhgcifhpgaa
open Go Go.RowKit

theorem wp_append_z {P : Program} (w : World) {o : Oper} {a : Act} {K : Act → World → Prop} {Q : Exit → Act → World → Prop} (s x : Operand) (t tn : TypeId)
    (ho : o.op = .call { callee := .builtin .append, args := #[s, x], argTypes := #[t, tn] }) (v u : Value) (hs : a.eval s = v) (hx : a.eval x = u) {v' : Value} {w' : World}
    (hr : (Builtin.append_ #[t, tn] o.type #[v, u]).run P w = .ok v' w') (h : K (a.put o.dst v') w') : o.wp P a w K Q := by
  unfold Oper.wp execOp
  simp only [ho, resolve, invoke, builtin, Sem.run_bind, Sem.run_pure, Result.andThen_ok, List.map_toArray, List.map_cons, List.map_nil, hs, hx, hr]
  exact h


set_option maxRecDepth 100000 in
set_option maxHeartbeats 8000000 in
theorem del1_nods (w : World) (B : Nat) (v : Value) (m : Nat) (xs : List Value) (hown : Own w B 72 3 v (m + 1) xs) (i : Nat) (hi : i ≤ m) (hx1 : ∀ u ∈ xs, u.oneCell' = true) (hm : m ≤ 1000000) :
    Calls Try.prog 137 #[v, .int .i64 i, .int .i64 ((i : Int) + 1)] w fun e w' => ∃ u, e = .returned u ∧ Own w' B 72 3 u m (xs.take (i * 3) ++ xs.drop ((i + 1) * 3)) ∧ w.grownBy w' v.ownBlock ∧ u.ownBlock = v.ownBlock := by
  obtain ⟨i0, ei, ez, ez1, ez2⟩ := info_parts clone_nods_info
  obtain ⟨g, o, c, rfl, hBg, hgl⟩ := hown.addr (by omega)
  obtain ⟨_, c', hv, hmc, hcm⟩ := hown.form
  injection hv with hvA hvL hvC
  subst hvC
  clear hvL hvA
  unfold maxLen at hcm
  have hlen := hown.1
  have e1 : xs.take (i * 3) ++ xs.drop ((i + 1) * 3) = (xs.take (i * 3) ++ xs.drop ((i + 1) * 3) ++ xs.drop ((m + 1 - 1) * 3)).take (m * 3) :=
    (List.take_left' (by rw [List.length_append, List.length_take, List.length_drop, hlen]; omega)).symm
  have hfin : ∀ w1, Own w1 B 72 3 (.slice (some ⟨g, o, none⟩) (m + 1) c) (m + 1) (xs.take (i * 3) ++ xs.drop ((i + 1) * 3) ++ xs.drop ((m + 1 - 1) * 3)) → w.grownBy w1 (some g) →
      ∃ w9, (∀ ty c', (Builtin.clear_ #[67] ty #[.slice (some ⟨g, o + m * 3, none⟩) 1 c']).run Try.prog w1 = .ok (.tuple #[]) w9) ∧ Own w9 B 72 3 (.slice (some ⟨g, o, none⟩) m c) m (xs.take (i * 3) ++ xs.drop ((i + 1) * 3)) ∧ w.grownBy w9 (some g) := fun w1 h1 h2 => by
    obtain ⟨w9, hr9, ho9, hg9⟩ := h1.clear (P := Try.prog) (i := m) 67 i0 (.agg #[.int .i64 0, .string .empty, .slice none 0 0]) 3 Try.underlying67 ei ez rfl (by kernel_rfl) (by decide) (by omega)
    rw [show m + 1 - m = 1 by omega] at hr9
    rw [← e1] at ho9
    exact ⟨w9, hr9, ho9, h2.trans hg9⟩
  have HF := Lib.hid hfin
  have hne : ((i : Int) == (i : Int) + 1) = false := beq_eq_false_iff_ne.2 (by omega)
  have hi' : (i : Int) ≤ (m : Int) := by omega
  have hm' : (m : Int) ≤ 1000000 := by omega
  have hmc' : (m : Int) + 1 ≤ (c : Int) := by omega
  have hcm' : ¬ c = m := by omega
  have hgd : ∀ nq, w.grownBy (w.drewN nq) (some g) := fun nq => (grownBy_refl w _).drawnN nq
  by_cases hc : c = i + 1
  · have him : m = i := by omega
    have hsh : ∀ nq, ∃ w1, (∀ ty c', (Builtin.append_ #[67, 67] ty #[.slice (some ⟨g, o, none⟩) i c, .slice (some ⟨g, o, none⟩) 0 c']).run Try.prog (w.drewN nq) = .ok (.slice (some ⟨g, o, none⟩) m c) w1) ∧
        Own w1 B 72 3 (.slice (some ⟨g, o, none⟩) (m + 1) c) (m + 1) (xs.take (i * 3) ++ xs.drop ((i + 1) * 3) ++ xs.drop ((m + 1 - 1) * 3)) ∧ w.grownBy w1 (some g) := fun nq => by
      obtain ⟨w1, hr1, ho1, hg1⟩ := (hown.drewN nq).shift (P := Try.prog) 67 i0 Try.underlying67 ei ez1 hx1 (show i < m + 1 by omega) ⟨g, o, none⟩ (fun j u hj => by
        rw [List.drop_of_length_le (by rw [hlen, him]; exact Nat.le_refl _)] at hj; simp at hj)
      rw [show m + 1 - (i + 1) = 0 by omega, show m + 1 - 1 = m by omega] at hr1
      exact ⟨w1, hr1, ho1, (hgd nq).trans hg1⟩
    have HSH := Lib.hid hsh
    subst him
    subst hc
    clear hown hx1 hfin hsh hgd e1 hlen ei ez ez1 ez2
    go_enter Try.func137, Try.ntmps137
    go_wp2_with fail
    refine wp_mid_k 6 _ rfl rfl (by kernel_rfl) (by kernel_rfl) ?_
    simp only [List.take_succ_cons, List.take_zero, List.drop_succ_cons, List.drop_zero]
    repeat (go_big_quiet_step (fail))
    refine wpQuiet_nil ?_
    intro _ hw'
    obtain ⟨nq, hw''⟩ := hw'
    subst hw''
    intro K hK
    obtain ⟨w1, hr1, ho1, hg1⟩ := HSH.out nq
    refine wp_append_z _ (.tmp 22) (.tmp 25) _ _ rfl _ _ rfl rfl (hr1 _ _) ?_
    refine hK _ _ ?_
    go_frame
    repeat (go_big_quiet_step (fail))
    refine wpQuiet_nil ?_
    intro _ hw'
    obtain ⟨nq2, hw''⟩ := hw'
    subst hw''
    clear hK
    obtain ⟨w9, hr9, ho9, hg9⟩ := HF.out (w1.drewN nq2) (ho1.drewN nq2) (hg1.drawnN nq2)
    clear hr1 ho1 hg1
    go_wp2_with (at_builtin; refine wpList_clear_q _ rfl (.tmp 31) _ rfl _ rfl (hr9 _ _) ?_)
    go_ret
    exact ⟨_, rfl, ho9, hg9, rfl⟩
  · have hsh : ∀ nq, ∃ w1, (∀ ty c', (Builtin.append_ #[67, 67] ty #[.slice (some ⟨g, o, none⟩) i c, .slice (some ⟨g, o + (i + 1) * 3, none⟩) (m - i) c']).run Try.prog (w.drewN nq) = .ok (.slice (some ⟨g, o, none⟩) m c) w1) ∧
        Own w1 B 72 3 (.slice (some ⟨g, o, none⟩) (m + 1) c) (m + 1) (xs.take (i * 3) ++ xs.drop ((i + 1) * 3) ++ xs.drop ((m + 1 - 1) * 3)) ∧ w.grownBy w1 (some g) := fun nq => by
      obtain ⟨w1, hr1, ho1, hg1⟩ := (hown.drewN nq).shift (P := Try.prog) 67 i0 Try.underlying67 ei ez1 hx1 (show i < m + 1 by omega) ⟨g, o + (i + 1) * 3, none⟩ (fun j u hj => by
        rw [addr_add, Nat.add_assoc]
        rw [List.getElem?_drop] at hj
        exact (hown.drewN nq).cell rfl hj)
      rw [show m + 1 - (i + 1) = m - i by omega, show m + 1 - 1 = m by omega] at hr1
      exact ⟨w1, hr1, ho1, (hgd nq).trans hg1⟩
    have HSH := Lib.hid hsh
    clear hown hx1 hfin hsh hgd e1 hlen ei ez ez1 ez2
    go_enter Try.func137, Try.ntmps137
    go_wp2_with fail
    refine wp_mid_k 6 _ rfl rfl (by kernel_rfl) (by kernel_rfl) ?_
    simp only [List.take_succ_cons, List.take_zero, List.drop_succ_cons, List.drop_zero]
    repeat (go_big_quiet_step (fail))
    refine wpQuiet_nil ?_
    intro _ hw'
    obtain ⟨nq, hw''⟩ := hw'
    subst hw''
    intro K hK
    obtain ⟨w1, hr1, ho1, hg1⟩ := HSH.out nq
    refine wp_append_z _ (.tmp 22) (.tmp 25) _ _ rfl _ _ rfl rfl (hr1 _ _) ?_
    refine hK _ _ ?_
    go_frame
    repeat (go_big_quiet_step (fail))
    refine wpQuiet_nil ?_
    intro _ hw'
    obtain ⟨nq2, hw''⟩ := hw'
    subst hw''
    clear hK
    obtain ⟨w9, hr9, ho9, hg9⟩ := HF.out (w1.drewN nq2) (ho1.drewN nq2) (hg1.drawnN nq2)
    clear hr1 ho1 hg1
    go_wp2_with (at_builtin; refine wpList_clear_q _ rfl (.tmp 31) _ rfl _ rfl (hr9 _ _) ?_)
    go_ret
    exact ⟨_, rfl, ho9, hg9, rfl⟩
set_option maxRecDepth 100000 in
set_option maxHeartbeats 8000000 in
theorem del1_ties (w : World) (B : Nat) (v : Value) (m : Nat) (xs : List Value) (hown : Own w B 74 3 v (m + 1) xs) (i : Nat) (hi : i ≤ m) (hx1 : ∀ u ∈ xs, u.oneCell' = true) (hm : m ≤ 1000000) :
    Calls Try.prog 142 #[v, .int .i64 i, .int .i64 ((i : Int) + 1)] w fun e w' => ∃ u, e = .returned u ∧ Own w' B 74 3 u m (xs.take (i * 3) ++ xs.drop ((i + 1) * 3)) ∧ w.grownBy w' v.ownBlock ∧ u.ownBlock = v.ownBlock := by
  obtain ⟨i0, ei, ez, ez1, ez2⟩ := info_parts clone_ties_info
  obtain ⟨g, o, c, rfl, hBg, hgl⟩ := hown.addr (by omega)
  obtain ⟨_, c', hv, hmc, hcm⟩ := hown.form
  injection hv with hvA hvL hvC
  subst hvC
  clear hvL hvA
  unfold maxLen at hcm
  have hlen := hown.1
  have e1 : xs.take (i * 3) ++ xs.drop ((i + 1) * 3) = (xs.take (i * 3) ++ xs.drop ((i + 1) * 3) ++ xs.drop ((m + 1 - 1) * 3)).take (m * 3) :=
    (List.take_left' (by rw [List.length_append, List.length_take, List.length_drop, hlen]; omega)).symm
  have hfin : ∀ w1, Own w1 B 74 3 (.slice (some ⟨g, o, none⟩) (m + 1) c) (m + 1) (xs.take (i * 3) ++ xs.drop ((i + 1) * 3) ++ xs.drop ((m + 1 - 1) * 3)) → w.grownBy w1 (some g) →
      ∃ w9, (∀ ty c', (Builtin.clear_ #[68] ty #[.slice (some ⟨g, o + m * 3, none⟩) 1 c']).run Try.prog w1 = .ok (.tuple #[]) w9) ∧ Own w9 B 74 3 (.slice (some ⟨g, o, none⟩) m c) m (xs.take (i * 3) ++ xs.drop ((i + 1) * 3)) ∧ w.grownBy w9 (some g) := fun w1 h1 h2 => by
    obtain ⟨w9, hr9, ho9, hg9⟩ := h1.clear (P := Try.prog) (i := m) 68 i0 (.agg #[.string .empty, .int .i64 0, .int .i64 0]) 3 Try.underlying68 ei ez rfl (by kernel_rfl) (by decide) (by omega)
    rw [show m + 1 - m = 1 by omega] at hr9
    rw [← e1] at ho9
    exact ⟨w9, hr9, ho9, h2.trans hg9⟩
  have HF := Lib.hid hfin
  have hne : ((i : Int) == (i : Int) + 1) = false := beq_eq_false_iff_ne.2 (by omega)
  have hi' : (i : Int) ≤ (m : Int) := by omega
  have hm' : (m : Int) ≤ 1000000 := by omega
  have hmc' : (m : Int) + 1 ≤ (c : Int) := by omega
  have hcm' : ¬ c = m := by omega
  have hgd : ∀ nq, w.grownBy (w.drewN nq) (some g) := fun nq => (grownBy_refl w _).drawnN nq
  by_cases hc : c = i + 1
  · have him : m = i := by omega
    have hsh : ∀ nq, ∃ w1, (∀ ty c', (Builtin.append_ #[68, 68] ty #[.slice (some ⟨g, o, none⟩) i c, .slice (some ⟨g, o, none⟩) 0 c']).run Try.prog (w.drewN nq) = .ok (.slice (some ⟨g, o, none⟩) m c) w1) ∧
        Own w1 B 74 3 (.slice (some ⟨g, o, none⟩) (m + 1) c) (m + 1) (xs.take (i * 3) ++ xs.drop ((i + 1) * 3) ++ xs.drop ((m + 1 - 1) * 3)) ∧ w.grownBy w1 (some g) := fun nq => by
      obtain ⟨w1, hr1, ho1, hg1⟩ := (hown.drewN nq).shift (P := Try.prog) 68 i0 Try.underlying68 ei ez1 hx1 (show i < m + 1 by omega) ⟨g, o, none⟩ (fun j u hj => by
        rw [List.drop_of_length_le (by rw [hlen, him]; exact Nat.le_refl _)] at hj; simp at hj)
      rw [show m + 1 - (i + 1) = 0 by omega, show m + 1 - 1 = m by omega] at hr1
      exact ⟨w1, hr1, ho1, (hgd nq).trans hg1⟩
    have HSH := Lib.hid hsh
    subst him
    subst hc
    clear hown hx1 hfin hsh hgd e1 hlen ei ez ez1 ez2
    go_enter Try.func142, Try.ntmps142
    go_wp2_with fail
    refine wp_mid_k 6 _ rfl rfl (by kernel_rfl) (by kernel_rfl) ?_
    simp only [List.take_succ_cons, List.take_zero, List.drop_succ_cons, List.drop_zero]
    repeat (go_big_quiet_step (fail))
    refine wpQuiet_nil ?_
    intro _ hw'
    obtain ⟨nq, hw''⟩ := hw'
    subst hw''
    intro K hK
    obtain ⟨w1, hr1, ho1, hg1⟩ := HSH.out nq
    refine wp_append_z _ (.tmp 22) (.tmp 25) _ _ rfl _ _ rfl rfl (hr1 _ _) ?_
    refine hK _ _ ?_
    go_frame
    repeat (go_big_quiet_step (fail))
    refine wpQuiet_nil ?_
    intro _ hw'
    obtain ⟨nq2, hw''⟩ := hw'
    subst hw''
    clear hK
    obtain ⟨w9, hr9, ho9, hg9⟩ := HF.out (w1.drewN nq2) (ho1.drewN nq2) (hg1.drawnN nq2)
    clear hr1 ho1 hg1
    go_wp2_with (at_builtin; refine wpList_clear_q _ rfl (.tmp 31) _ rfl _ rfl (hr9 _ _) ?_)
    go_ret
    exact ⟨_, rfl, ho9, hg9, rfl⟩
  · have hsh : ∀ nq, ∃ w1, (∀ ty c', (Builtin.append_ #[68, 68] ty #[.slice (some ⟨g, o, none⟩) i c, .slice (some ⟨g, o + (i + 1) * 3, none⟩) (m - i) c']).run Try.prog (w.drewN nq) = .ok (.slice (some ⟨g, o, none⟩) m c) w1) ∧
        Own w1 B 74 3 (.slice (some ⟨g, o, none⟩) (m + 1) c) (m + 1) (xs.take (i * 3) ++ xs.drop ((i + 1) * 3) ++ xs.drop ((m + 1 - 1) * 3)) ∧ w.grownBy w1 (some g) := fun nq => by
      obtain ⟨w1, hr1, ho1, hg1⟩ := (hown.drewN nq).shift (P := Try.prog) 68 i0 Try.underlying68 ei ez1 hx1 (show i < m + 1 by omega) ⟨g, o + (i + 1) * 3, none⟩ (fun j u hj => by
        rw [addr_add, Nat.add_assoc]
        rw [List.getElem?_drop] at hj
        exact (hown.drewN nq).cell rfl hj)
      rw [show m + 1 - (i + 1) = m - i by omega, show m + 1 - 1 = m by omega] at hr1
      exact ⟨w1, hr1, ho1, (hgd nq).trans hg1⟩
    have HSH := Lib.hid hsh
    clear hown hx1 hfin hsh hgd e1 hlen ei ez ez1 ez2
    go_enter Try.func142, Try.ntmps142
    go_wp2_with fail
    refine wp_mid_k 6 _ rfl rfl (by kernel_rfl) (by kernel_rfl) ?_
    simp only [List.take_succ_cons, List.take_zero, List.drop_succ_cons, List.drop_zero]
    repeat (go_big_quiet_step (fail))
    refine wpQuiet_nil ?_
    intro _ hw'
    obtain ⟨nq, hw''⟩ := hw'
    subst hw''
    intro K hK
    obtain ⟨w1, hr1, ho1, hg1⟩ := HSH.out nq
    refine wp_append_z _ (.tmp 22) (.tmp 25) _ _ rfl _ _ rfl rfl (hr1 _ _) ?_
    refine hK _ _ ?_
    go_frame
    repeat (go_big_quiet_step (fail))
    refine wpQuiet_nil ?_
    intro _ hw'
    obtain ⟨nq2, hw''⟩ := hw'
    subst hw''
    clear hK
    obtain ⟨w9, hr9, ho9, hg9⟩ := HF.out (w1.drewN nq2) (ho1.drewN nq2) (hg1.drawnN nq2)
    clear hr1 ho1 hg1
    go_wp2_with (at_builtin; refine wpList_clear_q _ rfl (.tmp 31) _ rfl _ rfl (hr9 _ _) ?_)
    go_ret
    exact ⟨_, rfl, ho9, hg9, rfl⟩
set_option maxRecDepth 100000 in
set_option maxHeartbeats 8000000 in
theorem del1_prps (w : World) (B : Nat) (v : Value) (m : Nat) (xs : List Value) (hown : Own w B 48 4 v (m + 1) xs) (i : Nat) (hi : i ≤ m) (hx1 : ∀ u ∈ xs, u.oneCell' = true) (hm : m ≤ 1000000) :
    Calls Try.prog 140 #[v, .int .i64 i, .int .i64 ((i : Int) + 1)] w fun e w' => ∃ u, e = .returned u ∧ Own w' B 48 4 u m (xs.take (i * 4) ++ xs.drop ((i + 1) * 4)) ∧ w.grownBy w' v.ownBlock ∧ u.ownBlock = v.ownBlock := by
  obtain ⟨i0, ei, ez, ez1, ez2⟩ := info_parts clone_prps_info
  obtain ⟨g, o, c, rfl, hBg, hgl⟩ := hown.addr (by omega)
  obtain ⟨_, c', hv, hmc, hcm⟩ := hown.form
  injection hv with hvA hvL hvC
  subst hvC
  clear hvL hvA
  unfold maxLen at hcm
  have hlen := hown.1
  have e1 : xs.take (i * 4) ++ xs.drop ((i + 1) * 4) = (xs.take (i * 4) ++ xs.drop ((i + 1) * 4) ++ xs.drop ((m + 1 - 1) * 4)).take (m * 4) :=
    (List.take_left' (by rw [List.length_append, List.length_take, List.length_drop, hlen]; omega)).symm
  have hfin : ∀ w1, Own w1 B 48 4 (.slice (some ⟨g, o, none⟩) (m + 1) c) (m + 1) (xs.take (i * 4) ++ xs.drop ((i + 1) * 4) ++ xs.drop ((m + 1 - 1) * 4)) → w.grownBy w1 (some g) →
      ∃ w9, (∀ ty c', (Builtin.clear_ #[50] ty #[.slice (some ⟨g, o + m * 4, none⟩) 1 c']).run Try.prog w1 = .ok (.tuple #[]) w9) ∧ Own w9 B 48 4 (.slice (some ⟨g, o, none⟩) m c) m (xs.take (i * 4) ++ xs.drop ((i + 1) * 4)) ∧ w.grownBy w9 (some g) := fun w1 h1 h2 => by
    obtain ⟨w9, hr9, ho9, hg9⟩ := h1.clear (P := Try.prog) (i := m) 50 i0 (.agg #[.string .empty, .int .i64 0, .int .i64 0, .string .empty]) 4 Try.underlying50 ei ez rfl (by kernel_rfl) (by decide) (by omega)
    rw [show m + 1 - m = 1 by omega] at hr9
    rw [← e1] at ho9
    exact ⟨w9, hr9, ho9, h2.trans hg9⟩
  have HF := Lib.hid hfin
  have hne : ((i : Int) == (i : Int) + 1) = false := beq_eq_false_iff_ne.2 (by omega)
  have hi' : (i : Int) ≤ (m : Int) := by omega
  have hm' : (m : Int) ≤ 1000000 := by omega
  have hmc' : (m : Int) + 1 ≤ (c : Int) := by omega
  have hcm' : ¬ c = m := by omega
  have hgd : ∀ nq, w.grownBy (w.drewN nq) (some g) := fun nq => (grownBy_refl w _).drawnN nq
  by_cases hc : c = i + 1
  · have him : m = i := by omega
    have hsh : ∀ nq, ∃ w1, (∀ ty c', (Builtin.append_ #[50, 50] ty #[.slice (some ⟨g, o, none⟩) i c, .slice (some ⟨g, o, none⟩) 0 c']).run Try.prog (w.drewN nq) = .ok (.slice (some ⟨g, o, none⟩) m c) w1) ∧
        Own w1 B 48 4 (.slice (some ⟨g, o, none⟩) (m + 1) c) (m + 1) (xs.take (i * 4) ++ xs.drop ((i + 1) * 4) ++ xs.drop ((m + 1 - 1) * 4)) ∧ w.grownBy w1 (some g) := fun nq => by
      obtain ⟨w1, hr1, ho1, hg1⟩ := (hown.drewN nq).shift (P := Try.prog) 50 i0 Try.underlying50 ei ez1 hx1 (show i < m + 1 by omega) ⟨g, o, none⟩ (fun j u hj => by
        rw [List.drop_of_length_le (by rw [hlen, him]; exact Nat.le_refl _)] at hj; simp at hj)
      rw [show m + 1 - (i + 1) = 0 by omega, show m + 1 - 1 = m by omega] at hr1
      exact ⟨w1, hr1, ho1, (hgd nq).trans hg1⟩
    have HSH := Lib.hid hsh
    subst him
    subst hc
    clear hown hx1 hfin hsh hgd e1 hlen ei ez ez1 ez2
    go_enter Try.func140, Try.ntmps140
    go_wp2_with fail
    refine wp_mid_k 6 _ rfl rfl (by kernel_rfl) (by kernel_rfl) ?_
    simp only [List.take_succ_cons, List.take_zero, List.drop_succ_cons, List.drop_zero]
    repeat (go_big_quiet_step (fail))
    refine wpQuiet_nil ?_
    intro _ hw'
    obtain ⟨nq, hw''⟩ := hw'
    subst hw''
    intro K hK
    obtain ⟨w1, hr1, ho1, hg1⟩ := HSH.out nq
    refine wp_append_z _ (.tmp 22) (.tmp 25) _ _ rfl _ _ rfl rfl (hr1 _ _) ?_
    refine hK _ _ ?_
    go_frame
    repeat (go_big_quiet_step (fail))
    refine wpQuiet_nil ?_
    intro _ hw'
    obtain ⟨nq2, hw''⟩ := hw'
    subst hw''
    clear hK
    obtain ⟨w9, hr9, ho9, hg9⟩ := HF.out (w1.drewN nq2) (ho1.drewN nq2) (hg1.drawnN nq2)
    clear hr1 ho1 hg1
    go_wp2_with (at_builtin; refine wpList_clear_q _ rfl (.tmp 31) _ rfl _ rfl (hr9 _ _) ?_)
    go_ret
    exact ⟨_, rfl, ho9, hg9, rfl⟩
  · have hsh : ∀ nq, ∃ w1, (∀ ty c', (Builtin.append_ #[50, 50] ty #[.slice (some ⟨g, o, none⟩) i c, .slice (some ⟨g, o + (i + 1) * 4, none⟩) (m - i) c']).run Try.prog (w.drewN nq) = .ok (.slice (some ⟨g, o, none⟩) m c) w1) ∧
        Own w1 B 48 4 (.slice (some ⟨g, o, none⟩) (m + 1) c) (m + 1) (xs.take (i * 4) ++ xs.drop ((i + 1) * 4) ++ xs.drop ((m + 1 - 1) * 4)) ∧ w.grownBy w1 (some g) := fun nq => by
      obtain ⟨w1, hr1, ho1, hg1⟩ := (hown.drewN nq).shift (P := Try.prog) 50 i0 Try.underlying50 ei ez1 hx1 (show i < m + 1 by omega) ⟨g, o + (i + 1) * 4, none⟩ (fun j u hj => by
        rw [addr_add, Nat.add_assoc]
        rw [List.getElem?_drop] at hj
        exact (hown.drewN nq).cell rfl hj)
      rw [show m + 1 - (i + 1) = m - i by omega, show m + 1 - 1 = m by omega] at hr1
      exact ⟨w1, hr1, ho1, (hgd nq).trans hg1⟩
    have HSH := Lib.hid hsh
    clear hown hx1 hfin hsh hgd e1 hlen ei ez ez1 ez2
    go_enter Try.func140, Try.ntmps140
    go_wp2_with fail
    refine wp_mid_k 6 _ rfl rfl (by kernel_rfl) (by kernel_rfl) ?_
    simp only [List.take_succ_cons, List.take_zero, List.drop_succ_cons, List.drop_zero]
    repeat (go_big_quiet_step (fail))
    refine wpQuiet_nil ?_
    intro _ hw'
    obtain ⟨nq, hw''⟩ := hw'
    subst hw''
    intro K hK
    obtain ⟨w1, hr1, ho1, hg1⟩ := HSH.out nq
    refine wp_append_z _ (.tmp 22) (.tmp 25) _ _ rfl _ _ rfl rfl (hr1 _ _) ?_
    refine hK _ _ ?_
    go_frame
    repeat (go_big_quiet_step (fail))
    refine wpQuiet_nil ?_
    intro _ hw'
    obtain ⟨nq2, hw''⟩ := hw'
    subst hw''
    clear hK
    obtain ⟨w9, hr9, ho9, hg9⟩ := HF.out (w1.drewN nq2) (ho1.drewN nq2) (hg1.drawnN nq2)
    clear hr1 ho1 hg1
    go_wp2_with (at_builtin; refine wpList_clear_q _ rfl (.tmp 31) _ rfl _ rfl (hr9 _ _) ?_)
    go_ret
    exact ⟨_, rfl, ho9, hg9, rfl⟩
end Go.Proofs.Ytldonhgcifhpgaa
