/- Contract: rows.Pick. -/
import Derived.Test.YtdfeloeainabjaaDoorRowsA
import Derived.Test.YtdfeloeainabjaaDoorDelB
import Derived.Test.YtdfeloeainabjaaDoorGrC
namespace Go.Proofs.YtdfeloeainabjaaDoor
open Go Go.RowKit


theorem fhas_some {l : List Nod} {id : Int} (h : fhas l id = true) : ∃ n, l[fpos l id]? = some n := by
  unfold fhas eqAt at h
  cases hd : l[fpos l id]? with
  | none => rw [hd] at h; simp at h
  | some d => exact ⟨d, rfl⟩
def rowAt (row : List Int) (at' : Int) : Int := (row[at'.toNat]?).getD 0
def pickRowE (g : Grf) (at' : Int) (row : List Int) : Int := if at' < 0 ∨ (row.length : Int) ≤ at' then 1 else if fhas g.nodes (rowAt row at') then 0 else 5
def namesE : Option ByteArray → List ByteArray → Int
  | _, [] => 0
  | p, s :: r => if nameE s = 0 then (if (match p with | some q => !ltS q s | none => false) then 7 else namesE (some s) r) else nameE s
theorem namesE_cons (p : Option ByteArray) (s : ByteArray) (r : List ByteArray) : namesE p (s :: r) = if nameE s = 0 then (if (match p with | some q => !ltS q s | none => false) then 7 else namesE (some s) r) else nameE s := by cases p <;> rfl
def pickE (g : Grf) (rows : List (List Int)) (at' : Int) (names : List ByteArray) : Int :=
  if grfE g = 0 then (if 200 < rows.length then 4 else if firstE (pickRowE g at') rows = 0 then namesE none names else firstE (pickRowE g at') rows) else grfE g
def pickOne (g : Grf) (at' : Int) (names : List ByteArray) (row : List Int) : List Prp :=
  match g.nodes[fpos g.nodes (rowAt row at')]? with
  | some n => n.props.filter (fun p => names.any fun y => decide (p.name = y))
  | none => []
def pickR (g : Grf) (rows : List (List Int)) (at' : Int) (names : List ByteArray) : List (List Prp) := if pickE g rows at' names = 0 then rows.map (pickOne g at' names) else []

theorem pick_at {g : Grf} {at' : Int} {row : List Int} (h : pickRowE g at' row = 0) : ∃ p : Nat, at' = p ∧ p < row.length ∧ ∃ id, row[p]? = some id ∧ rowAt row at' = id ∧ fhas g.nodes id = true := by
  unfold pickRowE at h
  split at h
  · omega
  · rename_i h1
    split at h
    · rename_i h2
      obtain ⟨p, rfl⟩ : ∃ p : Nat, at' = p := ⟨at'.toNat, by omega⟩
      have hp : p < row.length := by omega
      have e : rowAt row (p : Int) = row[p] := by unfold rowAt; rw [Int.toNat_natCast, List.getElem?_eq_getElem hp]; rfl
      exact ⟨p, rfl, hp, row[p], List.getElem?_eq_getElem hp, e, by rw [← e]; exact h2⟩
    · omega
theorem nod_rec {n : Nod} (h : nodE n = 0) : recE n.props = 0 := by
  unfold nodE at h
  split at h
  · omega
  · split at h
    · exact h
    · rename_i h2; exact absurd h h2
theorem pick1_any (names : List ByteArray) (d : Prp) (bk : Nat) (vn : Value) (w : World) (hc : w.cell? ⟨bk, 0, none⟩ = some vn) (hv : Sl strL w vn names) :
    Calls Tryd.prog 44 #[.agg #[.string d.name, .int .i64 d.v.ty, .int .i64 d.v.n, .string d.v.s], .pointer (some ⟨bk, 0, none⟩)] w fun e w' => e = .returned (.bool (!(names.any fun y => decide (d.name = y)))) ∧ Below w.heap.size w w' := by
  have hb0 : Below w.heap.size w (w.alloc (.cells #[.string d.name, .int .i64 d.v.ty, .int .i64 d.v.n, .string d.v.s] 43)) := (Below.refl _ _).alloc (Nat.le_refl _) _
  have hcall := containsStr_any names d.name vn _ (hv.below hb0)
  have hc2 := cell_below hb0 hc
  obtain ⟨A, c, rfl, _, _⟩ := hv.form
  clear hv
  generalize (names.any fun y => decide (d.name = y)) = q at *
  go_enter Tryd.func44, Tryd.ntmps44
  go_wp2_with (go_at_call 45; refine hcall.mono ?_; rintro e w' ⟨rfl, rfl⟩)
  go_ret
  exact ⟨rfl, hb0⟩

/-- Records of which each one is the call's own. -/
def OwnRecs (w : World) (B : Nat) : List (List Prp) → List Value → Prop
  | [], xs => xs = []
  | r :: l, xs => ∃ u ys, xs = [u] ++ ys ∧ (∀ p ∈ r, p.ok) ∧ Own w B 43 4 u r.length (r.flatMap Prp.enc) ∧ OwnRecs w B l ys
theorem OwnRecs.same {w w' : World} {B : Nat} (hs : Same 43 w w') : ∀ {l : List (List Prp)} {xs : List Value}, OwnRecs w B l xs → OwnRecs w' B l xs
  | [], _, h => h
  | _ :: _, _, h => by
    obtain ⟨u, ys, rfl, h1, h2, h3⟩ := h
    exact ⟨u, ys, rfl, h1, h2.same hs, h3.same hs⟩
theorem OwnRecs.snoc {w : World} {B : Nat} {r : List Prp} {u : Value} (h1 : ∀ p ∈ r, p.ok) (h2 : Own w B 43 4 u r.length (r.flatMap Prp.enc)) :
    ∀ {l : List (List Prp)} {xs : List Value}, OwnRecs w B l xs → OwnRecs w B (l ++ [r]) (xs ++ [u])
  | [], xs, h => by rw [show xs = [] from h]; exact ⟨u, [], by simp, h1, h2, rfl⟩
  | e :: l, xs, h => by
    obtain ⟨v, ys, rfl, k1, k2, k3⟩ := h
    exact ⟨v, ys ++ [u], by simp, k1, k2, k3.snoc h1 h2⟩
theorem OwnRecs.row {w : World} {B : Nat} : ∀ {l : List (List Prp)} {xs : List Value}, OwnRecs w B l xs → Row recsL w l xs
  | [], _, h => h
  | _ :: _, _, h => by
    obtain ⟨u, ys, rfl, h1, h2, h3⟩ := h
    exact ⟨_, ys, rfl, ⟨u, rfl, h2.prps h1⟩, h3.row⟩
theorem OwnRecs.below {w w' : World} {B : Nat} (hb : Below w.heap.size w w') {l : List (List Prp)} {xs : List Value} (h : OwnRecs w B l xs) : OwnRecs w' B l xs := h.same (Same.below hb)
/-- A record and an error: a list of them. -/
def RetRs (l : List (List Prp)) (err : Int) (w : World) (e : Ending) (w' : World) : Prop := ∃ v, e = .returned (.tuple #[v, errV err]) ∧ Sl recsL w' v l ∧ Below w.heap.size w w'
theorem recT_info : (Tryd.prog.info? 35).map (fun i => (i.zero, i.size, i.bytes)) = some (some (.slice none 0 0), 1, 24) := by kernel_rfl
structure PickI (B : Nat) (w wr : World) (v : Value) (k : Nat) (l : List (List Prp)) (xs : List Value) : Prop where
  b : Below B w wr
  z : B ≤ wr.heap.size
  n : Own wr B 35 1 v k xs
  o : OwnRecs wr B l xs
theorem PickI.step {B : Nat} {w wr W w7 : World} {v v7 u : Value} {k : Nat} {l : List (List Prp)} {xs : List Value} {r : List Prp} (hI : PickI B w wr v k l xs) (hbW : Below wr.heap.size wr W) (hr : ∀ p ∈ r, p.ok)
    (hu : Own W B 43 4 u r.length (r.flatMap Prp.enc)) (hown7 : Own w7 B 35 1 v7 (k + 1) (xs ++ [u])) (hg7 : W.grownBy w7 v.ownBlock) : PickI B w w7 v7 (k + 1) (l ++ [r]) (xs ++ [u]) := by
  have hoW := hI.n.below hbW
  have hs : Same 43 W w7 := Same.grown hoW (by decide) hg7
  have hz := hI.z
  have hW := hbW.size
  exact ⟨(hI.b.trans (hbW.mono hz)).grown hg7 (by omega) (fun j e => (hoW.lt j e).1), by have := hg7.size; omega, hown7, (hI.o.same ((Same.below hbW).trans hs)).snoc hr (hu.same hs)⟩
set_option maxRecDepth 100000 in
set_option maxHeartbeats 8000000 in
theorem pick_any (g : Grf) (rows : List (List Int)) (at' : Int) (names : List ByteArray) (vn vt vr vs : Value) (w : World) (hg : GrfR w vn vt g) (hr : Sl (slL intL) w vr rows) (hs : Sl strL w vs names) :
    Calls Tryd.prog 16 #[.agg #[vn, vt], vr, .int .i64 at', vs] w (RetRs (pickR g rows at' names) (pickE g rows at' names) w) := by
  obtain ⟨i0, ei, ez, ez1, ez2⟩ := info_parts recT_info
  have hb0 : Below w.heap.size w (w.alloc (.cells #[vn, vt] 25)) := (Below.refl _ _).alloc (Nat.le_refl _) _
  have hb1 : Below w.heap.size w ((w.alloc (.cells #[vn, vt] 25)).alloc (.cells #[vs] 51)) := hb0.alloc hb0.size _
  have hcheck := grfCheck_any g vn vt _ (hg.below hb1)
  obtain ⟨z0, z1⟩ := cell_box2 w vn vt 25
  have z0 := cell_below ((Below.refl _ _).alloc (Nat.le_refl _) (.cells #[vs] 51)) z0
  have z1 := cell_below ((Below.refl _ _).alloc (Nat.le_refl _) (.cells #[vs] 51)) z1
  have zs : ((w.alloc (.cells #[vn, vt] 25)).alloc (.cells #[vs] 51)).cell? ⟨w.heap.size + 1, 0, none⟩ = some vs := by
    rw [World.cell?_alloc_at _ _ _ _ (by simp)]; rfl
  have HG := Lib.hid hg
  have HR := Lib.hid hr
  have HS := Lib.hid hs
  obtain ⟨An, cn, rfl, _, _⟩ := hg.1.form
  obtain ⟨At, ct, rfl, _, _⟩ := hg.2.form
  obtain ⟨Ar, cr, rfl, hrc, hrm⟩ := hr.form
  obtain ⟨As, cs, rfl, hsc, hsm⟩ := hs.form
  unfold maxLen at hrm hsm
  clear hg hr hs
  go_enter Tryd.func16, Tryd.ntmps16
  go_wp2_with fail
  refine hcheck.mono ?_
  clear hcheck
  rintro e w1 ⟨rfl, hb2⟩
  have hB1 := hb1.trans (hb2.mono hb1.size)
  have x0 := cell_below hb2 z0
  have x1 := cell_below hb2 z1
  have xs0 := cell_below hb2 zs
  have hz1 : w.heap.size + 2 ≤ w1.heap.size := by have := hb2.size; simp at this; omega
  clear z0 z1 zs hb0 hb1 hb2
  by_cases he : grfE g = 0
  case neg =>
    have HE : Hid (errV (pickE g rows at' names) = .iface 80 (.int .i64 (grfE g)) ∧ pickR g rows at' names = []) := by
      have h0 : pickE g rows at' names = grfE g := by unfold pickE; rw [if_neg he]
      exact ⟨by rw [h0]; exact errV_some he, by unfold pickR; rw [h0, if_neg he]⟩
    rw [errV_some he]
    clear he
    go_wp2_with fail
    go_ret2
    exact ⟨.slice none 0 0, by rw [HE.out.1]; rfl, by rw [HE.out.2]; exact Sl.nil 0 (Nat.zero_le _) none, hB1⟩
  obtain ⟨hn60, _, hch, hnods⟩ := grf_ok he
  have HNODS := Lib.hid hnods
  clear hnods
  have HCH := Lib.hid hch
  have HE0 : Hid (pickE g rows at' names = if 200 < rows.length then 4 else if firstE (pickRowE g at') rows = 0 then namesE none names else firstE (pickRowE g at') rows) := by unfold Hid pickE; rw [if_pos he]
  rw [errV_zero he]
  clear he hch
  by_cases h200 : 200 < rows.length
  case pos =>
    have HE : Hid (pickE g rows at' names = 4 ∧ pickR g rows at' names = []) := by
      have h0 : pickE g rows at' names = 4 := by rw [HE0.out, if_pos h200]
      exact ⟨h0, by unfold pickR; rw [h0, if_neg (by omega)]⟩
    have h2' : (200 : Int) < (rows.length : Int) := by omega
    go_wp2_with fail
    go_ret2
    exact ⟨.slice none 0 0, by rw [HE.out.1]; rfl, by rw [HE.out.2]; exact Sl.nil 0 (Nat.zero_le _) none, hB1⟩
  have h2' : (rows.length : Int) ≤ 200 := by omega
  have HE1 : Hid (pickE g rows at' names = if firstE (pickRowE g at') rows = 0 then namesE none names else firstE (pickRowE g at') rows) := by unfold Hid; rw [HE0.out, if_neg h200]
  clear HE0 h200
  go_wp2_with fail
  go_loopw [35] (fun i wr => ∃ k : Nat, k ≤ rows.length ∧ i = .int .i64 k ∧ Below w1.heap.size w1 wr ∧ Hid (∀ j x, j < k → rows[j]? = some x → pickRowE g at' x = 0)) (fun i _ => rows.length - (intOf i).toNat)
  case atStart => exact ⟨0, Nat.zero_le _, rfl, Below.refl _ _, fun j x hj => absurd hj (Nat.not_lt_zero _)⟩
  case round =>
    obtain ⟨k, hk, rfl, hb, HA⟩ := hrel
    have hBr := hB1.trans (hb.mono hB1.size)
    have y0 := cell_below hb x0
    have y1 := cell_below hb x1
    have ys0 := cell_below hb xs0
    clear x0 x1 xs0
    by_cases hlt : k < rows.length
    · obtain ⟨d, hd⟩ : ∃ d, rows[k]? = some d := ⟨_, List.getElem?_eq_getElem hlt⟩
      obtain ⟨b, o, rfl, u, hu, c0⟩ := sl_at (HR.out.below hBr) hd
      have HD := Lib.hid hd
      have HU := Lib.hid hu
      have hlt' : (k : Int) < (rows.length : Int) := by omega
      obtain ⟨Au, cu, rfl, huc, hum⟩ := hu.form
      unfold maxLen at hum
      have HPE : Hid (pickRowE g at' d = if at' < 0 ∨ (d.length : Int) ≤ at' then 1 else if fhas g.nodes (rowAt d at') then 0 else 5) := rfl
      clear hd hu
      by_cases hout : at' < 0 ∨ (d.length : Int) ≤ at'
      · have HE : Hid (pickE g rows at' names = 1 ∧ pickR g rows at' names = []) := by
          have h1 : pickRowE g at' d = 1 := by rw [HPE.out, if_pos hout]
          have h2 := firstE_hit HA.out HD.out (by rw [h1]; omega)
          have h0 : pickE g rows at' names = 1 := by rw [HE1.out, h2, h1, if_neg (by omega)]
          exact ⟨h0, by unfold pickR; rw [h0, if_neg (by omega)]⟩
        clear HE1 HPE HA
        rcases hout with h | h
        · go_wp2_with fail
          go_ret2
          exact ⟨.slice none 0 0, by rw [HE.out.1]; rfl, by rw [HE.out.2]; exact Sl.nil 0 (Nat.zero_le _) none, hBr⟩
        · have h0 : 0 ≤ at' := by omega
          go_wp2_with fail
          go_ret2
          exact ⟨.slice none 0 0, by rw [HE.out.1]; rfl, by rw [HE.out.2]; exact Sl.nil 0 (Nat.zero_le _) none, hBr⟩
      · obtain ⟨p, rfl⟩ : ∃ p : Nat, at' = p := ⟨at'.toNat, by omega⟩
        have hpl : (p : Int) < (d.length : Int) := by omega
        have hpl0 : p < d.length := by omega
        obtain ⟨id, hid⟩ : ∃ x, d[p]? = some x := ⟨_, List.getElem?_eq_getElem hpl0⟩
        have hra : rowAt d (p : Int) = id := by unfold rowAt; rw [Int.toNat_natCast, hid]; rfl
        obtain ⟨bi, oi, rfl, hi64, e0⟩ := int_at HU.out hid
        have HPE2 : Hid (pickRowE g p d = if fhas g.nodes id then 0 else 5) := by unfold Hid; rw [HPE.out, if_neg hout, hra]
        clear hra HPE hout hid
        go_wp2_with fail
        refine wp_mid_k 5 _ rfl rfl (by kernel_rfl) (by kernel_rfl) ?_
        simp only [List.take_succ_cons, List.take_zero, List.drop_succ_cons, List.drop_zero]
        repeat (go_big_quiet_step (fail))
        refine wpQuiet_nil ?_
        intro _ hw'
        obtain ⟨nq, hw''⟩ := hw'
        subst hw''
        intro K hK
        have hf := find_any g _ _ (wr.drewN nq) (HG.out.below (below_drewN hBr nq)) id HCH.out (by omega)
        go_wp2_with fail
        refine hf.mono ?_
        clear hf
        rintro e w3 ⟨rfl, hb3⟩
        have hB3 := (below_drewN hb nq).trans (hb3.mono hb.size)
        generalize fhas g.nodes id = q at *
        refine hK _ _ ?_
        repeat (go_big_quiet_step (fail))
        refine wpQuiet_nil ?_
        intro _ hw'
        obtain ⟨nq2, hw''⟩ := hw'
        subst hw''
        clear hK
        cases q with
        | false =>
          have HE : Hid (pickE g rows p names = 5 ∧ pickR g rows p names = []) := by
            have h1 : pickRowE g p d = 5 := by rw [HPE2.out]; rfl
            have h2 := firstE_hit HA.out HD.out (by rw [h1]; omega)
            have h0 : pickE g rows p names = 5 := by rw [HE1.out, h2, h1, if_neg (by omega)]
            exact ⟨h0, by unfold pickR; rw [h0, if_neg (by omega)]⟩
          clear HE1 HPE2 HA
          go_wp2_with fail
          go_ret2
          exact ⟨.slice none 0 0, by rw [HE.out.1]; rfl, by rw [HE.out.2]; exact Sl.nil 0 (Nat.zero_le _) none, hB1.trans ((below_drewN hB3 _).mono hB1.size)⟩
        | true =>
          have HZ : Hid (pickRowE g p d = 0) := by unfold Hid; rw [HPE2.out]; rfl
          clear HE1 HPE2
          go_wp2_with fail
          go_roundw
          case rel => exact ⟨k + 1, by omega, by go_num, below_drewN hB3 _, zero_step HA.out HD.out HZ.out⟩
          case measure => simp [intOf]; omega
    · obtain rfl : k = rows.length := by omega
      have HE2 : Hid (pickE g rows at' names = namesE none names) := by unfold Hid; rw [HE1.out, if_pos (firstE_none HA.out)]
      have HOK := HA
      have hb2s := hb.size
      clear HE1 hB1 hb
      obtain ⟨w2, rfl⟩ : ∃ w2 : World, w2 = wr := ⟨_, rfl⟩
      have HB2 := Lib.hid hBr
      have hz2 : w.heap.size + 2 ≤ w2.heap.size := Nat.le_trans hz1 hb2s
      go_wp2_with fail
      go_loopw [63] (fun i wr => ∃ k : Nat, k ≤ names.length ∧ i = .int .i64 k ∧ Below w2.heap.size w2 wr ∧ Hid (namesE none names = namesE (prev names k) (names.drop k))) (fun i _ => names.length - (intOf i).toNat)
      case atStart => exact ⟨0, Nat.zero_le _, rfl, Below.refl _ _, rfl⟩
      case round =>
        clear hBr
        obtain ⟨k, hk, rfl, hb, HN⟩ := hrel
        have hBs := HB2.out.trans (hb.mono HB2.out.size)
        have c0 := cell_below hb y0
        have c1 := cell_below hb y1
        have cs0 := cell_below hb ys0
        clear y0 y1 ys0
        by_cases hlt : k < names.length
        · obtain ⟨s, hs⟩ : ∃ d, names[k]? = some d := ⟨_, List.getElem?_eq_getElem hlt⟩
          obtain ⟨b, o, rfl, hss, e0⟩ := str_at (HS.out.below hBs) hs
          have hlt' : (k : Int) < (names.length : Int) := by omega
          have HSt : Hid (namesE none names = if nameE s = 0 then (if (match prev names k with | some q => !ltS q s | none => false) then 7 else namesE (prev names (k + 1)) (names.drop (k + 1))) else nameE s) := by
            unfold Hid; rw [HN.out, drop_cons hs, namesE_cons, prev_succ hs]
          have hnm := name_any s wr hss
          have HD := Lib.hid hs
          clear hs HN
          go_wp2_with fail
          refine hnm.mono ?_
          clear hnm
          rintro e w3 ⟨rfl, hb3⟩
          have hB3 := hb.trans (hb3.mono hb.size)
          have d0 := cell_below hb3 e0
          have ds0 := cell_below hb3 cs0
          by_cases hn : nameE s = 0
          case neg =>
            have HE : Hid (errV (pickE g rows at' names) = .iface 80 (.int .i64 (nameE s)) ∧ pickR g rows at' names = []) := by
              have h0 : pickE g rows at' names = nameE s := by rw [HE2.out, HSt.out, if_neg hn]
              exact ⟨by rw [h0]; exact errV_some hn, by unfold pickR; rw [h0, if_neg hn]⟩
            rw [errV_some hn]
            clear hn HSt HE2
            go_wp2_with fail
            go_ret2
            exact ⟨.slice none 0 0, by rw [HE.out.1]; rfl, by rw [HE.out.2]; exact Sl.nil 0 (Nat.zero_le _) none, HB2.out.trans (hB3.mono HB2.out.size)⟩
          have HS2 : Hid (namesE none names = if (match prev names k with | some q => !ltS q s | none => false) then 7 else namesE (prev names (k + 1)) (names.drop (k + 1))) := by unfold Hid; rw [HSt.out, if_pos hn]
          rw [errV_zero hn]
          clear hn HSt
          by_cases h0 : k = 0
          · subst h0
            have HN : Hid (namesE none names = namesE (prev names (0 + 1)) (names.drop (0 + 1))) := by unfold Hid; rw [HS2.out]; rfl
            clear HS2 HE2
            go_wp2_with fail
            go_roundw
            case rel => exact ⟨1, by omega, by go_num, hB3, HN⟩
            case measure => simp [intOf]; omega
          · obtain ⟨m, rfl⟩ : ∃ m, k = m + 1 := ⟨k - 1, by omega⟩
            obtain ⟨q, hq⟩ : ∃ q, names[m]? = some q := ⟨_, List.getElem?_eq_getElem (by omega)⟩
            have hm1 : ((m + 1 : Nat) : Int) - 1 = (m : Int) := by omega
            have hm2 : (0 : Int) < ((m + 1 : Nat) : Int) := by omega
            have hm3 : (m : Int) < (names.length : Int) := by omega
            have hpv : prev names (m + 1) = some q := hq
            obtain ⟨b', o', hA', _, g0⟩ := str_at (HS.out.below hBs) hq
            injection hA' with e5
            injection e5 with e6 e7
            subst e6; subst e7
            have g1 := cell_below hb3 g0
            cases hL : ltS q s with
            | true =>
              have hL' : Op.bytesLess q.toList s.toList = true := hL
              have HN : Hid (namesE none names = namesE (prev names (m + 1 + 1)) (names.drop (m + 1 + 1))) := by unfold Hid; rw [HS2.out, hpv]; simp [hL]
              clear hL hq hpv HS2 HE2
              go_wp2_with fail
              go_roundw
              case rel => exact ⟨m + 1 + 1, by omega, by go_num, hB3, HN⟩
              case measure => simp [intOf]; omega
            | false =>
              have hL' : Op.bytesLess q.toList s.toList = false := hL
              have HE : Hid (pickE g rows at' names = 7 ∧ pickR g rows at' names = []) := by
                have h0 : pickE g rows at' names = 7 := by rw [HE2.out, HS2.out, hpv]; simp [hL]
                exact ⟨h0, by unfold pickR; rw [h0, if_neg (by omega)]⟩
              clear hL hq hpv HS2 HE2
              go_wp2_with fail
              go_ret2
              exact ⟨.slice none 0 0, by rw [HE.out.1]; rfl, by rw [HE.out.2]; exact Sl.nil 0 (Nat.zero_le _) none, HB2.out.trans (hB3.mono HB2.out.size)⟩
        · obtain rfl : k = names.length := by omega
          have HE : Hid (pickE g rows at' names = 0 ∧ pickR g rows at' names = rows.map (pickOne g at' names)) := by
            have h0 : pickE g rows at' names = 0 := by rw [HE2.out, HN.out, List.drop_length]; rfl
            exact ⟨h0, by unfold pickR; rw [if_pos h0]⟩
          obtain ⟨w4, rfl⟩ : ∃ w4 : World, w4 = wr := ⟨_, rfl⟩
          have hz4 : w.heap.size + 2 ≤ w4.heap.size := Nat.le_trans hz2 hb.size
          have HB4 := Lib.hid hBs
          have hmk : ∀ u : World, (Instr.makeSlice 48 (.int .i64 0) (.int .i64 (rows.length : Int))).run Tryd.prog u =
              .ok (.slice (some ⟨u.heap.size, 0, none⟩) 0 rows.length) (u.alloc (.cells (madeCells #[.slice none 0 0] rows.length) 35)) := fun u => by
            have h := run_make (P := Tryd.prog) u 48 35 i0 (.slice none 0 0) Tryd.underlying48 ei ez .i64 .i64 0 (rows.length : Int) (by omega) (by omega) (by rw [ez2]; omega) (by omega)
            simpa [ez1, Value.cells] using h
          have hPI : PickI w4.heap.size w4 (w4.alloc (.cells (madeCells #[.slice none 0 0] rows.length) 35)) (.slice (some ⟨w4.heap.size, 0, none⟩) 0 rows.length) 0 ((rows.take 0).map (pickOne g at' names)) [] :=
            ⟨(Below.refl _ _).alloc (Nat.le_refl _) _, by simp, ⟨by simp, .inr ⟨w4.heap.size, 0, rows.length, _, rfl, Nat.le_refl _, heap_alloc_new _ _, Nat.zero_le _, by unfold maxLen; omega, by simp [madeCells], by simp⟩⟩, rfl⟩
          clear HE2 HN hBs hb hb2s
          go_wp2_with fail
          clear hmk
          go_loopw [18, 91] (fun v i wr => ∃ (k : Nat) (xs : List Value), k ≤ rows.length ∧ i = .int .i64 k ∧ PickI w4.heap.size w4 wr v k ((rows.take k).map (pickOne g at' names)) xs) (fun _ i _ => rows.length - (intOf i).toNat)
          case atStart => exact ⟨0, [], Nat.zero_le _, rfl, hPI⟩
          case round =>
            clear hPI
            obtain ⟨k, xs, hk, rfl, hI⟩ := hrel
            have HI := Lib.hid hI
            have hb := hI.b
            obtain ⟨Av, cv, rfl, _, _⟩ := hI.n.form
            have hBr := HB4.out.trans (hb.mono HB4.out.size)
            have y0 := cell_below hb c0
            have y1 := cell_below hb c1
            have ys0 := cell_below hb cs0
            clear hI c0 c1 cs0
            by_cases hlt : k < rows.length
            · obtain ⟨d, hd⟩ : ∃ d, rows[k]? = some d := ⟨_, List.getElem?_eq_getElem hlt⟩
              have hlt' : (k : Int) < (rows.length : Int) := by omega
              have HT : Hid ((rows.take (k + 1)).map (pickOne g at' names) = (rows.take k).map (pickOne g at' names) ++ [pickOne g at' names d]) := by
                unfold Hid; rw [take_snoc hd, List.map_append]; rfl
              obtain ⟨p, rfl, hpl, id, hid, hra, hfh⟩ := pick_at (HOK.out k d hlt hd)
              obtain ⟨b, o, rfl, u, hu, e0⟩ := sl_at (HR.out.below hBr) hd
              obtain ⟨Au, cu, rfl, huc, hum⟩ := hu.form
              obtain ⟨bi, oi, rfl, hi64, e1⟩ := int_at hu hid
              obtain ⟨nd, hnd⟩ := fhas_some hfh
              have HP1 : Hid (pickOne g p names d = nd.props.filter (fun p => names.any fun y => decide (p.name = y))) := by unfold Hid pickOne; rw [hra, hnd]
              have hpl' : (p : Int) < (d.length : Int) := by omega
              have HND := Lib.hid hnd
              have hKn : fpos g.nodes id < g.nodes.length := (List.getElem?_eq_some_iff.1 hnd).1
              clear hd hra hfh hid hu hnd
              go_wp2_with fail
              refine wp_mid_k 5 _ rfl rfl (by kernel_rfl) (by kernel_rfl) ?_
              simp only [List.take_succ_cons, List.take_zero, List.drop_succ_cons, List.drop_zero]
              repeat (go_big_quiet_step (fail))
              refine wpQuiet_nil ?_
              intro _ hw'
              obtain ⟨nq, hw''⟩ := hw'
              subst hw''
              intro K hK
              have hf := find_any g _ _ (wr.drewN nq) (HG.out.below (below_drewN hBr nq)) id HCH.out (by omega)
              have q0 : (wr.drewN nq).cell? ⟨w.heap.size, 0, none⟩ = some (.slice An g.nodes.length cn) := y0
              generalize fhas g.nodes id = q at *
              generalize fpos g.nodes id = K at *
              go_wp2_with fail
              refine hf.mono ?_
              clear hf
              rintro e w5 ⟨rfl, hb5⟩
              have hB5 := (below_drewN hb nq).trans (hb5.mono hb.size)
              refine hK _ _ ?_
              repeat (go_big_quiet_step (fail))
              refine wpQuiet_nil ?_
              intro _ hw'
              obtain ⟨nq2, hw''⟩ := hw'
              subst hw''
              clear hK
              have hbW := below_drewN ((below_drewN (Below.refl wr.heap.size wr) nq).trans hb5) nq2
              generalize w5.drewN nq2 = W at *
              have hBw := hBr.trans (hbW.mono hBr.size)
              have r0 := cell_below hbW y0
              have rs0 := cell_below hbW ys0
              obtain ⟨bn, on, rfl, u5, _, _, hpr, n0, n1, n2⟩ := nod_at (HG.out.below hBw).1 HND.out
              have hpl8 : nd.props.length ≤ 8 := (rec_ok (nod_rec (HNODS.out nd (List.mem_of_getElem? HND.out)).2)).1
              obtain ⟨A5, c5, rfl, _, _⟩ := hpr.form
              have hKn' : (K : Int) < (g.nodes.length : Int) := by omega
              have hcl := clone_prps hpr (by omega)
              have hWs := hbW.size
              have hrs := hb.size
              clear q0 y0 y1 e0 e1 hpr hb5 hB5
              go_wp2_with fail
              refine hcl.mono ?_
              clear hcl
              rintro e w6 ⟨uc, xc, rfl, hoc, hrow, hb6⟩
              obtain ⟨rfl, hokc⟩ := Row.flat hrow
              have rs6 := cell_below hb6 rs0
              have hBw6 := hBw.trans (hb6.mono hBw.size)
              have hdel := del_prps 44 #[.pointer (some ⟨w.heap.size + 1, 0, none⟩)] (by intro args w; kernel_rfl) (fun d => !(names.any fun y => decide (d.name = y))) nd.props uc W.heap.size w6 hb6.size hoc hokc (by omega)
                (fun x u wx hbx hu => by
                  obtain ⟨rfl, _⟩ := hu
                  exact pick1_any names x (w.heap.size + 1) _ wx ((hbx.cell (p := ⟨w.heap.size + 1, 0, none⟩) (by show w.heap.size + 1 < W.heap.size; omega)).trans rs6) (HS.out.below (hBw6.trans (hbx.mono hBw.size))))
              obtain ⟨Ac, cc, rfl, _, _⟩ := hoc.form
              have HOC := Lib.hid hoc
              have HOKC := Lib.hid hokc
              have hflt : (nd.props.filter fun x => !(!(names.any fun y => decide (x.name = y)))) = pickOne g p names d := by rw [HP1.out]; simp
              rw [hflt] at hdel
              have HOKP : Hid (∀ x ∈ pickOne g p names d, x.ok) := fun x hx => HOKC.out x (by rw [HP1.out] at hx; exact (List.mem_filter.1 hx).1)
              generalize pickOne g p names d = pr at *
              clear hoc hokc hrow hflt r0 n0 n1 n2
              go_wp2_with fail
              refine hdel.mono ?_
              clear hdel
              rintro e w7 ⟨u7, rfl, ho7, hg7, _⟩
              have hbx7 : Below wr.heap.size wr w7 := (hbW.trans (hb6.mono hbW.size)).grown hg7 (by have := hb6.size; omega) (fun j e => by have := (HOC.out.lt j e).1; omega)
              have h7s := hbx7.size
              obtain ⟨A7, c7, rfl, _, _⟩ := ho7.form
              have HO7 := Lib.hid ho7
              have hbx8 := hbx7.alloc h7s (.cells #[.slice A7 pr.length c7] 35)
              have hownW := HI.out.n.below hbx8
              have hzz := HI.out.z
              clear ho7 hg7 hb6 rs6 rs0 ys0
              go_wp2_with (at_builtin; refine wpList_append_q _ rfl (.tmp 111) (.tmp 115) _ rfl w4.heap.size 35 i0 (.slice none 0 0) 1 24 Tryd.underlying48 ei ez ez1 ez2 rfl (by decide) (.slice Av k cv) k xs rfl hownW (some ⟨w7.heap.size, 0, none⟩) 1 1 [.slice A7 pr.length c7] rfl rfl (fun _ => ⟨_, rfl, fun j u hj => by rw [addr_add, Nat.zero_add, World.cell?_alloc_at _ _ _ _ rfl]; simpa using hj⟩) (fun u hu => by simp at hu; subst hu; rfl) (by unfold maxLen; omega) (by omega) (by simp; omega) ?_; intro v9 w9 hown9 hg9 hat9)
              have HN := Lib.hid (PickI.step HI.out hbx8 HOKP.out ((HO7.out.mono (by omega)).alloc _) hown9 hg9)
              clear hown9 hg9 hat9 hownW HI
              obtain ⟨A9, c9, rfl, _, _⟩ := HN.out.n.form
              go_roundw
              case rel => exact ⟨k + 1, _, by omega, by go_num, by rw [HT.out]; exact HN.out⟩
              case measure => simp [intOf]; omega
            · obtain rfl : k = rows.length := by omega
              have HF : Hid (Sl recsL wr (.slice Av rows.length cv) (rows.map (pickOne g at' names))) := by
                have h := HI.out.o.row
                rw [List.take_length] at h
                exact Own.row (L := recsL) (by rw [List.length_map]; exact HI.out.n) h
              clear HI
              go_wp2_with fail
              go_ret2
              exact ⟨.slice Av rows.length cv, by rw [HE.out.1, errV_zero rfl]; rfl, by rw [HE.out.2]; exact HF.out, hBr⟩
end Go.Proofs.YtdfeloeainabjaaDoor
