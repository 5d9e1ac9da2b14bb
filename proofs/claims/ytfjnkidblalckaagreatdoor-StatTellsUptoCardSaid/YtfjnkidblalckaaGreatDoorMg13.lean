/- Parts: StatB, StatC. -/
import Derived.Test.YtfjnkidblalckaaGreatDoorMg12
/- Contracts: what stat.Far answers, and the function value inside stat.Parts. -/
namespace Go.Proofs.YtfjnkidblalckaaGreatDoor
open Go.RowKit

/-! ### The distances are small -/
theorem FInv.one {n gk r0 : Nat} {d : Int} {st : List Int × List Nat} (nodes : List Nod) (hn : nodes.length = n) (id : Int) (e : Int × Int) (h : FInv n gk r0 d st) : FInv n gk r0 d (farEnd nodes id d e st) := by
  by_cases hc : e.1 = id ∧ fhas nodes e.2 = true ∧ st.1.getD (fpos nodes e.2) 0 < 0
  · rw [farEnd_yes hc]
    exact h.push (by rw [← hn]; exact fhas_lt hc.2.1) hc.2.2
  · rw [farEnd_no hc]; exact h
theorem FInv.tie {n gk r0 : Nat} {d : Int} {st : List Int × List Nat} (nodes : List Nod) (hn : nodes.length = n) (id : Int) (t : Tie) (h : FInv n gk r0 d st) : FInv n gk r0 d (farTie nodes id d st t) :=
  FInv.one nodes hn id _ (FInv.one nodes hn id _ h)
theorem FInv.ties {n gk r0 : Nat} {d : Int} (nodes : List Nod) (hn : nodes.length = n) (id : Int) : ∀ (ts : List Tie) {st : List Int × List Nat}, FInv n gk r0 d st → FInv n gk r0 d (farTies nodes id d ts st)
  | [], _, h => h
  | t :: ts, _, h => FInv.ties nodes hn id ts (h.tie nodes hn id t)
theorem farRun_ok (g : Grf) : ∀ (gk : Nat) (st : List Int × List Nat), OInv g.nodes.length gk st → (farRun g gk st).length = g.nodes.length ∧ ∀ v ∈ farRun g gk st, -1 ≤ v ∧ v ≤ g.nodes.length
  | 0, st, h => ⟨h.len, fun v hv => by have := h.top v hv; omega⟩
  | gk + 1, st, h => by
    unfold farRun
    obtain ⟨ls, row⟩ := st
    cases row with
    | nil => exact ⟨h.len, fun v hv => by have := h.top v hv; omega⟩
    | cons r rest => exact farRun_ok g gk _ ((h.enter rfl).ties g.nodes rfl _ g.ties).leave
theorem farI_len {g : Grf} {src : Nat} (h : src < g.nodes.length) : (farI g src).length = g.nodes.length := (farRun_ok g _ _ (OInv.start h)).1
theorem farI_small {g : Grf} {src : Nat} (h : src < g.nodes.length) (hl : g.nodes.length ≤ 60) : ∀ v ∈ farI g src, I64 v := fun v hv => by
  have := (farRun_ok g _ _ (OInv.start h)).2 v hv
  unfold I64; omega

/-! ### stat.Far -/
def farE (g : Grf) (id : Int) : Int := if grfE g = 0 then (if fhas g.nodes id then 0 else 5) else grfE g
def farL (g : Grf) (id : Int) : List Int := if grfE g = 0 then (if fhas g.nodes id then farI g (fpos g.nodes id) else []) else []
/-- A list and an error come back. -/
def RetSl {D : Type} (L : Lay D) (l : List D) (err : Int) (w : World) (e : Ending) (w' : World) : Prop := ∃ v, e = .returned (.tuple #[v, errV err]) ∧ Sl L w' v l ∧ Below w.heap.size w w'

set_option maxHeartbeats 1000000 in
theorem farTop_any (g : Grf) (vn vt : Value) (w : World) (hg : GrfR w vn vt g) (id : Int) :
    Calls Tryz.prog 13 #[.agg #[vn, vt], .int .i64 id] w (RetSl intL (farL g id) (farE g id) w) := by
  obtain ⟨A, c, rfl, _, _⟩ := hg.1.form
  obtain ⟨A', c', rfl, _, _⟩ := hg.2.form
  obtain ⟨q0, q1⟩ := cell_box2 w (.slice A g.nodes.length c) (.slice A' g.ties.length c') 29
  have hb0 : Below w.heap.size w (w.alloc (.cells #[.slice A g.nodes.length c, .slice A' g.ties.length c'] 29)) := (Below.refl _ _).alloc (Nat.le_refl _) _
  by_cases h0 : grfE g = 0
  · obtain ⟨hl, hlt, hch, _⟩ := grf_ok h0
    have hE : errV (grfE g) = .nilIface := errV_zero h0
    cases hf : fhas g.nodes id with
    | false =>
      have HE : Hid (farE g id = 5 ∧ farL g id = []) := by unfold farE farL Hid; simp [h0, hf]
      go_enter Tryz.func13, Tryz.ntmps13
      go_wp2_with fail
      refine (grfCheck_any g _ _ _ (hg.below hb0)).mono ?_
      rintro e w1 ⟨rfl, hb1⟩
      rw [hE]
      have hb2 : Below w.heap.size w w1 := hb0.trans (hb1.mono hb0.size)
      have p0 := cell_below hb1 q0
      have p1 := cell_below hb1 q1
      clear hb1
      go_wp2_with fail
      refine (find_any g _ _ _ (hg.below hb2) id hch (by omega)).mono ?_
      rintro e w2 ⟨rfl, hb3⟩
      rw [hf]
      go_wp2_with fail
      go_ret2
      exact ⟨_, by rw [HE.out.1]; rfl, by rw [HE.out.2]; exact Sl.nil 0 (by unfold maxLen; omega) none, hb2.trans (hb3.mono hb2.size)⟩
    | true =>
      have HE : Hid (farE g id = 0 ∧ farL g id = farI g (fpos g.nodes id)) := by unfold farE farL Hid; simp [h0, hf]
      have hpl : fpos g.nodes id < g.nodes.length := fhas_lt hf
      have HS := Lib.hid (farI_small hpl hl)
      go_enter Tryz.func13, Tryz.ntmps13
      go_wp2_with fail
      refine (grfCheck_any g _ _ _ (hg.below hb0)).mono ?_
      rintro e w1 ⟨rfl, hb1⟩
      rw [hE]
      have hb2 : Below w.heap.size w w1 := hb0.trans (hb1.mono hb0.size)
      have p0 := cell_below hb1 q0
      have p1 := cell_below hb1 q1
      clear hb1
      go_wp2_with fail
      refine (find_any g _ _ _ (hg.below hb2) id hch (by omega)).mono ?_
      rintro e w2 ⟨rfl, hb3⟩
      rw [hf]
      have hb4 := hb2.trans (hb3.mono hb2.size)
      have p2 := cell_below hb3 p0
      have p3 := cell_below hb3 p1
      clear hb3
      go_wp2_with fail
      refine (far_any g _ _ _ (hg.below hb4) (fpos g.nodes id) hpl hch hl hlt).mono ?_
      rintro e w3 ⟨v, rfl, hown, hb5⟩
      obtain ⟨Av, cv, rfl, _, _⟩ := hown.form
      go_wp2_with fail
      go_ret2
      exact ⟨_, by rw [HE.out.1]; rfl, by rw [HE.out.2]; exact hown.ints HS.out, hb4.trans (hb5.mono hb4.size)⟩
  · have hE : errV (grfE g) = .iface 62 (.int .i64 (grfE g)) := errV_some h0
    have HE : Hid (errV (farE g id) = .iface 62 (.int .i64 (grfE g)) ∧ farL g id = []) := by unfold farE farL Hid; rw [if_neg h0, if_neg h0]; exact ⟨hE, rfl⟩
    go_enter Tryz.func13, Tryz.ntmps13
    go_wp2_with fail
    refine (grfCheck_any g _ _ _ (hg.below hb0)).mono ?_
    rintro e w1 ⟨rfl, hb1⟩
    rw [hE]
    have hb2 : Below w.heap.size w w1 := hb0.trans (hb1.mono hb0.size)
    have p0 := cell_below hb1 q0
    have p1 := cell_below hb1 q1
    clear hb1
    go_wp2_with fail
    go_ret2
    exact ⟨_, by rw [HE.out.1]; rfl, by rw [HE.out.2]; exact Sl.nil 0 (by unfold maxLen; omega) none, hb2⟩

/-! ### The function value inside Parts -/
theorem parts1_any (l : List Int) (id : Int) (u : Value) (bk : Nat) (w : World) (hu : Sl intL w u l) (hc : w.cell? ⟨bk, 0, none⟩ = some (.int .i64 id)) :
    Calls Tryz.prog 25 #[u, .pointer (some ⟨bk, 0, none⟩)] w fun e w' => e = .returned (.bool (l.any fun y => id == y)) ∧ Below w.heap.size w w' := by
  have h1 := containsInt_any l id u w hu
  obtain ⟨A, c, rfl, _, _⟩ := hu.form
  clear hu
  generalize (l.any fun y => id == y) = B at h1
  go_enter Tryz.func25, Tryz.ntmps25
  go_wp2_with (go_at_call 26; refine h1.mono ?_; rintro e w' ⟨rfl, rfl⟩)
  go_ret
  exact ⟨rfl, Below.refl _ _⟩
end Go.Proofs.YtfjnkidblalckaaGreatDoor

/- Contract: what stat.Parts answers. -/
namespace Go.Proofs.YtfjnkidblalckaaGreatDoor
open Go.RowKit

/-! ### Plain -/
def partFrom (g : Grf) (fl : List Int) : Nat → Nat → List Int → List Int
  | _, 0, acc => acc
  | k, f + 1, acc => partFrom g fl (k + 1) f (if 0 ≤ fl.getD k 0 then acc ++ [idAt g.nodes k] else acc)
def partOf (g : Grf) (i : Nat) : List Int := partFrom g (farI g i) 0 g.nodes.length []
def partsFrom (g : Grf) : Nat → Nat → List (List Int) → List (List Int)
  | _, 0, acc => acc
  | k, f + 1, acc => partsFrom g (k + 1) f (if acc.any (fun l => l.any fun y => idAt g.nodes k == y) then acc else acc ++ [partOf g k])
def partsI (g : Grf) : List (List Int) := partsFrom g 0 g.nodes.length []
def partsL (g : Grf) : List (List Int) := if grfE g = 0 then partsI g else []

/-! ### Rows of lists -/
theorem Own.ne_type {w : World} {B B' : Nat} {e e' : TypeId} {sz sz' : Nat} {v v' : Value} {n n' : Nat} {xs xs' : List Value} (h : Own w B e sz v n xs) (h' : Own w B' e' sz' v' n' xs') (hne : e ≠ e') : v.ownBlock = none ∨ v.ownBlock ≠ v'.ownBlock := by
  rcases h.2 with ⟨rfl, _⟩ | ⟨g, o, cap, cur, rfl, _, hg, _⟩
  · exact .inl rfl
  · rcases h'.2 with ⟨rfl, _⟩ | ⟨g', o', cap', cur', rfl, _, hg', _⟩
    · exact .inr (by simp [Value.ownBlock])
    · refine .inr fun e0 => ?_
      simp [Value.ownBlock] at e0
      subst e0
      rw [hg] at hg'
      injection hg' with h1
      injection h1 with _ h2
      exact hne h2
theorem Own.lists {D : Type} {L : Lay D} {w : World} {B : Nat} {e : TypeId} {v : Value} {us : List Value} {l : List (List D)} (hl : us.length = l.length) (h : Own w B e 1 v l.length us) (hx : ∀ (j : Nat) u d, us[j]? = some u → l[j]? = some d → Sl L w u d) : Sl (slL L) w v l := by
  obtain ⟨A, c, rfl, h1, h2⟩ := h.form
  refine ⟨A, c, rfl, h1, h2, fun i d hi => ?_⟩
  obtain ⟨g, o, c', hv, _, _⟩ := h.addr (len_pos hi)
  injection hv with hA _ hc
  subst hA; subst hc
  obtain ⟨u, hu⟩ : ∃ u, us[i]? = some u := ⟨_, List.getElem?_eq_getElem (by have := (List.getElem?_eq_some_iff.1 hi).1; omega)⟩
  refine ⟨g, o, [u], rfl, ⟨u, rfl, hx i u d hu hi⟩, fun j x hj => ?_⟩
  match j, hj with
  | 0, hj =>
    simp at hj
    subst hj
    have := h.cell rfl hu
    simpa [slL] using this

/-- The rows of ints that stand in a row of slices. -/
def OwnParts (w : World) (B : Nat) (us : List Value) (ls : List (List Int)) : Prop :=
  us.length = ls.length ∧ ∀ (j : Nat) u l, us[j]? = some u → ls[j]? = some l → Own w B 3 1 u l.length (l.map (Value.int .i64)) ∧ ∀ x ∈ l, I64 x
theorem OwnParts.nil (w : World) (B : Nat) : OwnParts w B [] [] := ⟨rfl, fun j u l hu => by simp at hu⟩
theorem OwnParts.below {w w' : World} {B : Nat} {us : List Value} {ls : List (List Int)} (h : OwnParts w B us ls) (hb : Below w.heap.size w w') : OwnParts w' B us ls :=
  ⟨h.1, fun j u l hu hl => ⟨(h.2 j u l hu hl).1.below hb, (h.2 j u l hu hl).2⟩⟩
theorem OwnParts.grown {w w' : World} {B B' : Nat} {us : List Value} {ls : List (List Int)} {v : Value} {n : Nat} {xs : List Value} (h : OwnParts w B us ls) (ho : Own w B' 31 1 v n xs) (hg : w.grownBy w' v.ownBlock) : OwnParts w' B us ls :=
  ⟨h.1, fun j u l hu hl => ⟨(h.2 j u l hu hl).1.grown hg ((h.2 j u l hu hl).1.ne_type ho (by decide)), (h.2 j u l hu hl).2⟩⟩
theorem OwnParts.push {w : World} {B : Nat} {us : List Value} {ls : List (List Int)} (h : OwnParts w B us ls) {u : Value} {l : List Int} (hu : Own w B 3 1 u l.length (l.map (Value.int .i64))) (hl : ∀ x ∈ l, I64 x) : OwnParts w B (us ++ [u]) (ls ++ [l]) := by
  refine ⟨by simp [h.1], fun j x y hx hy => ?_⟩
  by_cases hj : j < us.length
  · rw [List.getElem?_append_left hj] at hx
    rw [List.getElem?_append_left (by rw [← h.1]; exact hj)] at hy
    exact h.2 j x y hx hy
  · rw [List.getElem?_append_right (by omega)] at hx
    rw [List.getElem?_append_right (by rw [← h.1]; omega)] at hy
    have e1 : j - us.length = 0 := by
      have := (List.getElem?_eq_some_iff.1 hx).1
      simp at this; omega
    rw [e1] at hx
    rw [← h.1, e1] at hy
    simp at hx hy
    subst hx; subst hy
    exact ⟨hu, hl⟩
theorem OwnParts.sl {w : World} {B B' : Nat} {us : List Value} {ls : List (List Int)} {v : Value} (h : OwnParts w B us ls) (ho : Own w B' 31 1 v ls.length us) : Sl (slL intL) w v ls :=
  Own.lists h.1 ho fun j u d hu hd => ((h.2 j u d hu hd).1).ints (h.2 j u d hu hd).2

theorem sl_info : (Tryz.prog.info? 31).map (fun i => (i.zero, i.size, i.bytes)) = some (some (.slice none 0 0), 1, 24) := by kernel_rfl

/-- What stands at the head of Parts' loop. -/
structure PartsW (B : Nat) (W1 wr : World) (ov : Value) (us : List Value) (acc : List (List Int)) : Prop where
  bel : Below B W1 wr
  out : Own wr B 31 1 ov acc.length us
  parts : OwnParts wr B us acc

/-- The nodes' numbers, in every later world. -/
def on_nodes (b o _c : Nat) (w : World) (g : Grf) : Prop := ∀ w', Below w.heap.size w w' → ∀ kk dd, g.nodes[kk]? = some dd → I64 dd.id ∧ w'.cell? ⟨b, o + kk * 3, none⟩ = some (.int .i64 dd.id)

set_option maxRecDepth 100000 in
set_option maxHeartbeats 8000000 in
theorem parts_any (g : Grf) (vn vt : Value) (w : World) (hg : GrfR w vn vt g) :
    Calls Tryz.prog 10 #[.agg #[vn, vt]] w (RetSl (slL intL) (partsL g) (grfE g) w) := by
  obtain ⟨i0, hi, hz, hz1, hz2⟩ := info_parts int_info
  obtain ⟨j0, ji, jz, jz1, jz2⟩ := info_parts sl_info
  obtain ⟨A, c, rfl, _, _⟩ := hg.1.form
  obtain ⟨A', c', rfl, _, _⟩ := hg.2.form
  obtain ⟨q0, q1⟩ := cell_box2 w (.slice A g.nodes.length c) (.slice A' g.ties.length c') 29
  have hb0 : Below w.heap.size w (w.alloc (.cells #[.slice A g.nodes.length c, .slice A' g.ties.length c'] 29)) := (Below.refl _ _).alloc (Nat.le_refl _) _
  by_cases h0 : grfE g = 0
  · obtain ⟨hl, hlt, hch, hok⟩ := grf_ok h0
    have hE : errV (grfE g) = .nilIface := errV_zero h0
    have HE : Hid (errV (grfE g) = .nilIface ∧ partsL g = partsI g) := by unfold partsL Hid; rw [if_pos h0]; exact ⟨hE, rfl⟩
    go_enter Tryz.func10, Tryz.ntmps10
    go_wp2_with fail
    refine (grfCheck_any g _ _ _ (hg.below hb0)).mono ?_
    rintro e w1 ⟨rfl, hb1⟩
    rw [hE]
    have hb2 : Below w.heap.size w w1 := hb0.trans (hb1.mono hb0.size)
    have hws : w.heap.size < w1.heap.size := by have := hb1.size; simp at this; omega
    have p0 := cell_below hb1 q0
    have p1 := cell_below hb1 q1
    clear hb1 h0 hE
    go_wp2_with fail
    go_loopw [5, 19] (fun ov i wr => ∃ (k : Nat) (us : List Value) (acc : List (List Int)), k ≤ g.nodes.length ∧ i = .int .i64 k ∧ acc.length ≤ k ∧ PartsW w1.heap.size w1 wr ov us acc ∧ Hid (partsI g = partsFrom g k (g.nodes.length - k) acc)) (fun _ i _ => g.nodes.length - (intOf i).toNat)
    case atStart => exact ⟨0, [], [], Nat.zero_le _, rfl, Nat.le_refl _, ⟨Below.refl _ _, Own.nil _ _ _ _, OwnParts.nil _ _⟩, rfl⟩
    case round =>
      obtain ⟨k, us, acc, hk, rfl, hak, hP, HR⟩ := hrel
      have hbw : Below w.heap.size w wr := hb2.trans (hP.bel.mono hb2.size)
      have r0 := cell_below hP.bel p0
      have r1 := cell_below hP.bel p1
      have hwr : w.heap.size < wr.heap.size := by have := hP.bel.size; omega
      by_cases hk2 : k < g.nodes.length
      · obtain ⟨d, hd⟩ : ∃ d, g.nodes[k]? = some d := ⟨_, List.getElem?_eq_getElem hk2⟩
        obtain ⟨b, o, rfl, hall⟩ := nod_all (hg.1.below hbw) (by omega)
        obtain ⟨u, hid, hkd, hpr, x0, x1, x2⟩ := hall _ _ hd
        obtain ⟨Ar, cr, rfl, _, _⟩ := hpr.form
        have HS : Hid (partsI g = partsFrom g (k + 1) (g.nodes.length - (k + 1)) (if acc.any (fun l => l.any fun y => d.id == y) then acc else acc ++ [partOf g k])) := by
          have e1 : g.nodes.length - k = (g.nodes.length - (k + 1)) + 1 := by omega
          have e2 : idAt g.nodes k = d.id := by unfold idAt; rw [hd]
          unfold Hid
          rw [HR.out, e1, partsFrom, e2]
        have hSl := hP.parts.sl hP.out
        have hbx : Below wr.heap.size wr (wr.alloc (.cells #[.int .i64 d.id, .string d.kind, .slice Ar d.props.length cr] 35)) := (Below.refl _ _).alloc (Nat.le_refl _) _
        have hhas := has_ints 25 #[.pointer (some ⟨wr.heap.size, 0, none⟩)] (by intro args w; kernel_rfl) (fun l => l.any fun y => d.id == y) acc u5 _ (hSl.below hbx)
          (fun x u wx hx hu => parts1_any x d.id u wr.heap.size wx hu (cell_below hx (by rw [World.cell?_alloc_at _ _ _ _ rfl]; rfl)))
        have hbN : on_nodes b o c w g := fun w' hb' kk dd hkk => by
          obtain ⟨b', o', hA, hall'⟩ := nod_all (hg.1.below hb') (len_pos hkk)
          injection hA with e
          injection e with e1 e2
          subst e1; subst e2
          obtain ⟨uu, h1, h2, h3, h4, _⟩ := hall' _ _ hkk
          exact ⟨h1, h4⟩
        clear hSl hall hpr hkd
        go_wp2_with fail
        refine hhas.mono ?_
        rintro e w2 ⟨rfl, hb3⟩
        have hP2 : PartsW w1.heap.size w1 w2 u5 us acc := ⟨(hP.bel.trans (hbx.mono hP.bel.size)).trans (hb3.mono (by have := hP.bel.size; simp; omega)), (hP.out.alloc _).below hb3, (hP.parts.below hbx).below hb3⟩
        clear hhas hP hbx hb3 r0 r1 hbw hwr x0 x1 x2
        cases hB : acc.any (fun l => l.any fun y => d.id == y) with
        | true =>
          have HS2 : Hid (partsI g = partsFrom g (k + 1) (g.nodes.length - (k + 1)) acc) := by unfold Hid; rw [HS.out, if_pos hB]
          clear hB
          go_wp2_with fail
          go_roundw
          case rel => exact ⟨k + 1, us, acc, by omega, by go_num, by omega, hP2, HS2⟩
          case measure => simp [intOf]; omega
        | false =>
          have HS2 : Hid (partsI g = partsFrom g (k + 1) (g.nodes.length - (k + 1)) (acc ++ [partOf g k])) := by unfold Hid; rw [HS.out, if_neg (by rw [hB]; simp)]
          clear hB HS
          have hbw : Below w.heap.size w w2 := hb2.trans (hP2.bel.mono hb2.size)
          have r0 := cell_below hP2.bel p0
          have r1 := cell_below hP2.bel p1
          have hwr : w.heap.size < w2.heap.size := by have := hP2.bel.size; omega
          have HS := Lib.hid (farI_small (g := g) hk2 hl)
          have HL := Lib.hid (farI_len (g := g) hk2)
          go_wp2_with fail
          refine (far_any g _ _ _ (hg.below hbw) k hk2 hch hl hlt).mono ?_
          rintro e w3 ⟨fv, rfl, hown, hb4⟩
          rw [HL.out] at hown
          obtain ⟨gf, of, cf, rfl, hgf, hgf2⟩ := hown.addr (by omega)
          have hP3 : PartsW w1.heap.size w1 w3 u5 us acc := ⟨hP2.bel.trans (hb4.mono hP2.bel.size), hP2.out.below hb4, hP2.parts.below hb4⟩
          have hbw3 : Below w.heap.size w w3 := hbw.trans (hb4.mono hbw.size)
          have s0 := cell_below hb4 r0
          clear hP2 hbw r0 r1 hwr hb4
          go_wp2_with fail
          go_loopw [8, 31] (fun pv i w4 => ∃ (k2 : Nat) (pa : List Int), k2 ≤ g.nodes.length ∧ i = .int .i64 k2 ∧ pa.length ≤ k2 ∧ Below w3.heap.size w3 w4 ∧ Own w4 w3.heap.size 3 1 pv pa.length (pa.map (Value.int .i64)) ∧
            Hid (∀ x ∈ pa, I64 x) ∧ Hid (partOf g k = partFrom g (farI g k) k2 (g.nodes.length - k2) pa)) (fun _ i _ => g.nodes.length - (intOf i).toNat)
          case atStart => exact ⟨0, [], Nat.zero_le _, rfl, Nat.le_refl _, Below.refl _ _, Own.nil _ _ _ _, (by intro x hx; simp at hx), rfl⟩
          case round =>
            obtain ⟨k2, pa, hk3, rfl, hpk, hb5, hpo, HI, HP⟩ := hrel
            have hbw4 : Below w.heap.size w wr := hbw3.trans (hb5.mono hbw3.size)
            have s1 := cell_below hb5 s0
            by_cases hk4 : k2 < g.nodes.length
            · obtain ⟨d2, hd2⟩ : ∃ d, g.nodes[k2]? = some d := ⟨_, List.getElem?_eq_getElem hk4⟩
              obtain ⟨hid2, x0⟩ := hbN wr hbw4 _ _ hd2
              obtain ⟨y, hy⟩ : ∃ y, (farI g k).getD k2 0 = y := ⟨_, rfl⟩
              have hcy : wr.cell? ⟨gf, of + k2, none⟩ = some (.int .i64 y) := by
                have := hown.cell rfl (map_getD (l := farI g k) (k := k2) (by rw [HL.out]; exact hk4))
                rw [hy] at this
                exact cell_below hb5 this
              have e2 : idAt g.nodes k2 = d2.id := by unfold idAt; rw [hd2]
              have HP2 : Hid (partOf g k = partFrom g (farI g k) (k2 + 1) (g.nodes.length - (k2 + 1)) (if 0 ≤ y then pa ++ [d2.id] else pa)) := by
                have e1 : g.nodes.length - k2 = (g.nodes.length - (k2 + 1)) + 1 := by omega
                unfold Hid
                rw [HP.out, e1, partFrom, e2, hy]
              clear hd2 e2 hy HP
              have hk4' : (k2 : Int) < (g.nodes.length : Int) := by omega
              have hsz3 := hb5.size
              by_cases hy0 : 0 ≤ y
              · have HP3 : Hid (partOf g k = partFrom g (farI g k) (k2 + 1) (g.nodes.length - (k2 + 1)) (pa ++ [d2.id])) := by unfold Hid; rw [HP2.out, if_pos hy0]
                have HI2 : Hid (∀ x ∈ pa ++ [d2.id], I64 x) := by
                  intro x hx
                  rcases List.mem_append.1 hx with h | h
                  · exact HI.out x h
                  · simp at h; subst h; exact hid2
                have hy0' : decide (0 ≤ y) = true := by simpa using hy0
                obtain ⟨Ap, cp, rfl, hpc, hpm⟩ := hpo.form
                have hpo2 := hpo.alloc (.cells #[.int .i64 d2.id] 3)
                clear HP2
                go_wp2_with (first
                  | (at_builtin; refine wpList_append_q _ rfl (.tmp 38) (.tmp 45) _ rfl w3.heap.size 3 i0 (.int .i64 0) 1 8 Tryz.underlying31 hi hz hz1 hz2 rfl (by decide) (.slice Ap pa.length cp) pa.length (pa.map (Value.int .i64)) rfl hpo2 (some ⟨wr.heap.size, 0, none⟩) 1 1 [.int .i64 d2.id] rfl rfl (fun _ => ⟨_, rfl, cell_one_new wr (.int .i64 d2.id) 3⟩) (by simp [Value.oneCell']) (by unfold maxLen; omega) (by omega) (by simp; omega) ?_; intro v7 w7 hown7 hg7 hat7))
                have hb7 : Below w3.heap.size w3 w7 := (hb5.alloc hb5.size _).grown hg7 (by simp; omega) (fun kk hkk => (hpo.lt kk hkk).1)
                have ho7 : Own w7 w3.heap.size 3 1 v7 (pa ++ [d2.id]).length ((pa ++ [d2.id]).map (Value.int .i64)) := by simpa using hown7
                have hl7 : (pa ++ [d2.id]).length ≤ k2 + 1 := by simp; omega
                clear hg7 hat7 hown7
                go_roundw
                case rel => exact ⟨k2 + 1, pa ++ [d2.id], by omega, by go_num, hl7, hb7, ho7, HI2, HP3⟩
                case measure => simp [intOf]; omega
              · have HP3 : Hid (partOf g k = partFrom g (farI g k) (k2 + 1) (g.nodes.length - (k2 + 1)) pa) := by unfold Hid; rw [HP2.out, if_neg hy0]
                have hy0' : decide (0 ≤ y) = false := by simpa using hy0
                have hy1 : y < 0 := by omega
                clear HP2
                go_wp2_with fail
                go_roundw
                case rel => exact ⟨k2 + 1, pa, by omega, by go_num, by omega, hb5, hpo, HI, HP3⟩
                case measure => simp [intOf]; omega
            · obtain rfl : k2 = g.nodes.length := by omega
              have HQ : Hid (partOf g k = pa) := by unfold Hid; rw [HP.out, Nat.sub_self]; rfl
              obtain ⟨Ap, cp, rfl, hpc, hpm⟩ := hpo.form
              have hB3 := hP3.bel.size
              have hP4 : PartsW w1.heap.size w1 wr u5 us acc := ⟨hP3.bel.trans (hb5.mono hP3.bel.size), hP3.out.below hb5, hP3.parts.below hb5⟩
              obtain ⟨Ao, co, rfl, hoc, hom⟩ := hP4.out.form
              have ho4 := hP4.out.alloc (.cells #[.slice Ap pa.length cp] 31)
              clear HP hP3
              go_wp2_with (first
                | (at_builtin; refine wpList_append_q _ rfl (.tmp 48) (.tmp 50) _ rfl w1.heap.size 31 j0 (.slice none 0 0) 1 24 Tryz.underlying50 ji jz jz1 jz2 rfl (by decide) (.slice Ao acc.length co) acc.length us rfl ho4 (some ⟨wr.heap.size, 0, none⟩) 1 1 [.slice Ap pa.length cp] rfl rfl (fun _ => ⟨_, rfl, cell_one_new wr (.slice Ap pa.length cp) 31⟩) (by simp [Value.oneCell']) (by unfold maxLen; omega) (by omega) (by have := hb5.size; simp; omega) ?_; intro v7 w7 hown7 hg7 hat7))
              have hpa : Own wr w1.heap.size 3 1 (.slice Ap pa.length cp) pa.length (pa.map (Value.int .i64)) := hpo.mono (by omega)
              have hP7 : PartsW w1.heap.size w1 w7 v7 (us ++ [.slice Ap pa.length cp]) (acc ++ [pa]) := by
                have hbb : Below wr.heap.size wr (wr.alloc (.cells #[.slice Ap pa.length cp] 31)) := (Below.refl _ _).alloc (Nat.le_refl _) _
                refine ⟨(hP4.bel.alloc hP4.bel.size _).grown hg7 (by have := hP4.bel.size; simp; omega) (fun kk hkk => (hP4.out.lt kk hkk).1), by simpa using hown7, ?_⟩
                exact ((hP4.parts.push hpa HI.out).below hbb).grown ho4 hg7
              have HS3 : Hid (partsI g = partsFrom g (k + 1) (g.nodes.length - (k + 1)) (acc ++ [pa])) := by unfold Hid; rw [HS2.out, HQ.out]
              have hl7 : (acc ++ [pa]).length ≤ k + 1 := by simp; omega
              clear hg7 hat7 hown7 HS2 HQ
              go_roundw
              case rel => exact ⟨k + 1, _, _, by omega, by go_num, hl7, hP7, HS3⟩
              case measure => simp [intOf]; omega
      · obtain rfl : k = g.nodes.length := by omega
        have HE2 : Hid (partsL g = acc) := by
          unfold Hid; rw [HE.out.2, HR.out, Nat.sub_self]; rfl
        have hSl := hP.parts.sl hP.out
        obtain ⟨Ao, co, rfl, _, _⟩ := hSl.form
        have HX := Lib.hid hSl
        clear hSl hP HR
        go_wp2_with fail
        go_ret2
        exact ⟨_, by rw [HE.out.1]; rfl, by rw [HE2.out]; exact HX.out, hbw⟩
  · have hE : errV (grfE g) = .iface 62 (.int .i64 (grfE g)) := errV_some h0
    have HE : Hid (errV (grfE g) = .iface 62 (.int .i64 (grfE g)) ∧ partsL g = []) := by unfold partsL Hid; rw [if_neg h0]; exact ⟨hE, rfl⟩
    go_enter Tryz.func10, Tryz.ntmps10
    go_wp2_with fail
    refine (grfCheck_any g _ _ _ (hg.below hb0)).mono ?_
    rintro e w1 ⟨rfl, hb1⟩
    rw [hE]
    have hb2 : Below w.heap.size w w1 := hb0.trans (hb1.mono hb0.size)
    clear hb1
    go_wp2_with fail
    go_ret2
    exact ⟨_, by rw [HE.out.1]; rfl, by rw [HE.out.2]; exact Sl.nil 0 (by unfold maxLen; omega) none, hb2⟩
end Go.Proofs.YtfjnkidblalckaaGreatDoor
