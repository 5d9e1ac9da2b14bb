/- Parts: SchB, Same, Chk5, FarP. -/
import Derived.Test.YtfjnkidblalckaaGreatDoorMg10
import Derived.Test.YtfjnkidblalckaaGreatDoorMg09
import Derived.Test.YtfjnkidblalckaaGreatDoorMg06
import Derived.Test.YtfjnkidblalckaaGreatDoorMg07
/- Contracts: schema.Check, schema.Right. -/
namespace Go.Proofs.YtfjnkidblalckaaGreatDoor
open Go Go.RowKit

theorem bndsE_step {ks : List Knd} {l : List Bnd} {k : Nat} {d : Bnd} {E : ByteArray × Int} (hd : l[k]? = some d) (h : E = bndsE ks (l.take k) (l.drop k)) :
    E = if bndE ks (l.take k) d = 0 then bndsE ks (l.take (k + 1)) (l.drop (k + 1)) else (d.name, bndE ks (l.take k) d) := by
  rw [h, drop_cons hd, bndsE, take_step hd]
def SCheckR (s : Scm) (w : World) (e : Ending) (w' : World) : Prop := e = .returned (.tuple #[.string (scmE s).1, errV (scmE s).2]) ∧ Below w.heap.size w w'
set_option maxRecDepth 100000 in
set_option maxHeartbeats 4000000 in
theorem scheck_any (s : Scm) (vk vb : Value) (w : World) (hv : ScmR w vk vb s) : Calls Tryz.prog 46 #[.agg #[vk, vb]] w (SCheckR s w) := by
  obtain ⟨Ak, ck, rfl, _, _⟩ := hv.1.form
  obtain ⟨Ab, cb, rfl, hlc, hcm⟩ := hv.2.form
  have hb0 : Below w.heap.size w (w.alloc (.cells #[.slice Ak s.kinds.length ck, .slice Ab s.bonds.length cb] 25)) := (Below.refl _ _).alloc (Nat.le_refl _) _
  obtain ⟨x0, x1⟩ := cell_box2 w (.slice Ak s.kinds.length ck) (.slice Ab s.bonds.length cb) 25
  have HV := Lib.hid (hv.below hb0)
  have hck := kcheck_any s.kinds _ _ (hv.1.below hb0)
  have HE0 : Hid (scmE s = if (checkE s.kinds).2 = 0 then (if 12 < s.bonds.length then (.empty, 4) else bndsE s.kinds [] s.bonds) else checkE s.kinds) := rfl
  have hw0 := hb0.size
  clear hv
  go_enter Tryz.func46, Tryz.ntmps46
  go_wp2_with fail
  generalize w.alloc (.cells #[.slice Ak s.kinds.length ck, .slice Ab s.bonds.length cb] 25) = w0 at *
  refine hck.mono ?_
  clear hck
  rintro e w1 ⟨rfl, hb1⟩
  have hB1 := hb0.trans (hb1.mono hw0)
  have x0 := cell_below hb1 x0
  have x1 := cell_below hb1 x1
  have HV1 := Lib.hid (HV.out.below hb1)
  have hw1 := hB1.size
  generalize hce : checkE s.kinds = ce at *
  by_cases he : ce.2 = 0
  case neg =>
    have HF : Hid (scmE s = ce) := by unfold Hid; rw [HE0.out, if_neg he]
    have HF2 : Hid (errV ce.2 = .iface 62 (.int .i64 ce.2)) := errV_some he
    rw [errV_some he]
    clear he HE0 hce
    go_wp2_with fail
    go_ret2
    exact ⟨by rw [HF.out, HF2.out]; rfl, hB1⟩
  have HE1 : Hid (scmE s = if 12 < s.bonds.length then (.empty, 4) else bndsE s.kinds [] s.bonds) := by unfold Hid; rw [HE0.out, if_pos he]
  rw [errV_zero he]
  clear he HE0 hce
  by_cases h12 : 12 < s.bonds.length
  · have HF : Hid (scmE s = (.empty, 4)) := by unfold Hid; rw [HE1.out, if_pos h12]
    have h12' : (12 : Int) < (s.bonds.length : Int) := by omega
    clear HE1
    go_wp2_with fail
    go_ret2
    exact ⟨by rw [HF.out]; rfl, hB1⟩
  have HE2 : Hid (scmE s = bndsE s.kinds [] s.bonds) := by unfold Hid; rw [HE1.out, if_neg h12]
  have h12' : (s.bonds.length : Int) ≤ 12 := by omega
  clear HE1 h12
  go_wp2_with fail
  go_loopw [27] (fun i wr => ∃ k : Nat, k ≤ s.bonds.length ∧ i = .int .i64 k ∧ Below w1.heap.size w1 wr ∧ Hid (scmE s = bndsE s.kinds (s.bonds.take k) (s.bonds.drop k))) (fun i _ => s.bonds.length - (intOf i).toNat)
  case atStart => exact ⟨0, Nat.zero_le _, rfl, Below.refl _ _, HE2.out⟩
  case round =>
    obtain ⟨k, hk, rfl, hb, HR⟩ := hrel
    have y0 := cell_below hb x0
    have y1 := cell_below hb x1
    have hBr := hB1.trans (hb.mono hw1)
    clear x0 x1
    by_cases hlt : k < s.bonds.length
    · obtain ⟨d, hd⟩ : ∃ d, s.bonds[k]? = some d := ⟨_, List.getElem?_eq_getElem hlt⟩
      have hlt' : (k : Int) < (s.bonds.length : Int) := by omega
      have HV2 := Lib.hid (HV1.out.below hb)
      obtain ⟨b, o, rfl, hok, c0, c1, c2, c3, c4⟩ := bnd_at HV2.out.2 hd
      have hbx : Below wr.heap.size wr (wr.alloc (.cells #[.string d.name, .string d.src, .string d.dst, .int .i64 d.mn, .int .i64 d.mx] 43)) := (Below.refl _ _).alloc (Nat.le_refl _) _
      obtain ⟨z0, _, _, _, _⟩ := cell_box5 wr (.string d.name) (.string d.src) (.string d.dst) (.int .i64 d.mn) (.int .i64 d.mx) 43
      have v0 := cell_below hbx y0
      have v1 := cell_below hbx y1
      have hbd := bond_any s k d _ _ _ (HV2.out.below hbx) hd
      have HS := Lib.hid (bndsE_step hd HR.out)
      generalize bndE s.kinds (s.bonds.take k) d = q at *
      clear hd HR
      go_wp2_with fail
      refine hbd.mono ?_
      clear hbd
      rintro e w3 ⟨rfl, hb3⟩
      have hB3 := hb.trans ((hbx.trans (hb3.mono hbx.size)).mono hb.size)
      have z0 := cell_below hb3 z0
      by_cases hq : q = 0
      · have HS2 : Hid (scmE s = bndsE s.kinds (s.bonds.take (k + 1)) (s.bonds.drop (k + 1))) := by unfold Hid; rw [HS.out, if_pos hq]
        rw [errV_zero hq]
        clear hq HS v0 v1 c0 c1 c2 c3 c4
        go_wp2_with fail
        go_roundw
        case rel => exact ⟨k + 1, by omega, by go_num, hB3, HS2⟩
        case measure => simp [intOf]; omega
      · have HF : Hid (scmE s = (d.name, q)) := by unfold Hid; rw [HS.out, if_neg hq]
        have HF2 : Hid (errV q = .iface 62 (.int .i64 q)) := errV_some hq
        rw [errV_some hq]
        clear hq HS v0 v1 c0 c1 c2 c3 c4
        go_wp2_with fail
        go_ret2
        exact ⟨by rw [HF.out, HF2.out]; rfl, hB1.trans (hB3.mono hw1)⟩
    · obtain rfl : k = s.bonds.length := by omega
      have HF : Hid (scmE s = (.empty, 0)) := by unfold Hid; rw [HR.out, List.drop_length]; rfl
      clear HR
      go_wp2_with fail
      go_ret2
      exact ⟨by rw [HF.out]; rfl, hBr⟩
theorem sright_any (s : Scm) (vk vb : Value) (w : World) (hv : ScmR w vk vb s) : Calls Tryz.prog 30 #[.agg #[vk, vb]] w fun e w' => e = .returned (errV (scmE s).2) ∧ Below w.heap.size w w' := by
  have hb0 : Below w.heap.size w (w.alloc (.cells #[vk, vb] 25)) := (Below.refl _ _).alloc (Nat.le_refl _) _
  have h1 := scheck_any s vk vb _ (hv.below hb0)
  obtain ⟨z, hz⟩ : ∃ z, z = errV (scmE s).2 := ⟨_, rfl⟩
  have HZ := Lib.hid hz
  obtain ⟨A, c, rfl, _, _⟩ := hv.1.form
  obtain ⟨A', c', rfl, _, _⟩ := hv.2.form
  clear hv
  go_enter Tryz.func30, Tryz.ntmps30
  go_wp2_with fail
  refine h1.mono ?_
  clear h1
  rintro e w2 ⟨he, hb2⟩
  rw [← HZ.out] at he
  subst he
  clear hz
  go_wp2_with fail
  go_ret
  exact ⟨by rw [← HZ.out]; rfl, hb0.trans (hb2.mono (by simp))⟩
end Go.Proofs.YtfjnkidblalckaaGreatDoor

/- Plain: blocks of one element type stay as they are where only blocks of other types are written. No condition. -/
namespace Go.Proofs.YtfjnkidblalckaaGreatDoor
open Go Go.RowKit

/-- All blocks of cells of type T are as they were. -/
def Same (T : TypeId) (w w' : World) : Prop := ∀ (k : Nat) c fr, w.heap[k]? = some (.cells c T fr) → w'.heap[k]? = some (.cells c T fr)
theorem Same.refl (T : TypeId) (w : World) : Same T w w := fun _ _ _ h => h
theorem Same.trans {T : TypeId} {a b c : World} (h : Same T a b) (k : Same T b c) : Same T a c := fun i x fr hx => k i x fr (h i x fr hx)
theorem Same.below {T : TypeId} {w w' : World} (hb : Below w.heap.size w w') : Same T w w' := fun k _ _ h => (hb.block k (Array.getElem?_eq_some_iff.1 h).1).trans h
theorem Same.alloc {T : TypeId} (w : World) (o : Obj) : Same T w (w.alloc o) := .below ((Below.refl _ _).alloc (Nat.le_refl _) _)
theorem Same.drewN {T : TypeId} (w : World) (n : Nat) : Same T w (w.drewN n) := fun _ _ _ h => h
theorem Same.drew {T : TypeId} (w : World) : Same T w w.drew := fun _ _ _ h => h
theorem Same.grown {T e : TypeId} {w w' : World} {B sz n : Nat} {v : Value} {xs : List Value} (ho : Own w B e sz v n xs) (hne : e ≠ T) (hg : w.grownBy w' v.ownBlock) : Same T w w' := fun k c fr h => by
  have hlt := (Array.getElem?_eq_some_iff.1 h).1
  refine (hg.block k hlt fun e' => ?_).trans h
  rcases ho.2 with ⟨rfl, _⟩ | ⟨g, o, cap, cur, rfl, _, hg2, _⟩
  · simp [Value.ownBlock] at e'
  · simp [Value.ownBlock] at e'
    subst e'
    rw [h] at hg2
    injection hg2 with hg2
    injection hg2 with _ h2 _
    exact hne h2.symm
theorem Same.setCell {T e : TypeId} {w : World} {p : Addr} {c : Array Value} {fr : Nat × Nat} (hp : w.heap[p.block]? = some (.cells c e fr)) (hne : e ≠ T) (u : Value) : Same T w (w.setCell p u) := fun k c' fr' h => by
  refine (Below.heap_setCell w p u k (fun e' => ?_)).trans h
  subst e'
  rw [h] at hp
  injection hp with hp
  injection hp with _ h2 _
  exact hne h2.symm
theorem Own.same {w w' : World} {B : Nat} {e : TypeId} {sz : Nat} {v : Value} {n : Nat} {xs : List Value} (h : Own w B e sz v n xs) (hs : Same e w w') : Own w' B e sz v n xs := by
  refine ⟨h.1, ?_⟩
  rcases h.2 with hn | ⟨g, o, cap, cur, rfl, hb, hg, rest⟩
  · exact .inl hn
  · exact .inr ⟨g, o, cap, cur, rfl, hb, hs g cur _ hg, rest⟩

/-- Nodes of which each one's record is the call's own. -/
def OwnNods (w : World) (B : Nat) : List Nod → List Value → Prop
  | [], xs => xs = []
  | d :: l, xs => ∃ u ys, xs = [.int .i64 d.id, .string d.kind, u] ++ ys ∧ I64 d.id ∧ Sm d.kind ∧ (∀ p ∈ d.props, p.ok) ∧ Own w B 114 4 u d.props.length (d.props.flatMap Prp.enc) ∧ OwnNods w B l ys
theorem OwnNods.same {w w' : World} {B : Nat} (hs : Same 114 w w') : ∀ {l : List Nod} {xs : List Value}, OwnNods w B l xs → OwnNods w' B l xs
  | [], _, h => h
  | _ :: _, _, h => by
    obtain ⟨u, ys, rfl, h1, h2, h3, h4, h5⟩ := h
    exact ⟨u, ys, rfl, h1, h2, h3, h4.same hs, h5.same hs⟩
theorem OwnNods.snoc {w : World} {B : Nat} {d : Nod} {u : Value} (h1 : I64 d.id) (h2 : Sm d.kind) (h3 : ∀ p ∈ d.props, p.ok) (h4 : Own w B 114 4 u d.props.length (d.props.flatMap Prp.enc)) :
    ∀ {l : List Nod} {xs : List Value}, OwnNods w B l xs → OwnNods w B (l ++ [d]) (xs ++ [.int .i64 d.id, .string d.kind, u])
  | [], xs, h => by rw [show xs = [] from h]; exact ⟨u, [], by simp, h1, h2, h3, h4, rfl⟩
  | e :: l, xs, h => by
    obtain ⟨v, ys, rfl, k1, k2, k3, k4, k5⟩ := h
    exact ⟨v, ys ++ [.int .i64 d.id, .string d.kind, u], by simp, k1, k2, k3, k4, k5.snoc h1 h2 h3 h4⟩
theorem OwnNods.row {w : World} {B : Nat} : ∀ {l : List Nod} {xs : List Value}, OwnNods w B l xs → Row nodL w l xs
  | [], _, h => h
  | _ :: _, _, h => by
    obtain ⟨u, ys, rfl, h1, h2, h3, h4, h5⟩ := h
    exact ⟨_, ys, rfl, ⟨u, rfl, h1, h2, h4.prps h3⟩, h5.row⟩
theorem Own.nods {w : World} {B B' : Nat} {e : TypeId} {v : Value} {l : List Nod} {xs : List Value} (h : Own w B e 3 v l.length xs) (hn : OwnNods w B' l xs) : Sl nodL w v l := Own.row (L := nodL) h hn.row
theorem own_of_block {w : World} {b B : Nat} {e : TypeId} {sz n : Nat} {cs : List Value} (h : w.heap[b]? = some (.cells cs.toArray e (0, 0))) (hB : B ≤ b) (hl : cs.length = n * sz) (hm : n ≤ maxLen) : Own w B e sz (.slice (some ⟨b, 0, none⟩) n n) n cs :=
  ⟨hl, .inr ⟨b, 0, n, cs.toArray, rfl, hB, h, Nat.le_refl _, hm, by simp [hl], by rw [List.drop_zero, ← hl]; exact List.take_length⟩⟩
theorem Own.ne_block {w : World} {B : Nat} {e e' : TypeId} {sz n k : Nat} {v : Value} {xs : List Value} {c : Array Value} {fr : Nat × Nat} (ho : Own w B e sz v n xs) (h : w.heap[k]? = some (.cells c e' fr)) (hne : e' ≠ e) : some k ≠ v.ownBlock := by
  intro e1
  rcases ho.2 with ⟨rfl, _⟩ | ⟨g, o, cap, cur, rfl, _, hg2, _⟩
  · simp [Value.ownBlock] at e1
  · simp [Value.ownBlock] at e1
    subst e1
    rw [h] at hg2
    injection hg2 with hg2
    injection hg2 with _ h2 _
    exact hne h2
theorem grown_block {w w' : World} {k : Nat} {row : Option Nat} {o : Obj} (hg : w.grownBy w' row) (h : w.heap[k]? = some o) (hne : some k ≠ row) : w'.heap[k]? = some o :=
  (hg.block k (Array.getElem?_eq_some_iff.1 h).1 hne).trans h
theorem block_cell {w : World} {k : Nat} {c : Array Value} {T : TypeId} {fr : Nat × Nat} (h : w.heap[k]? = some (.cells c T fr)) (i : Nat) : w.cell? ⟨k, i, none⟩ = c[i]? := by
  simp [World.cell?, h]
theorem block_free {w : World} {k : Nat} {c : Array Value} {T : TypeId} (h : w.heap[k]? = some (.cells c T (0, 0))) (i : Nat) : w.frozen? ⟨k, i, none⟩ = false := by
  simp [World.frozen?, h]
theorem setCell_block {w : World} {k : Nat} {c : Array Value} {T : TypeId} {fr : Nat × Nat} (h : w.heap[k]? = some (.cells c T fr)) (i : Nat) (u : Value) : (w.setCell ⟨k, i, none⟩ u).heap[k]? = some (.cells (c.setIfInBounds i u) T fr) := by
  simp [World.setCell, Array.getElem?_modify, h]
end Go.Proofs.YtfjnkidblalckaaGreatDoor

/- Contract: what is wrong with a schema and a graph by themselves. No condition. -/
namespace Go.Proofs.YtfjnkidblalckaaGreatDoor
open Go Go.RowKit

def readySG (s : Scm) (g : Grf) : Int := if (scmE s).2 = 0 then grfE g else (scmE s).2
theorem cready_any (s : Scm) (g : Grf) (vk vb vn vt : Value) (w : World) (hs : ScmR w vk vb s) (hg : GrfR w vn vt g) :
    Calls Tryz.prog 17 #[.agg #[vk, vb], .agg #[vn, vt]] w fun e w' => e = .returned (errV (readySG s g)) ∧ Below w.heap.size w w' := by
  obtain ⟨A1, c1, rfl, _, _⟩ := hs.1.form
  obtain ⟨A2, c2, rfl, _, _⟩ := hs.2.form
  obtain ⟨A3, c3, rfl, _, _⟩ := hg.1.form
  obtain ⟨A4, c4, rfl, _, _⟩ := hg.2.form
  obtain ⟨W0, hW0⟩ : ∃ W0, W0 = (w.alloc (.cells #[.slice A1 s.kinds.length c1, .slice A2 s.bonds.length c2] 25)).alloc (.cells #[.slice A3 g.nodes.length c3, .slice A4 g.ties.length c4] 29) := ⟨_, rfl⟩
  have hb0 : Below w.heap.size w W0 := by rw [hW0]; exact ((Below.refl _ _).alloc (Nat.le_refl _) _).alloc (by simp) _
  have g0 : W0.heap[w.heap.size]? = some (.cells #[.slice A1 s.kinds.length c1, .slice A2 s.bonds.length c2] 25 (0, 0)) := by
    rw [hW0, Below.heap_alloc _ _ _ (by simp)]; exact heap_alloc_new _ _
  have g1 : W0.heap[w.heap.size + 1]? = some (.cells #[.slice A3 g.nodes.length c3, .slice A4 g.ties.length c4] 29 (0, 0)) := by
    have := heap_alloc_new (w.alloc (.cells #[.slice A1 s.kinds.length c1, .slice A2 s.bonds.length c2] 25)) (.cells #[.slice A3 g.nodes.length c3, .slice A4 g.ties.length c4] 29); rw [hW0]; simpa using this
  have hW0' := hW0.symm
  have hr1 := sright_any s _ _ _ (hs.below hb0)
  have HG := Lib.hid hg
  have HBE : Hid (readySG s g = if (scmE s).2 = 0 then grfE g else (scmE s).2) := rfl
  have HQ := Lib.hid g1
  have x0 := block_cell g0 0
  have x1 := block_cell g0 1
  have hw0 := hb0.size
  generalize hz : (scmE s).2 = z at *
  generalize hbe : readySG s g = be at *
  clear hs hg g0 g1 hz hbe hW0
  go_enter Tryz.func17, Tryz.ntmps17
  go_wp2_with fail
  refine hr1.mono ?_
  clear hr1 hW0'
  rintro e w1 ⟨rfl, hb1⟩
  have hB1 := hb0.trans (hb1.mono hw0)
  have g2 := (hb1.block _ (Array.getElem?_eq_some_iff.1 HQ.out).1).trans HQ.out
  by_cases he : z = 0
  case neg =>
    have HE : Hid (errV be = .iface 62 (.int .i64 z)) := by unfold Hid; rw [HBE.out, if_neg he]; exact errV_some he
    rw [errV_some he]
    clear he
    go_wp2_with fail
    go_ret
    exact ⟨by rw [HE.out]; rfl, hB1⟩
  have HE : Hid (be = grfE g) := by unfold Hid; rw [HBE.out, if_pos he]
  have hr2 := grfCheck_any g _ _ w1 (HG.out.below hB1)
  have y0 := block_cell g2 0
  have y1 := block_cell g2 1
  rw [errV_zero he]
  generalize grfE g = z2 at *
  clear he g2 x0 x1
  go_wp2_with fail
  refine hr2.mono ?_
  clear hr2
  rintro e w2 ⟨rfl, hb2⟩
  go_wp2_with fail
  go_ret
  exact ⟨by rw [HE.out]; rfl, hB1.trans (hb2.mono hB1.size)⟩
end Go.Proofs.YtfjnkidblalckaaGreatDoor

/- Plain: the search by breadth of package stat, as functions on lists; what stays true from step to step. -/
namespace Go.Proofs.YtfjnkidblalckaaGreatDoor

def farEnd (nodes : List Nod) (id d : Int) (e : Int × Int) (st : List Int × List Nat) : List Int × List Nat :=
  if e.1 = id ∧ fhas nodes e.2 = true ∧ st.1.getD (fpos nodes e.2) 0 < 0 then (st.1.set (fpos nodes e.2) (d + 1), st.2 ++ [fpos nodes e.2]) else st
def tieEnds (t : Tie) : List (Int × Int) := [(t.src, t.dst), (t.dst, t.src)]
def farTie (nodes : List Nod) (id d : Int) (st : List Int × List Nat) (t : Tie) : List Int × List Nat := (tieEnds t).foldl (fun st e => farEnd nodes id d e st) st
def farTies (nodes : List Nod) (id d : Int) (ts : List Tie) (st : List Int × List Nat) : List Int × List Nat := ts.foldl (farTie nodes id d) st
def idAt (nodes : List Nod) (r : Nat) : Int := match nodes[r]? with | some n => n.id | none => 0
def farRun (g : Grf) : Nat → List Int × List Nat → List Int
  | 0, st => st.1
  | f + 1, st => match st.2 with
    | [] => st.1
    | r :: _ => farRun g f ((farTies g.nodes (idAt g.nodes r) (st.1.getD r 0) g.ties st).1, (farTies g.nodes (idAt g.nodes r) (st.1.getD r 0) g.ties st).2.tail)
def farI (g : Grf) (src : Nat) : List Int := farRun g g.nodes.length ((List.replicate g.nodes.length (-1)).set src 0, [src])

def negs (l : List Int) : Nat := l.countP (fun v => decide (v < 0))
theorem negs_set : ∀ {l : List Int} {k : Nat} {v : Int}, k < l.length → l.getD k 0 < 0 → 0 ≤ v → negs (l.set k v) + 1 = negs l
  | a :: r, 0, v, _, h2, h3 => by
    simp only [List.getD_cons_zero] at h2
    simp [negs, h2, Int.not_lt.2 h3]
  | a :: r, k + 1, v, h1, h2, h3 => by
    have ih := negs_set (l := r) (k := k) (v := v) (by simpa using h1) (by simpa using h2) h3
    simp only [negs, List.set_cons_succ, List.countP_cons] at ih ⊢
    omega
theorem getD_set_other {l : List Int} {j k : Nat} {v : Int} (h : k ≠ j) : (l.set k v).getD j 0 = l.getD j 0 := by
  simp [List.getD, h]
theorem getD_set_self {l : List Int} {k : Nat} {v : Int} (h : k < l.length) : (l.set k v).getD k 0 = v := by
  simp [List.getD, h]

structure FInv (n gk r0 : Nat) (d : Int) (st : List Int × List Nat) : Prop where
  len : st.1.length = n
  hd : ∃ rest, st.2 = r0 :: rest
  mem : ∀ r ∈ st.2, r < n ∧ 0 ≤ st.1.getD r 0
  val : st.1.getD r0 0 = d
  pos : 0 ≤ d
  low : d + gk ≤ n
  top : ∀ v ∈ st.1, -1 ≤ v ∧ v + gk ≤ n + 1
  meas : st.2.length + negs st.1 ≤ gk
theorem FInv.push {n gk r0 : Nat} {d : Int} {st : List Int × List Nat} (h : FInv n gk r0 d st) {k : Nat} (hk : k < n) (hv : st.1.getD k 0 < 0) : FInv n gk r0 d (st.1.set k (d + 1), st.2 ++ [k]) := by
  have hne : k ≠ r0 := by rintro rfl; have := h.val; have := h.pos; omega
  have hkl : k < st.1.length := by rw [h.len]; exact hk
  obtain ⟨rest, hr⟩ := h.hd
  refine ⟨by simp [h.len], ⟨rest ++ [k], by simp [hr]⟩, ?_, ?_, h.pos, h.low, ?_, ?_⟩
  · intro r hr
    simp only [List.mem_append, List.mem_singleton] at hr
    rcases hr with hr | rfl
    · obtain ⟨h1, h2⟩ := h.mem r hr
      refine ⟨h1, ?_⟩
      rw [getD_set_other (by rintro rfl; omega)]
      exact h2
    · refine ⟨hk, ?_⟩
      rw [getD_set_self hkl]
      have := h.pos; omega
  · show (st.1.set k (d + 1)).getD r0 0 = d
    rw [getD_set_other hne]; exact h.val
  · intro v hv
    rcases List.mem_or_eq_of_mem_set hv with h1 | rfl
    · exact h.top v h1
    · have := h.pos; have := h.low; omega
  · have h1 := negs_set (l := st.1) (k := k) (v := d + 1) hkl hv (by have := h.pos; omega)
    have h2 := h.meas
    simp only [List.length_append, List.length_singleton]
    omega

/-- At the head of the outer loop. -/
structure OInv (n gk : Nat) (st : List Int × List Nat) : Prop where
  len : st.1.length = n
  mem : ∀ r ∈ st.2, r < n ∧ 0 ≤ st.1.getD r 0
  top : ∀ v ∈ st.1, -1 ≤ v ∧ v + gk ≤ n
  meas : st.2.length + negs st.1 ≤ gk
theorem mem_getD {l : List Int} {k : Nat} (h : k < l.length) : l.getD k 0 ∈ l := by
  simp only [List.getD, List.getElem?_eq_getElem h, Option.getD_some]
  exact List.getElem_mem h
theorem OInv.enter {n gk r0 : Nat} {st : List Int × List Nat} {rest : List Nat} (h : OInv n gk st) (hr : st.2 = r0 :: rest) : FInv n gk r0 (st.1.getD r0 0) st := by
  obtain ⟨h1, h2⟩ := h.mem r0 (by simp [hr])
  have h3 := (h.top _ (mem_getD (l := st.1) (k := r0) (by rw [h.len]; exact h1))).2
  exact ⟨h.len, ⟨rest, hr⟩, h.mem, rfl, h2, h3, fun v hv => ⟨(h.top v hv).1, by have := (h.top v hv).2; omega⟩, h.meas⟩
theorem FInv.leave {n gk r0 : Nat} {d : Int} {st : List Int × List Nat} (h : FInv n gk r0 d st) : OInv n (gk - 1) (st.1, st.2.tail) := by
  obtain ⟨rest, hr⟩ := h.hd
  have hm := h.meas
  rw [hr] at hm
  simp only [List.length_cons] at hm
  refine ⟨h.len, fun r hr' => h.mem r (List.mem_of_mem_tail hr'), fun v hv => ⟨(h.top v hv).1, by have := (h.top v hv).2; omega⟩, ?_⟩
  simp only [hr, List.tail_cons]
  omega
theorem negs_replicate (n : Nat) : negs (List.replicate n (-1)) = n := by simp [negs, List.countP_replicate]
theorem OInv.start {n src : Nat} (h : src < n) : OInv n n ((List.replicate n (-1)).set src 0, [src]) := by
  have hl : src < (List.replicate n (-1 : Int)).length := by simpa using h
  have hg : (List.replicate n (-1 : Int)).getD src 0 = -1 := by simp [List.getD, h]
  refine ⟨by simp, ?_, ?_, ?_⟩
  · intro r hr
    simp only [List.mem_singleton] at hr
    subst hr
    refine ⟨h, ?_⟩
    rw [getD_set_self hl]
    omega
  · intro v hv
    rcases List.mem_or_eq_of_mem_set hv with h1 | rfl
    · have := List.eq_of_mem_replicate h1
      omega
    · omega
  · have h1 := negs_set (l := List.replicate n (-1)) (k := src) (v := 0) hl (by rw [hg]; omega) (by omega)
    rw [negs_replicate] at h1
    simp only [List.length_singleton]
    omega
theorem fhas_lt {l : List Nod} {id : Int} (h : fhas l id = true) : fpos l id < l.length := by
  unfold fhas eqAt at h
  split at h
  · rename_i d hd
    exact (List.getElem?_eq_some_iff.1 hd).1
  · cases h
theorem map_getD {l : List Int} {k : Nat} (h : k < l.length) : (l.map (Value.int .i64))[k]? = some (.int .i64 (l.getD k 0)) := by
  simp [List.getD, h]
theorem farEnd_no {nodes : List Nod} {id d : Int} {e : Int × Int} {st : List Int × List Nat} (h : ¬ (e.1 = id ∧ fhas nodes e.2 = true ∧ st.1.getD (fpos nodes e.2) 0 < 0)) : farEnd nodes id d e st = st := by
  unfold farEnd; rw [if_neg h]
theorem farEnd_yes {nodes : List Nod} {id d : Int} {e : Int × Int} {st : List Int × List Nat} (h : e.1 = id ∧ fhas nodes e.2 = true ∧ st.1.getD (fpos nodes e.2) 0 < 0) :
    farEnd nodes id d e st = (st.1.set (fpos nodes e.2) (d + 1), st.2 ++ [fpos nodes e.2]) := by
  unfold farEnd; rw [if_pos h]
theorem fold_drop {α β : Type} {f : β → α → β} {l : List α} {k : Nat} {e : α} {x s : β} (h : x = (l.drop k).foldl f s) (he : l[k]? = some e) : x = (l.drop (k + 1)).foldl f (f s e) := by
  rw [h, drop_cons he]; rfl
end Go.Proofs.YtfjnkidblalckaaGreatDoor
