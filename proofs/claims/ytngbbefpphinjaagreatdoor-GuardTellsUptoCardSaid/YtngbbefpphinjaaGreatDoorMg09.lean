/- Parts: DelChg, RecU, DelDo, HldG, OpenA. -/
import Derived.Test.YtngbbefpphinjaaGreatDoorMg07
import Derived.Test.YtngbbefpphinjaaGreatDoorMg08
import Derived.Test.YtngbbefpphinjaaGreatDoorMg01
import Derived.Test.YtngbbefpphinjaaGreatDoorRows
import Derived.Deep.Slices
import Derived.Lib.SmallJoins
import Derived.JoinedCond
import Derived.Carry
/- Contract: delta.change, whatever it is handed to change a record by. -/
namespace Go.Proofs.YtngbbefpphinjaaGreatDoor
open Go Go.RowKit
def chgG (g : Grf) (id : Int) (fR : List Prp -> List Prp) : Grf := ⟨putRec g.nodes (fpos g.nodes id) (fR (recAt g.nodes id)), g.ties⟩
def chgE (g : Grf) (id : Int) (fE : List Prp -> Int) : Int := if fhas g.nodes id then fE (recAt g.nodes id) else 5
set_option maxRecDepth 100000 in
set_option maxHeartbeats 8000000 in
theorem chg_any (f : Nat) (caps : Array Value) (ef : ∀ args w, (callFunc f args).run Tryz.prog w = .ok (.enter f args) w) (fR : List Prp -> List Prp) (fE : List Prp -> Int) (g : Grf) (id : Int) (vn vt : Value) (xs : List Value) (B : Nat) (w : World) (hB : B <= w.heap.size) (hG : OwnG w B vn vt g xs) (hc : chain nodLt g.nodes = true) (hn : g.nodes.length <= 1000)
 (hby : ∀ (r : List Prp) (v : Value) (w' : World), Below w.heap.size w w' -> Sl prpL w' v r -> Calls Tryz.prog f (#[v] ++ caps) w' (RetO (fR r) (fE r) w')) :
 Calls Tryz.prog 102 #[.agg #[vn, vt], .int .i64 id, .func (.func f) #[] caps] w (RetOG B vn vt (chgG g id fR) (chgE g id fE) w) := by
 obtain ⟨An, cn, rfl, _, _⟩ := hG.n.form
 obtain ⟨At, ct, rfl, _, _⟩ := hG.t.form
 have hb0 : Below w.heap.size w ((w.alloc (.cells #[.slice An g.nodes.length cn, .slice At g.ties.length ct] 25)).alloc (.cells #[.slice none 0 0, .slice none 0 0] 25)) := ((Below.refl _ _).alloc (Nat.le_refl _) _).alloc (by simp) _
 have g0 : ((w.alloc (.cells #[.slice An g.nodes.length cn, .slice At g.ties.length ct] 25)).alloc (.cells #[.slice none 0 0, .slice none 0 0] 25)).heap[w.heap.size]? = some (.cells #[.slice An g.nodes.length cn, .slice At g.ties.length ct] 25 (0, 0)) := by
  rw [Below.heap_alloc _ _ _ (by simp)]; exact heap_alloc_new _ _
 have g2 : ((w.alloc (.cells #[.slice An g.nodes.length cn, .slice At g.ties.length ct] 25)).alloc (.cells #[.slice none 0 0, .slice none 0 0] 25)).heap[w.heap.size + 1]? = some (.cells #[.slice none 0 0, .slice none 0 0] 25 (0, 0)) := by
  have := heap_alloc_new (w.alloc (.cells #[.slice An g.nodes.length cn, .slice At g.ties.length ct] 25)) (.cells #[.slice none 0 0, .slice none 0 0] 25); simpa using this
 have hsz : ((w.alloc (.cells #[.slice An g.nodes.length cn, .slice At g.ties.length ct] 25)).alloc (.cells #[.slice none 0 0, .slice none 0 0] 25)).heap.size = w.heap.size + 2 := by simp
 generalize hW0 : ((w.alloc (.cells #[.slice An g.nodes.length cn, .slice At g.ties.length ct] 25)).alloc (.cells #[.slice none 0 0, .slice none 0 0] 25)) = W0 at *
 have hG0 := hG.below hb0
 have hf := find_any g _ _ W0 hG0.r id hc hn
 have x0 := block_cell g0 0
 have x1 := block_cell g0 1
 have HG := Lib.hid hG0
 have HW0 := Lib.hid hW0
 have HBY := Lib.hid hby
 clear hG hG0 hby
 obtain ⟨E, hE⟩ : ∃ E : Int, E = chgE g id fE := ⟨_, rfl⟩
 rw [<- hE]
 have HE : Hid (E = if fhas g.nodes id then fE (recAt g.nodes id) else 5) := hE
 clear hE
 go_enter Tryz.func102, Tryz.ntmps102
 go_wp2_with fail
 refine hf.mono ?_
 clear hf
 rintro e w1 ⟨rfl, hb1⟩
 have hB1 := hb0.trans (hb1.mono hb0.size)
 have m0 := (hb1.block _ (geB g0)).trans g0
 have m2 := (hb1.block _ (geB g2)).trans g2
 have hG1 := HG.out.below hb1
 have hs1 := hb1.size
 have HFS : Hid (fhas g.nodes id = true -> ∃ n, g.nodes[fpos g.nodes id]? = some n) := fhas_some'
 have HRA : Hid (∀ n, g.nodes[fpos g.nodes id]? = some n -> recAt g.nodes id = n.props) := fun n h => by unfold recAt; rw [h]
 have HCG : Hid (chgG g id fR = ⟨putRec g.nodes (fpos g.nodes id) (fR (recAt g.nodes id)), g.ties⟩) := rfl
 generalize fhas g.nodes id = q at *
 generalize fpos g.nodes id = K at *
 clear g0 g2 x0 x1 HG
 cases q with
 | false =>
  have hE : E = 5 := by rw [HE.out]; rfl
  have HEE : Hid (errV E = .iface 122 (.int .i64 5)) := by unfold Hid; rw [hE]; rfl
  clear HE
  have x0 := block_cell m0 0
  have x1 := block_cell m0 1
  have e0 := block_free m2 0
  have e1 := block_free m2 1
  have e2 := block_cell m2 0
  have e3 := block_cell m2 1
  have k3 := setCell_block (setCell_block m2 0 (.slice An g.nodes.length cn)) 1 (.slice At g.ties.length ct)
  have HM := Lib.hid k3
  clear m0 m2 k3 hG1
  go_wp2_with fail
  have k2 := block_cell HM.out 0
  have k3 := block_cell HM.out 1
  exact bodyPost_ret (v := .tuple #[.agg #[.slice An g.nodes.length cn, .slice At g.ties.length ct], .iface 122 (.int .i64 5)]) (by simp [results, Tryz.results102, go_sem, k2, k3]) rfl
   ⟨.slice An g.nodes.length cn, .slice At g.ties.length ct, by simp only [HEE.out], (fun h => absurd h (by omega)), ⟨_, _, _, _, _, _, rfl, rfl⟩, ((hB1.mono hB).setCell (p := ⟨w.heap.size + 1, 0, none⟩) (by show B <= w.heap.size + 1; omega) _).setCell (p := ⟨w.heap.size + 1, 1, none⟩) (by show B <= w.heap.size + 1; omega) _, (((Keep2.below hB1).box (p := ⟨w.heap.size + 1, 0, none⟩) (by show w.heap.size <= w.heap.size + 1; omega) _).box (p := ⟨w.heap.size + 1, 1, none⟩) (by show w.heap.size <= w.heap.size + 1; omega) _)⟩
 | true =>
  obtain ⟨d, hd⟩ := HFS.out rfl
  have hra := HRA.out d hd
  have hkl := (List.getElem?_eq_some_iff.1 hd).1
  have HE2 : Hid (E = fE d.props) := by unfold Hid; rw [HE.out, hra]; rfl
  have HCG2 : Hid (chgG g id fR = ⟨g.nodes.set K ⟨d.id, d.kind, fR d.props⟩, g.ties⟩) := by
   unfold Hid; rw [HCG.out, hra]; unfold putRec; rw [hd]
  have HD := Lib.hid hd
  obtain ⟨u, k0, k1, k2, hid, hkd, hpo, hpr⟩ := hG1.o.get hd
  obtain ⟨gb, o, c2, hv, hgb1, hgb2⟩ := hG1.n.addr (by omega)
  injection hv with hv1 hv2 hv3
  subst hv1; subst hv3
  have z2 : w1.cell? ⟨gb, o + K * 3 + 2, none⟩ = some u := hG1.n.cell (j := K * 3 + 2) rfl k2
  have x0 := block_cell m0 0
  have x1 := block_cell m0 1
  have hcall := HBY.out d.props u w1 hB1 (hpr.prps hpo)
  obtain ⟨Au, cu, rfl, _, _⟩ := hpr.form
  have hKi : (K : Int) < (g.nodes.length : Int) := by omega
  have K2 := Lib.hid k2
  clear hra hd k0 k1 k2 hpr hv2 HE HCG HFS HRA
  by_cases he : fE d.props = 0
  case neg =>
   have HEE : Hid (errV E = .iface 122 (.int .i64 (fE d.props))) := by unfold Hid; rw [HE2.out]; exact errV_some he
   have HNE : Hid (¬ E = 0) := by unfold Hid; rw [HE2.out]; exact he
   have HV := Lib.hid (errV_some he)
   clear he
   go_wp2_with (
    (go_at_fn f
     refine hcall.mono ?_
     rintro e w2 ⟨u2, he2, hu2, hb2⟩
     rw [HV.out] at he2
     subst he2
     obtain ⟨A2, c3, rfl, _, _⟩ := hu2.1.form
     have hB2 := hB1.trans (hb2.mono hB1.size)
     have hG2 := hG1.below hb2
     have hs2 := hb2.size
     have m0' := (hb2.block _ (geB m0)).trans m0
     have m2' := (hb2.block _ (geB m2)).trans m2
     clear m0 m2 x0 x1 z2
     clear hG1 hB1 hu2 hcall
     have hG1 := hG2
     have hB1 := hB2
     have m0 := m0'
     have m2 := m2'
     clear hG2 hB2 m0' m2'
     have x0 := block_cell m0 0
     have x1 := block_cell m0 1
     have e0 := block_free m2 0
     have e1 := block_free m2 1
     have e2 := block_cell m2 0
     have e3 := block_cell m2 1
     have k3 := setCell_block (setCell_block m2 0 (.slice (some ⟨gb, o, none⟩) g.nodes.length cn)) 1 (.slice At g.ties.length ct)
     have HM := Lib.hid k3
     clear m0 m2 k3 hG1
     skip))
   have k2 := block_cell HM.out 0
   have k3 := block_cell HM.out 1
   exact bodyPost_ret (v := .tuple #[.agg #[.slice (some ⟨gb, o, none⟩) g.nodes.length cn, .slice At g.ties.length ct], .iface 122 (.int .i64 (fE d.props))]) (by simp [results, Tryz.results102, go_sem, k2, k3]) rfl
    ⟨.slice (some ⟨gb, o, none⟩) g.nodes.length cn, .slice At g.ties.length ct, by simp only [HEE.out], (fun h => absurd h HNE.out), ⟨_, _, _, _, _, _, rfl, rfl⟩, ((hB1.mono hB).setCell (p := ⟨w.heap.size + 1, 0, none⟩) (by show B <= w.heap.size + 1; omega) _).setCell (p := ⟨w.heap.size + 1, 1, none⟩) (by show B <= w.heap.size + 1; omega) _, (((Keep2.below hB1).box (p := ⟨w.heap.size + 1, 0, none⟩) (by show w.heap.size <= w.heap.size + 1; omega) _).box (p := ⟨w.heap.size + 1, 1, none⟩) (by show w.heap.size <= w.heap.size + 1; omega) _)⟩
  have hE : E = 0 := by rw [HE2.out]; exact he
  have HER : Hid (errV E = .nilIface) := by unfold Hid; rw [hE]; rfl
  have HV := Lib.hid (errV_zero he)
  clear he
  go_wp2_with (
   (go_at_fn f
    refine hcall.mono ?_
    rintro e w2 ⟨u2, he2, hu2, hb2⟩
    rw [HV.out] at he2
    subst he2
    obtain ⟨A2, c3, rfl, _, _⟩ := hu2.1.form
    have hB2 := hB1.trans (hb2.mono hB1.size)
    have hG2 := hG1.below hb2
    have hs2 := hb2.size
    have m0' := (hb2.block _ (geB m0)).trans m0
    have m2' := (hb2.block _ (geB m2)).trans m2
    clear m0 m2 x0 x1 z2
    have hst := hG2.n.store (K * 3 + 2) (by omega) (.slice A2 (fR d.props).length c3)
    have f2 := hG2.n.frozen rfl (o + K * 3 + 2)
    have z2 : w2.cell? ⟨gb, o + K * 3 + 2, none⟩ = some (.slice Au d.props.length cu) := hG2.n.cell (j := K * 3 + 2) rfl K2.out
    have x0 := block_cell m0' 0
    have x1 := block_cell m0' 1
    have hsg : ∀ T, 29 ≠ T -> Same T w2 (w2.setCell ⟨gb, o + K * 3 + 2, none⟩ (.slice A2 (fR d.props).length c3)) := fun T hT => Same.cellOf hG2.n hT _ _
    have n0 := hsg 25 (by decide) _ _ _ m0'
    have n2 := hsg 25 (by decide) _ _ _ m2'
    have p3 := setCell_block n2 0 (.slice (some ⟨gb, o, none⟩) g.nodes.length cn)
    have p4 := setCell_block p3 1 (.slice At g.ties.length ct)
    have a3 := block_cell n0 0
    have a4 := block_cell n0 1
    have a5 := block_free n2 0
    have a6 := block_free n2 1
    have a7 := block_cell n2 0
    have a8 := block_cell n2 1
    have HS : Hid (∀ T, 25 ≠ T -> Same T (w2.setCell ⟨gb, o + K * 3 + 2, none⟩ (.slice A2 (fR d.props).length c3)) (((w2.setCell ⟨gb, o + K * 3 + 2, none⟩ (.slice A2 (fR d.props).length c3)).setCell ⟨w.heap.size + 1, 0, none⟩ (.slice (some ⟨gb, o, none⟩) g.nodes.length cn)).setCell ⟨w.heap.size + 1, 1, none⟩ (.slice At g.ties.length ct))) := fun T hT =>
      (Same.setCell (p := ⟨w.heap.size + 1, 0, none⟩) n2 hT _).trans (Same.setCell (p := ⟨w.heap.size + 1, 1, none⟩) p3 hT _)
    have hput := OwnNods.put (v := .slice A2 (fR d.props).length c3) hu2.2 (hu2.1.mono (by omega)) hG2.o HD.out
    have HFIN : Hid (OwnG (((w2.setCell ⟨gb, o + K * 3 + 2, none⟩ (.slice A2 (fR d.props).length c3)).setCell ⟨w.heap.size + 1, 0, none⟩ (.slice (some ⟨gb, o, none⟩) g.nodes.length cn)).setCell ⟨w.heap.size + 1, 1, none⟩ (.slice At g.ties.length ct)) B (.slice (some ⟨gb, o, none⟩) g.nodes.length cn) (.slice At g.ties.length ct) (chgG g id fR) (xs.set (K * 3 + 2) (.slice A2 (fR d.props).length c3))) := by
      rw [HCG2.out]
      refine ⟨?_, (hput.same (hsg _ (by decide))).same (HS.out _ (by decide)), (hG2.t.same (hsg _ (by decide))).same (HS.out _ (by decide)), hG2.k⟩
      show Own _ B 29 3 _ (g.nodes.set K ⟨d.id, d.kind, fR d.props⟩).length _
      rw [List.length_set]
      exact hst.same (HS.out _ (by decide))
    have HP4 := Lib.hid p4
    have hgB := (hG2.n.lt gb rfl).1
    clear hst hput n0 n2 p3 p4 hsg hG2 hG1 m0' m2' hu2 HE2 hE hcall))
  have k2 := block_cell HP4.out 0
  have k3 := block_cell HP4.out 1
  exact bodyPost_ret (v := .tuple #[.agg #[.slice (some ⟨gb, o, none⟩) g.nodes.length cn, .slice At g.ties.length ct], .nilIface]) (by simp [results, Tryz.results102, go_sem, k2, k3]) rfl
   ⟨.slice (some ⟨gb, o, none⟩) g.nodes.length cn, .slice At g.ties.length ct, by simp only [HER.out], (fun _ => ⟨_, HFIN.out⟩), ⟨_, _, _, _, _, _, rfl, rfl⟩, (((hB2.mono hB).setCell (p := ⟨gb, o + K * 3 + 2, none⟩) hgB _).setCell (p := ⟨w.heap.size + 1, 0, none⟩) (by show B <= w.heap.size + 1; omega) _).setCell (p := ⟨w.heap.size + 1, 1, none⟩) (by show B <= w.heap.size + 1; omega) _, ((((Keep2.below hB2).own (p := ⟨gb, o + K * 3 + 2, none⟩) rfl _).box (p := ⟨w.heap.size + 1, 0, none⟩) (by show w.heap.size <= w.heap.size + 1; omega) _).box (p := ⟨w.heap.size + 1, 1, none⟩) (by show w.heap.size <= w.heap.size + 1; omega) _)⟩
set_option maxRecDepth 100000 in
set_option maxHeartbeats 4000000 in
theorem unset_own (r : List Prp) (nm : ByteArray) (v : Value) (w : World) (hv : Sl prpL w v r) :
 Calls Tryz.prog 106 #[v, .string nm] w (RetO (unsetR r nm) (unsetE r nm) w) := by
 have h1 := recCheck_any r v _ hv
 have HV := Lib.hid hv
 obtain ⟨A, c, rfl, _, _⟩ := hv.form
 clear hv
 go_enter Tryz.func106, Tryz.ntmps106
 go_wp2_with fail
 refine h1.mono ?_
 clear h1
 rintro e w1 ⟨rfl, hb1⟩
 by_cases he : recE r = 0
 case neg =>
  have HE : Hid (errV (unsetE r nm) = .iface 122 (.int .i64 (recE r)) /\ unsetR r nm = []) := by
   have h0 : unsetE r nm = recE r := by unfold unsetE; rw [if_neg he]
   exact ⟨by rw [h0]; exact errV_some he, by unfold unsetR; rw [h0, if_neg he]⟩
  rw [errV_some he]
  clear he
  go_wp2_with fail
  go_ret2
  exact ⟨.slice none 0 0, by rw [HE.out.1]; rfl, by rw [HE.out.2]; exact OwnP.nil, hb1⟩
 obtain ⟨hl8, _, hch⟩ := rec_ok he
 have HE : Hid (unsetE r nm = if rhas r nm then 0 else 5) := by unfold Hid unsetE; rw [if_pos he]
 have HR : Hid (unsetR r nm = if unsetE r nm = 0 then r.take (rpos r nm) ++ r.drop (rpos r nm + 1) else []) := rfl
 rw [errV_zero he]
 have hfd := rfind_any r nm _ w1 (HV.out.below hb1) hch (by omega)
 clear he hch
 go_wp2_with fail
 refine hfd.mono ?_
 clear hfd
 rintro e w2 ⟨rfl, hb2⟩
 have hB2 := hb1.trans (hb2.mono hb1.size)
 cases hq : rhas r nm with
 | false =>
  have HF : Hid (errV (unsetE r nm) = .iface 122 (.int .i64 5) /\ unsetR r nm = []) := by
   have h0 : unsetE r nm = 5 := by rw [HE.out, hq]; rfl
   exact ⟨by rw [h0]; rfl, by rw [HR.out, h0, if_neg (by omega)]⟩
  clear hq HE HR
  go_wp2_with fail
  go_ret2
  exact ⟨.slice none 0 0, by rw [HF.out.1]; rfl, by rw [HF.out.2]; exact OwnP.nil, hB2⟩
 | true =>
  obtain ⟨d, hd⟩ := rhas_some hq
  have hkl := (List.getElem?_eq_some_iff.1 hd).1
  obtain ⟨m, hm⟩ : ∃ m, r.length = m + 1 := ⟨r.length - 1, by omega⟩
  have HF : Hid (errV (unsetE r nm) = .nilIface /\ unsetR r nm = r.take (rpos r nm) ++ r.drop (rpos r nm + 1)) := by
   have h0 : unsetE r nm = 0 := by rw [HE.out, hq]; rfl
   exact ⟨by rw [h0]; rfl, by rw [HR.out, h0, if_pos rfl]⟩
  have hcl := clone_prps (HV.out.below hB2) (by omega)
  have hKi : ((rpos r nm : Nat) : Int) <= 8 := by omega
  have HL : Hid ((unsetR r nm).length = m) := by unfold Hid; rw [HF.out.2]; simp; omega
  have HO : Hid (∀ x ∈ r, x.ok -> x.ok) := fun x _ h => h
  have HM : Hid (∀ x ∈ unsetR r nm, x ∈ r) := fun x hx => by
   rw [HF.out.2] at hx
   rcases List.mem_append.1 hx with h | h
   ·exact List.mem_of_mem_take h
   exact List.mem_of_mem_drop h
  generalize rpos r nm = K at *
  have HM0 := Lib.hid hm
  clear hq HE HR hd hm
  go_wp2_with fail
  refine hcl.mono ?_
  clear hcl
  rintro e w3 ⟨v3, xs, rfl, hown, hrow, hb3⟩
  obtain ⟨rfl, hoks⟩ := Row.flat hrow
  have hown : Own w3 w2.heap.size 33 4 v3 r.length (r.flatMap Prp.enc) := hown
  have hB3 := hB2.trans (hb3.mono hB2.size)
  have hs2 := hB2.size
  have HOK := Lib.hid hoks
  rw [HM0.out] at hown
  have hm := HM0.out
  have hdel := del1_prps w3 w2.heap.size v3 m (r.flatMap Prp.enc) hown K (by omega) (oneCell_flat Prp.enc_one r) (by omega)
  rw [flat_take Prp.enc_len r K (by omega), flat_drop Prp.enc_len r (K + 1) (by omega), <- List.flatMap_append, <- HF.out.2] at hdel
  have HW := Lib.hid hown
  obtain ⟨A3, c3, rfl, _, _⟩ := hown.form
  rw [hm]
  clear hown hrow hoks hm
  go_wp2_with fail
  refine hdel.mono ?_
  clear hdel
  rintro e w4 ⟨u4, rfl, ho4, hg4, hu4⟩
  have hB4 : Below w.heap.size w w4 := hB3.grown hg4 (by have := hb3.size; omega) (fun kk e => by have := (HW.out.lt kk e).1; omega)
  have HO4 := Lib.hid ho4
  obtain ⟨A4, c4, rfl, _, _⟩ := ho4.form
  clear ho4 hg4 hu4
  go_wp2_with fail
  go_ret2
  exact ⟨.slice A4 m c4, by rw [HF.out.1]; rfl, ⟨by rw [HL.out]; exact HO4.out.mono hs2, fun x hx => HOK.out x (HM.out x hx)⟩, hB4⟩
def oprCells (o : Opr) (vr : Value) : Array Value := #[.int .i64 o.what, .int .i64 o.node.id, .string o.node.kind, vr, .string o.prop.name, .int .i64 o.prop.v.ty, .int .i64 o.prop.v.n, .string o.prop.v.s, .string o.tie.bond, .int .i64 o.tie.src, .int .i64 o.tie.dst]
structure OprR (w : World) (vr : Value) (o : Opr) : Prop where
 r : Sl prpL w vr o.node.props
 k : Sm o.node.kind
 i : I64 o.node.id
 p : o.prop.ok
 t : o.tie.ok
theorem OprR.below {w w' : World} {vr : Value} {o : Opr} (h : OprR w vr o) (hb : Below w.heap.size w w') : OprR w' vr o := ⟨h.r.below hb, h.k, h.i, h.p, h.t⟩
theorem do1_any (p : Prp) (r : List Prp) (v : Value) (b : Nat) (w : World) (hv : Sl prpL w v r) (hp : p.ok) (c0 : w.cell? ⟨b, 4, none⟩ = some (.string p.name)) (c1 : w.cell? ⟨b, 5, none⟩ = some (.int .i64 p.v.ty)) (c2 : w.cell? ⟨b, 6, none⟩ = some (.int .i64 p.v.n)) (c3 : w.cell? ⟨b, 7, none⟩ = some (.string p.v.s)) :
 Calls Tryz.prog 103 #[v, .pointer (some ⟨b, 0, none⟩)] w (RetO (setR r p) (setE r p) w) := by
 have h1 := set_own r p v w hv hp
 obtain ⟨z, hz⟩ : ∃ z, z = errV (setE r p) := ⟨_, rfl⟩
 have HZ := Lib.hid hz
 obtain ⟨A, c, rfl, _, _⟩ := hv.form
 clear hv
 go_enter Tryz.func103, Tryz.ntmps103
 go_wp2_with fail
 refine h1.mono ?_
 clear h1
 rintro e w1 ⟨u, he, hu, hb⟩
 rw [<- HZ.out] at he
 subst he
 obtain ⟨A2, c2, rfl, _, _⟩ := hu.1.form
 have HU := Lib.hid hu
 clear hz hu
 go_wp2_with fail
 go_ret2
 exact ⟨_, by rw [HZ.out]; rfl, HU.out, hb⟩
theorem do2_any (nm : ByteArray) (r : List Prp) (v : Value) (b : Nat) (w : World) (hv : Sl prpL w v r) (c0 : w.cell? ⟨b, 4, none⟩ = some (.string nm)) :
 Calls Tryz.prog 105 #[v, .pointer (some ⟨b, 0, none⟩)] w (RetO (unsetR r nm) (unsetE r nm) w) := by
 have h1 := unset_own r nm v w hv
 obtain ⟨z, hz⟩ : ∃ z, z = errV (unsetE r nm) := ⟨_, rfl⟩
 have HZ := Lib.hid hz
 obtain ⟨A, c, rfl, _, _⟩ := hv.form
 clear hv
 go_enter Tryz.func105, Tryz.ntmps105
 go_wp2_with fail
 refine h1.mono ?_
 clear h1
 rintro e w1 ⟨u, he, hu, hb⟩
 rw [<- HZ.out] at he
 subst he
 obtain ⟨A2, c2, rfl, _, _⟩ := hu.1.form
 have HU := Lib.hid hu
 clear hz hu
 go_wp2_with fail
 go_ret2
 exact ⟨_, by rw [HZ.out]; rfl, HU.out, hb⟩
set_option maxRecDepth 100000 in
set_option maxHeartbeats 16000000 in
theorem do_any (g : Grf) (o : Opr) (vn vt vr : Value) (xs : List Value) (B : Nat) (w : World) (hB : B <= w.heap.size) (hG : OwnG w B vn vt g xs) (hO : OprR w vr o) (hcn : chain nodLt g.nodes = true) (hct : chain tieLt g.ties = true) (hn : g.nodes.length <= 1000) (ht : g.ties.length <= 1000) :
 Calls Tryz.prog 49 #[.agg #[vn, vt], .agg (oprCells o vr)] w (RetOG B vn vt (opG g o) (opE g o) w) := by
 obtain ⟨An, cn, rfl, _, _⟩ := hG.n.form
 obtain ⟨At, ct, rfl, _, _⟩ := hG.t.form
 obtain ⟨Ar, cr, rfl, _, _⟩ := hO.r.form
 obtain ⟨what, node, prop, tie⟩ := o
 have hO' : OprR w (.slice Ar node.props.length cr) ⟨what, node, prop, tie⟩ := hO
 clear hO
 show Calls Tryz.prog 49 #[.agg #[.slice An g.nodes.length cn, .slice At g.ties.length ct], .agg #[.int .i64 what, .int .i64 node.id, .string node.kind, .slice Ar node.props.length cr, .string prop.name, .int .i64 prop.v.ty, .int .i64 prop.v.n, .string prop.v.s, .string tie.bond, .int .i64 tie.src, .int .i64 tie.dst]] w _
 obtain ⟨W0, hW0⟩ : ∃ W0, W0 = (((w.alloc (.cells #[.slice An g.nodes.length cn, .slice At g.ties.length ct] 25)).alloc (.cells #[.int .i64 what, .int .i64 node.id, .string node.kind, .slice Ar node.props.length cr, .string prop.name, .int .i64 prop.v.ty, .int .i64 prop.v.n, .string prop.v.s, .string tie.bond, .int .i64 tie.src, .int .i64 tie.dst] 37)).alloc (.cells #[.slice none 0 0, .slice none 0 0] 25)) := ⟨_, rfl⟩
 have hb0 : Below w.heap.size w W0 := by rw [hW0]; exact (((Below.refl _ _).alloc (Nat.le_refl _) _).alloc (by simp) _).alloc (by simp; omega) _
 have g0 : W0.heap[w.heap.size]? = some (.cells #[.slice An g.nodes.length cn, .slice At g.ties.length ct] 25 (0, 0)) := by
  rw [hW0, Below.heap_alloc _ _ _ (by simp; omega), Below.heap_alloc _ _ _ (by simp)]; exact heap_alloc_new _ _
 have g1 : W0.heap[w.heap.size + 1]? = some (.cells #[.int .i64 what, .int .i64 node.id, .string node.kind, .slice Ar node.props.length cr, .string prop.name, .int .i64 prop.v.ty, .int .i64 prop.v.n, .string prop.v.s, .string tie.bond, .int .i64 tie.src, .int .i64 tie.dst] 37 (0, 0)) := by
  rw [hW0, Below.heap_alloc _ _ _ (by simp)]
  have := heap_alloc_new (w.alloc (.cells #[.slice An g.nodes.length cn, .slice At g.ties.length ct] 25)) (.cells #[.int .i64 what, .int .i64 node.id, .string node.kind, .slice Ar node.props.length cr, .string prop.name, .int .i64 prop.v.ty, .int .i64 prop.v.n, .string prop.v.s, .string tie.bond, .int .i64 tie.src, .int .i64 tie.dst] 37); simpa using this
 have g2 : W0.heap[w.heap.size + 1 + 1]? = some (.cells #[.slice none 0 0, .slice none 0 0] 25 (0, 0)) := by
  have := heap_alloc_new ((w.alloc (.cells #[.slice An g.nodes.length cn, .slice At g.ties.length ct] 25)).alloc (.cells #[.int .i64 what, .int .i64 node.id, .string node.kind, .slice Ar node.props.length cr, .string prop.name, .int .i64 prop.v.ty, .int .i64 prop.v.n, .string prop.v.s, .string tie.bond, .int .i64 tie.src, .int .i64 tie.dst] 37)) (.cells #[.slice none 0 0, .slice none 0 0] 25); rw [hW0]; simpa using this
 have hsz : W0.heap.size = w.heap.size + 3 := by rw [hW0]; simp
 have hW0' := hW0.symm
 have HG := Lib.hid hG
 have HG0 := Lib.hid (hG.below hb0)
 have HO0 := Lib.hid (hO'.below hb0)
 have M2 := Lib.hid g2
 have x0 := block_cell g0 0
 have x1 := block_cell g0 1
 have y0 := block_cell g1 0
 have y1 := block_cell g1 1
 have y2 := block_cell g1 2
 have y3 := block_cell g1 3
 have y4 := block_cell g1 4
 have y5 := block_cell g1 5
 have y6 := block_cell g1 6
 have y7 := block_cell g1 7
 have y8 := block_cell g1 8
 have y9 := block_cell g1 9
 have y10 := block_cell g1 10
 clear hG hO' g0 g1 g2 hW0
 by_cases h1 : what = 1
 ·subst h1
  have HE : Hid (opE g ⟨1, node, prop, tie⟩ = bornE g node /\ opG g ⟨1, node, prop, tie⟩ = bornG g node) := ⟨rfl, rfl⟩
  have hcall := born_any g node _ _ _ xs B W0 (by omega) HG0.out hcn hn HO0.out.r HO0.out.k HO0.out.i
  go_enter Tryz.func49, Tryz.ntmps49
  go_wp2_with fail
  refine hcall.mono ?_
  clear hcall
  obtain ⟨z, hz⟩ : ∃ z, z = errV (bornE g node) := ⟨_, rfl⟩
  have HZ := Lib.hid hz
  clear hz
  rintro e w1 ⟨un, ut, he, hown, ⟨A1, n1, c1, A2, n2, c2, rfl, rfl⟩, hB1, hK1⟩
  rw [<- HZ.out] at he
  subst he
  have hs1 := hK1.s
  have n2' := (hK1.k (w.heap.size + 1 + 1) (by omega) (fun e => by have := (HG.out.n.lt _ e.symm).2; omega) (fun e => by have := (HG.out.t.lt _ e.symm).2; omega)).trans M2.out
  have a5 := block_free n2' 0
  have a6 := block_free n2' 1
  have a7 := block_cell n2' 0
  have a8 := block_cell n2' 1
  have p3 := setCell_block n2' 0 (.slice A1 n1 c1)
  have p4 := setCell_block p3 1 (.slice A2 n2 c2)
  have HP4 := Lib.hid p4
  have HS : Hid (∀ T, 25 ≠ T -> Same T w1 ((w1.setCell ⟨w.heap.size + 1 + 1, 0, none⟩ (.slice A1 n1 c1)).setCell ⟨w.heap.size + 1 + 1, 1, none⟩ (.slice A2 n2 c2))) := fun T hT =>
   (Same.setCell (p := ⟨w.heap.size + 1 + 1, 0, none⟩) n2' hT _).trans (Same.setCell (p := ⟨w.heap.size + 1 + 1, 1, none⟩) p3 hT _)
  have HOW := Lib.hid hown
  have HK1 := Lib.hid hK1
  clear n2' p3 p4 hown hK1
  go_wp2_with fail
  have k2 := block_cell HP4.out 0
  have k3 := block_cell HP4.out 1
  have hk1 : Keep2 w w1 (.slice An g.nodes.length cn) (.slice At g.ties.length ct) := ⟨by omega, fun k hk h1 h2 => (HK1.out.k k (by omega) h1 h2).trans (hb0.block k hk)⟩
  exact bodyPost_ret (v := .tuple #[.agg #[.slice A1 n1 c1, .slice A2 n2 c2], z]) (by simp [results, Tryz.results49, go_sem, k2, k3]) rfl
   ⟨.slice A1 n1 c1, .slice A2 n2 c2, by rw [HZ.out, HE.out.1], (fun h => by
    obtain ⟨ys, hy⟩ := HOW.out (by rw [<- HE.out.1]; exact h)
    rw [HE.out.2]
    exact ⟨ys, hy.same (HS.out _ (by decide)) (HS.out _ (by decide)) (HS.out _ (by decide))⟩), ⟨_, _, _, _, _, _, rfl, rfl⟩,
    (((Below.mono hb0 hB).trans hB1).setCell (p := ⟨w.heap.size + 1 + 1, 0, none⟩) (by show B <= w.heap.size + 1 + 1; omega) _).setCell (p := ⟨w.heap.size + 1 + 1, 1, none⟩) (by show B <= w.heap.size + 1 + 1; omega) _,
    (hk1.box (p := ⟨w.heap.size + 1 + 1, 0, none⟩) (by show w.heap.size <= w.heap.size + 1 + 1; omega) _).box (p := ⟨w.heap.size + 1 + 1, 1, none⟩) (by show w.heap.size <= w.heap.size + 1 + 1; omega) _⟩
 by_cases h2 : what = 2
 ·subst h2
  have HE : Hid (opE g ⟨2, node, prop, tie⟩ = (if fhas g.nodes node.id then 0 else 5) /\ opG g ⟨2, node, prop, tie⟩ = goneG g node.id) := ⟨rfl, rfl⟩
  have hcall := gone_any g node.id _ _ xs B W0 (by omega) HG0.out hcn hn ht
  go_enter Tryz.func49, Tryz.ntmps49
  go_wp2_with fail
  refine hcall.mono ?_
  clear hcall
  obtain ⟨z, hz⟩ : ∃ z, z = errV (if fhas g.nodes node.id then 0 else 5) := ⟨_, rfl⟩
  have HZ := Lib.hid hz
  clear hz
  rintro e w1 ⟨un, ut, he, hown, ⟨A1, n1, c1, A2, n2, c2, rfl, rfl⟩, hB1, hK1⟩
  rw [<- HZ.out] at he
  subst he
  have hs1 := hK1.s
  have n2' := (hK1.k (w.heap.size + 1 + 1) (by omega) (fun e => by have := (HG.out.n.lt _ e.symm).2; omega) (fun e => by have := (HG.out.t.lt _ e.symm).2; omega)).trans M2.out
  have a5 := block_free n2' 0
  have a6 := block_free n2' 1
  have a7 := block_cell n2' 0
  have a8 := block_cell n2' 1
  have p3 := setCell_block n2' 0 (.slice A1 n1 c1)
  have p4 := setCell_block p3 1 (.slice A2 n2 c2)
  have HP4 := Lib.hid p4
  have HS : Hid (∀ T, 25 ≠ T -> Same T w1 ((w1.setCell ⟨w.heap.size + 1 + 1, 0, none⟩ (.slice A1 n1 c1)).setCell ⟨w.heap.size + 1 + 1, 1, none⟩ (.slice A2 n2 c2))) := fun T hT =>
   (Same.setCell (p := ⟨w.heap.size + 1 + 1, 0, none⟩) n2' hT _).trans (Same.setCell (p := ⟨w.heap.size + 1 + 1, 1, none⟩) p3 hT _)
  have HOW := Lib.hid hown
  have HK1 := Lib.hid hK1
  clear n2' p3 p4 hown hK1
  go_wp2_with fail
  have k2 := block_cell HP4.out 0
  have k3 := block_cell HP4.out 1
  have hk1 : Keep2 w w1 (.slice An g.nodes.length cn) (.slice At g.ties.length ct) := ⟨by omega, fun k hk h1 h2 => (HK1.out.k k (by omega) h1 h2).trans (hb0.block k hk)⟩
  exact bodyPost_ret (v := .tuple #[.agg #[.slice A1 n1 c1, .slice A2 n2 c2], z]) (by simp [results, Tryz.results49, go_sem, k2, k3]) rfl
   ⟨.slice A1 n1 c1, .slice A2 n2 c2, by rw [HZ.out, HE.out.1], (fun h => by
    obtain ⟨ys, hy⟩ := HOW.out (by rw [<- HE.out.1]; exact h)
    rw [HE.out.2]
    exact ⟨ys, hy.same (HS.out _ (by decide)) (HS.out _ (by decide)) (HS.out _ (by decide))⟩), ⟨_, _, _, _, _, _, rfl, rfl⟩,
    (((Below.mono hb0 hB).trans hB1).setCell (p := ⟨w.heap.size + 1 + 1, 0, none⟩) (by show B <= w.heap.size + 1 + 1; omega) _).setCell (p := ⟨w.heap.size + 1 + 1, 1, none⟩) (by show B <= w.heap.size + 1 + 1; omega) _,
    (hk1.box (p := ⟨w.heap.size + 1 + 1, 0, none⟩) (by show w.heap.size <= w.heap.size + 1 + 1; omega) _).box (p := ⟨w.heap.size + 1 + 1, 1, none⟩) (by show w.heap.size <= w.heap.size + 1 + 1; omega) _⟩
 by_cases h3 : what = 3
 ·subst h3
  have HE : Hid (opE g ⟨3, node, prop, tie⟩ = chgE g node.id (fun r => setE r prop) /\ opG g ⟨3, node, prop, tie⟩ = chgG g node.id (fun r => setR r prop)) := ⟨rfl, rfl⟩
  have hcall := chg_any 103 #[.pointer (some ⟨w.heap.size + 1, 0, none⟩)] (by intro args w; kernel_rfl) (fun r => setR r prop) (fun r => setE r prop) g node.id _ _ xs B W0 (by omega) HG0.out hcn hn
   (fun r v w' hb hs => do1_any prop r v (w.heap.size + 1) w' hs HO0.out.p (cell_below hb y4) (cell_below hb y5) (cell_below hb y6) (cell_below hb y7))
  go_enter Tryz.func49, Tryz.ntmps49
  go_wp2_with fail
  refine hcall.mono ?_
  clear hcall
  obtain ⟨z, hz⟩ : ∃ z, z = errV (chgE g node.id (fun r => setE r prop)) := ⟨_, rfl⟩
  have HZ := Lib.hid hz
  clear hz
  rintro e w1 ⟨un, ut, he, hown, ⟨A1, n1, c1, A2, n2, c2, rfl, rfl⟩, hB1, hK1⟩
  rw [<- HZ.out] at he
  subst he
  have hs1 := hK1.s
  have n2' := (hK1.k (w.heap.size + 1 + 1) (by omega) (fun e => by have := (HG.out.n.lt _ e.symm).2; omega) (fun e => by have := (HG.out.t.lt _ e.symm).2; omega)).trans M2.out
  have a5 := block_free n2' 0
  have a6 := block_free n2' 1
  have a7 := block_cell n2' 0
  have a8 := block_cell n2' 1
  have p3 := setCell_block n2' 0 (.slice A1 n1 c1)
  have p4 := setCell_block p3 1 (.slice A2 n2 c2)
  have HP4 := Lib.hid p4
  have HS : Hid (∀ T, 25 ≠ T -> Same T w1 ((w1.setCell ⟨w.heap.size + 1 + 1, 0, none⟩ (.slice A1 n1 c1)).setCell ⟨w.heap.size + 1 + 1, 1, none⟩ (.slice A2 n2 c2))) := fun T hT =>
   (Same.setCell (p := ⟨w.heap.size + 1 + 1, 0, none⟩) n2' hT _).trans (Same.setCell (p := ⟨w.heap.size + 1 + 1, 1, none⟩) p3 hT _)
  have HOW := Lib.hid hown
  have HK1 := Lib.hid hK1
  clear n2' p3 p4 hown hK1
  go_wp2_with fail
  have k2 := block_cell HP4.out 0
  have k3 := block_cell HP4.out 1
  have hk1 : Keep2 w w1 (.slice An g.nodes.length cn) (.slice At g.ties.length ct) := ⟨by omega, fun k hk h1 h2 => (HK1.out.k k (by omega) h1 h2).trans (hb0.block k hk)⟩
  exact bodyPost_ret (v := .tuple #[.agg #[.slice A1 n1 c1, .slice A2 n2 c2], z]) (by simp [results, Tryz.results49, go_sem, k2, k3]) rfl
   ⟨.slice A1 n1 c1, .slice A2 n2 c2, by rw [HZ.out, HE.out.1], (fun h => by
    obtain ⟨ys, hy⟩ := HOW.out (by rw [<- HE.out.1]; exact h)
    rw [HE.out.2]
    exact ⟨ys, hy.same (HS.out _ (by decide)) (HS.out _ (by decide)) (HS.out _ (by decide))⟩), ⟨_, _, _, _, _, _, rfl, rfl⟩,
    (((Below.mono hb0 hB).trans hB1).setCell (p := ⟨w.heap.size + 1 + 1, 0, none⟩) (by show B <= w.heap.size + 1 + 1; omega) _).setCell (p := ⟨w.heap.size + 1 + 1, 1, none⟩) (by show B <= w.heap.size + 1 + 1; omega) _,
    (hk1.box (p := ⟨w.heap.size + 1 + 1, 0, none⟩) (by show w.heap.size <= w.heap.size + 1 + 1; omega) _).box (p := ⟨w.heap.size + 1 + 1, 1, none⟩) (by show w.heap.size <= w.heap.size + 1 + 1; omega) _⟩
 by_cases h4 : what = 4
 ·subst h4
  have HE : Hid (opE g ⟨4, node, prop, tie⟩ = chgE g node.id (fun r => unsetE r prop.name) /\ opG g ⟨4, node, prop, tie⟩ = chgG g node.id (fun r => unsetR r prop.name)) := ⟨rfl, rfl⟩
  have hcall := chg_any 105 #[.pointer (some ⟨w.heap.size + 1, 0, none⟩)] (by intro args w; kernel_rfl) (fun r => unsetR r prop.name) (fun r => unsetE r prop.name) g node.id _ _ xs B W0 (by omega) HG0.out hcn hn
   (fun r v w' hb hs => do2_any prop.name r v (w.heap.size + 1) w' hs (cell_below hb y4))
  go_enter Tryz.func49, Tryz.ntmps49
  go_wp2_with fail
  refine hcall.mono ?_
  clear hcall
  obtain ⟨z, hz⟩ : ∃ z, z = errV (chgE g node.id (fun r => unsetE r prop.name)) := ⟨_, rfl⟩
  have HZ := Lib.hid hz
  clear hz
  rintro e w1 ⟨un, ut, he, hown, ⟨A1, n1, c1, A2, n2, c2, rfl, rfl⟩, hB1, hK1⟩
  rw [<- HZ.out] at he
  subst he
  have hs1 := hK1.s
  have n2' := (hK1.k (w.heap.size + 1 + 1) (by omega) (fun e => by have := (HG.out.n.lt _ e.symm).2; omega) (fun e => by have := (HG.out.t.lt _ e.symm).2; omega)).trans M2.out
  have a5 := block_free n2' 0
  have a6 := block_free n2' 1
  have a7 := block_cell n2' 0
  have a8 := block_cell n2' 1
  have p3 := setCell_block n2' 0 (.slice A1 n1 c1)
  have p4 := setCell_block p3 1 (.slice A2 n2 c2)
  have HP4 := Lib.hid p4
  have HS : Hid (∀ T, 25 ≠ T -> Same T w1 ((w1.setCell ⟨w.heap.size + 1 + 1, 0, none⟩ (.slice A1 n1 c1)).setCell ⟨w.heap.size + 1 + 1, 1, none⟩ (.slice A2 n2 c2))) := fun T hT =>
   (Same.setCell (p := ⟨w.heap.size + 1 + 1, 0, none⟩) n2' hT _).trans (Same.setCell (p := ⟨w.heap.size + 1 + 1, 1, none⟩) p3 hT _)
  have HOW := Lib.hid hown
  have HK1 := Lib.hid hK1
  clear n2' p3 p4 hown hK1
  go_wp2_with fail
  have k2 := block_cell HP4.out 0
  have k3 := block_cell HP4.out 1
  have hk1 : Keep2 w w1 (.slice An g.nodes.length cn) (.slice At g.ties.length ct) := ⟨by omega, fun k hk h1 h2 => (HK1.out.k k (by omega) h1 h2).trans (hb0.block k hk)⟩
  exact bodyPost_ret (v := .tuple #[.agg #[.slice A1 n1 c1, .slice A2 n2 c2], z]) (by simp [results, Tryz.results49, go_sem, k2, k3]) rfl
   ⟨.slice A1 n1 c1, .slice A2 n2 c2, by rw [HZ.out, HE.out.1], (fun h => by
    obtain ⟨ys, hy⟩ := HOW.out (by rw [<- HE.out.1]; exact h)
    rw [HE.out.2]
    exact ⟨ys, hy.same (HS.out _ (by decide)) (HS.out _ (by decide)) (HS.out _ (by decide))⟩), ⟨_, _, _, _, _, _, rfl, rfl⟩,
    (((Below.mono hb0 hB).trans hB1).setCell (p := ⟨w.heap.size + 1 + 1, 0, none⟩) (by show B <= w.heap.size + 1 + 1; omega) _).setCell (p := ⟨w.heap.size + 1 + 1, 1, none⟩) (by show B <= w.heap.size + 1 + 1; omega) _,
    (hk1.box (p := ⟨w.heap.size + 1 + 1, 0, none⟩) (by show w.heap.size <= w.heap.size + 1 + 1; omega) _).box (p := ⟨w.heap.size + 1 + 1, 1, none⟩) (by show w.heap.size <= w.heap.size + 1 + 1; omega) _⟩
 by_cases h5 : what = 5
 ·subst h5
  have HE : Hid (opE g ⟨5, node, prop, tie⟩ = tieErr g tie true /\ opG g ⟨5, node, prop, tie⟩ = tieG g tie true) := ⟨rfl, rfl⟩
  have hcall := tie_any g tie true _ _ xs B W0 (by omega) HG0.out hct ht HO0.out.t
  go_enter Tryz.func49, Tryz.ntmps49
  go_wp2_with fail
  refine hcall.mono ?_
  clear hcall
  obtain ⟨z, hz⟩ : ∃ z, z = errV (tieErr g tie true) := ⟨_, rfl⟩
  have HZ := Lib.hid hz
  clear hz
  rintro e w1 ⟨un, ut, he, hown, ⟨A1, n1, c1, A2, n2, c2, rfl, rfl⟩, hB1, hK1⟩
  rw [<- HZ.out] at he
  subst he
  have hs1 := hK1.s
  have n2' := (hK1.k (w.heap.size + 1 + 1) (by omega) (fun e => by have := (HG.out.n.lt _ e.symm).2; omega) (fun e => by have := (HG.out.t.lt _ e.symm).2; omega)).trans M2.out
  have a5 := block_free n2' 0
  have a6 := block_free n2' 1
  have a7 := block_cell n2' 0
  have a8 := block_cell n2' 1
  have p3 := setCell_block n2' 0 (.slice A1 n1 c1)
  have p4 := setCell_block p3 1 (.slice A2 n2 c2)
  have HP4 := Lib.hid p4
  have HS : Hid (∀ T, 25 ≠ T -> Same T w1 ((w1.setCell ⟨w.heap.size + 1 + 1, 0, none⟩ (.slice A1 n1 c1)).setCell ⟨w.heap.size + 1 + 1, 1, none⟩ (.slice A2 n2 c2))) := fun T hT =>
   (Same.setCell (p := ⟨w.heap.size + 1 + 1, 0, none⟩) n2' hT _).trans (Same.setCell (p := ⟨w.heap.size + 1 + 1, 1, none⟩) p3 hT _)
  have HOW := Lib.hid hown
  have HK1 := Lib.hid hK1
  clear n2' p3 p4 hown hK1
  go_wp2_with fail
  have k2 := block_cell HP4.out 0
  have k3 := block_cell HP4.out 1
  have hk1 : Keep2 w w1 (.slice An g.nodes.length cn) (.slice At g.ties.length ct) := ⟨by omega, fun k hk h1 h2 => (HK1.out.k k (by omega) h1 h2).trans (hb0.block k hk)⟩
  exact bodyPost_ret (v := .tuple #[.agg #[.slice A1 n1 c1, .slice A2 n2 c2], z]) (by simp [results, Tryz.results49, go_sem, k2, k3]) rfl
   ⟨.slice A1 n1 c1, .slice A2 n2 c2, by rw [HZ.out, HE.out.1], (fun h => by
    obtain ⟨ys, hy⟩ := HOW.out (by rw [<- HE.out.1]; exact h)
    rw [HE.out.2]
    exact ⟨ys, hy.same (HS.out _ (by decide)) (HS.out _ (by decide)) (HS.out _ (by decide))⟩), ⟨_, _, _, _, _, _, rfl, rfl⟩,
    (((Below.mono hb0 hB).trans hB1).setCell (p := ⟨w.heap.size + 1 + 1, 0, none⟩) (by show B <= w.heap.size + 1 + 1; omega) _).setCell (p := ⟨w.heap.size + 1 + 1, 1, none⟩) (by show B <= w.heap.size + 1 + 1; omega) _,
    (hk1.box (p := ⟨w.heap.size + 1 + 1, 0, none⟩) (by show w.heap.size <= w.heap.size + 1 + 1; omega) _).box (p := ⟨w.heap.size + 1 + 1, 1, none⟩) (by show w.heap.size <= w.heap.size + 1 + 1; omega) _⟩
 by_cases h6 : what = 6
 ·subst h6
  have HE : Hid (opE g ⟨6, node, prop, tie⟩ = tieErr g tie false /\ opG g ⟨6, node, prop, tie⟩ = tieG g tie false) := ⟨rfl, rfl⟩
  have hcall := tie_any g tie false _ _ xs B W0 (by omega) HG0.out hct ht HO0.out.t
  go_enter Tryz.func49, Tryz.ntmps49
  go_wp2_with fail
  refine hcall.mono ?_
  clear hcall
  obtain ⟨z, hz⟩ : ∃ z, z = errV (tieErr g tie false) := ⟨_, rfl⟩
  have HZ := Lib.hid hz
  clear hz
  rintro e w1 ⟨un, ut, he, hown, ⟨A1, n1, c1, A2, n2, c2, rfl, rfl⟩, hB1, hK1⟩
  rw [<- HZ.out] at he
  subst he
  have hs1 := hK1.s
  have n2' := (hK1.k (w.heap.size + 1 + 1) (by omega) (fun e => by have := (HG.out.n.lt _ e.symm).2; omega) (fun e => by have := (HG.out.t.lt _ e.symm).2; omega)).trans M2.out
  have a5 := block_free n2' 0
  have a6 := block_free n2' 1
  have a7 := block_cell n2' 0
  have a8 := block_cell n2' 1
  have p3 := setCell_block n2' 0 (.slice A1 n1 c1)
  have p4 := setCell_block p3 1 (.slice A2 n2 c2)
  have HP4 := Lib.hid p4
  have HS : Hid (∀ T, 25 ≠ T -> Same T w1 ((w1.setCell ⟨w.heap.size + 1 + 1, 0, none⟩ (.slice A1 n1 c1)).setCell ⟨w.heap.size + 1 + 1, 1, none⟩ (.slice A2 n2 c2))) := fun T hT =>
   (Same.setCell (p := ⟨w.heap.size + 1 + 1, 0, none⟩) n2' hT _).trans (Same.setCell (p := ⟨w.heap.size + 1 + 1, 1, none⟩) p3 hT _)
  have HOW := Lib.hid hown
  have HK1 := Lib.hid hK1
  clear n2' p3 p4 hown hK1
  go_wp2_with fail
  have k2 := block_cell HP4.out 0
  have k3 := block_cell HP4.out 1
  have hk1 : Keep2 w w1 (.slice An g.nodes.length cn) (.slice At g.ties.length ct) := ⟨by omega, fun k hk h1 h2 => (HK1.out.k k (by omega) h1 h2).trans (hb0.block k hk)⟩
  exact bodyPost_ret (v := .tuple #[.agg #[.slice A1 n1 c1, .slice A2 n2 c2], z]) (by simp [results, Tryz.results49, go_sem, k2, k3]) rfl
   ⟨.slice A1 n1 c1, .slice A2 n2 c2, by rw [HZ.out, HE.out.1], (fun h => by
    obtain ⟨ys, hy⟩ := HOW.out (by rw [<- HE.out.1]; exact h)
    rw [HE.out.2]
    exact ⟨ys, hy.same (HS.out _ (by decide)) (HS.out _ (by decide)) (HS.out _ (by decide))⟩), ⟨_, _, _, _, _, _, rfl, rfl⟩,
    (((Below.mono hb0 hB).trans hB1).setCell (p := ⟨w.heap.size + 1 + 1, 0, none⟩) (by show B <= w.heap.size + 1 + 1; omega) _).setCell (p := ⟨w.heap.size + 1 + 1, 1, none⟩) (by show B <= w.heap.size + 1 + 1; omega) _,
    (hk1.box (p := ⟨w.heap.size + 1 + 1, 0, none⟩) (by show w.heap.size <= w.heap.size + 1 + 1; omega) _).box (p := ⟨w.heap.size + 1 + 1, 1, none⟩) (by show w.heap.size <= w.heap.size + 1 + 1; omega) _⟩
 have HE : Hid (opE g ⟨what, node, prop, tie⟩ = 1) := by
  unfold Hid opE
  simp only [h1, h2, h3, h4, h5, h6, if_false]
 have b1 : (what == 1) = false := beq_eq_false_iff_ne.2 h1
 have b2 : (what == 2) = false := beq_eq_false_iff_ne.2 h2
 have b3 : (what == 3) = false := beq_eq_false_iff_ne.2 h3
 have b4 : (what == 4) = false := beq_eq_false_iff_ne.2 h4
 have b5 : (what == 5) = false := beq_eq_false_iff_ne.2 h5
 have b6 : (what == 6) = false := beq_eq_false_iff_ne.2 h6
 have HB0 := Lib.hid hb0
 have a5 := block_free M2.out 0
 have a6 := block_free M2.out 1
 have a7 := block_cell M2.out 0
 have a8 := block_cell M2.out 1
 have p3 := setCell_block M2.out 0 (.slice An g.nodes.length cn)
 have p4 := setCell_block p3 1 (.slice At g.ties.length ct)
 have HP4 := Lib.hid p4
 clear p3 p4
 go_enter Tryz.func49, Tryz.ntmps49
 go_wp2_with fail
 have k2 := block_cell HP4.out 0
 have k3 := block_cell HP4.out 1
 exact bodyPost_ret (v := .tuple #[.agg #[.slice An g.nodes.length cn, .slice At g.ties.length ct], .iface 122 (.int .i64 1)]) (by simp [results, Tryz.results49, go_sem, k2, k3]) rfl
  ⟨.slice An g.nodes.length cn, .slice At g.ties.length ct, by rw [HE.out]; rfl, (fun h => by rw [HE.out] at h; exact absurd h (by decide)), ⟨_, _, _, _, _, _, rfl, rfl⟩,
   ((HB0.out.mono hB).setCell (p := ⟨w.heap.size + 1 + 1, 0, none⟩) (by show B <= w.heap.size + 1 + 1; omega) _).setCell (p := ⟨w.heap.size + 1 + 1, 1, none⟩) (by show B <= w.heap.size + 1 + 1; omega) _,
   ((Keep2.below HB0.out).box (p := ⟨w.heap.size + 1 + 1, 0, none⟩) (by show w.heap.size <= w.heap.size + 1 + 1; omega) _).box (p := ⟨w.heap.size + 1 + 1, 1, none⟩) (by show w.heap.size <= w.heap.size + 1 + 1; omega) _⟩
def Held (WB : World) (wr : World) (vn vt : Value) (g : Grf) : Prop := (∃ B xs, OwnG wr B vn vt g xs) \/ GrfR WB vn vt g
theorem Held.r {WB wr : World} {vn vt : Value} {g : Grf} (h : Held WB wr vn vt g) (hb : Below WB.heap.size WB wr) : GrfR wr vn vt g := by
 rcases h with ⟨B, xs, h⟩ | h
 ·exact h.r
 exact h.below hb
theorem Held.below {WB wr wx : World} {vn vt : Value} {g : Grf} (h : Held WB wr vn vt g) (hb : Below wr.heap.size wr wx) : Held WB wx vn vt g := by
 rcases h with ⟨B, xs, h⟩ | h
 ·exact .inl ⟨B, xs, h.below hb⟩
 exact .inr h
theorem Held.set {WB wr : World} {vn vt : Value} {g : Grf} (h : Held WB wr vn vt g) {b : Nat} {c : Array Value} {fr : Nat × Nat} (hb : wr.heap[b]? = some (.cells c 25 fr)) (i : Nat) (u : Value) : Held WB (wr.setCell ⟨b, i, none⟩ u) vn vt g := by
 have hS : ∀ T, 25 ≠ T -> Same T wr (wr.setCell ⟨b, i, none⟩ u) := fun T hT => Same.setCell (p := ⟨b, i, none⟩) hb hT _
 rcases h with ⟨B, xs, h⟩ | h
 ·exact .inl ⟨B, xs, h.same (hS _ (by decide)) (hS _ (by decide)) (hS _ (by decide))⟩
 exact .inr h
theorem Held.put {WB wr wx : World} {vn vt : Value} {g : Grf} (h : Held WB wr vn vt g) (hs : ∀ T, Same T wr wx) : Held WB wx vn vt g := by
 rcases h with ⟨B, xs, h⟩ | h
 ·exact .inl ⟨B, xs, h.same (hs _) (hs _) (hs _)⟩
 exact .inr h
open Go Go.RowKit Go.Deep Go.ChangeShapes Go.WideShapes Go.Joins
/-! ### Bulk -/
section
variable {H : Type}
theorem bulk_part {d : DataW H} {l : List (DataW H)} (h : d ∈ l) : Rows.uptoBulk d <= Rows.uptoBulkAll l := by
 induction l with
 | nil => cases h
 | cons x r ih =>
  simp only [Rows.uptoBulkAll]
  cases List.mem_cons.1 h with
  | inl e => subst e; omega
  | inr e => have := ih e; omega
theorem bulk_small {ds : List (DataW H)} (hk : Rows.uptoSmall H ds = true) {d : DataW H} (h : d ∈ ds) : Rows.uptoBulk d <= 1048576 := by
 have h1 : Rows.uptoBulkAll ds <= 1048576 := of_decide_eq_true hk
 have := bulk_part h
 omega
end
def Opens {D : Type} (P : Program) (L : Lay D) (t : TypeId) : Prop :=
 ∀ (H : Type) (enc : TypeId × Value -> H) (w : World) (base : Nat) (spare : Nat -> Bool) (held : Bool) (fuel : Nat) (cs : List Value) (x : DataW H × List MemPlace),
   DataW.trod enc P w base spare held fuel t cs = some x -> Rows.uptoBulk x.1 <= 1048576 -> ∃ d, L.cells w d cs
theorem add_off (b o n : Nat) : (⟨b, o, none⟩ : Addr).add n = ⟨b, o + n, none⟩ := by
 unfold Addr.add
 split
 ·rename_i h; subst h; rfl
 rfl
theorem rows_of {D : Type} {L : Lay D} {w : World} {a : Addr} {len : Nat} (h : ∀ i, i < len -> ∃ d cs, L.cells w d cs /\ ∀ j u, cs[j]? = some u -> w.cell? ((a.add (i * L.sz)).add j) = some u) :
 ∀ k, k <= len -> ∃ l : List D, l.length = k /\ ∀ i d, l[i]? = some d -> ∃ cs, L.cells w d cs /\ ∀ j u, cs[j]? = some u -> w.cell? ((a.add (i * L.sz)).add j) = some u
 | 0, _ => ⟨[], rfl, fun i d hi => by simp at hi⟩
 | k + 1, hk => by
  obtain ⟨l, hl, hall⟩ := rows_of h k (by omega)
  obtain ⟨d, cs, hc, hcell⟩ := h k (by omega)
  refine ⟨l ++ [d], by simp [hl], fun i x hi => ?_⟩
  by_cases hik : i < l.length
  ·rw [List.getElem?_append_left hik] at hi
   exact hall i x hi
  rw [List.getElem?_append_right (by omega)] at hi
  have e1 : i - l.length = 0 := by
   have := (List.getElem?_eq_some_iff.1 hi).1
   simp at this; omega
  rw [e1] at hi
  simp at hi
  subst hi
  obtain rfl : i = k := by omega
  exact ⟨cs, hc, hcell⟩
theorem Opens.slice {D : Type} {P : Program} {L : Lay D} {t e : TypeId} (ht : P.underlying t = some (.slice e)) (hC : P.cellsOf e = L.sz) (hs : 0 < L.sz) (h : Opens P L e) : Opens P (slL L) t := by
 intro H enc w base spare held fuel cs x hx hb
 rcases open_slice ht hx with ⟨rfl, rfl⟩ | ⟨a, len, cap, m, n, D', Pl, rfl, hbb, hl, hm, hmm, rfl, hi⟩
 ·exact ⟨[], _, rfl, Sl.nil 0 (by unfold maxLen; omega) none⟩
 have hm' : len <= m := by rw [hmm]; split <;> omega
 have hbA : Rows.uptoBulkAll ((List.range len).map D') <= 1048576 := by
  simp only [Rows.uptoBulk] at hb
  omega
 have each : ∀ i, i < len -> ∃ d cs, L.cells w d cs /\ ∀ j u, cs[j]? = some u -> w.cell? ((a.add (i * L.sz)).add j) = some u := fun i hil => by
  obtain ⟨cs', hc, ht'⟩ := hi i (by omega)
  rw [hC] at hc
  obtain ⟨_, hcl, hat⟩ := World.cells?_some hc
  have hbi : Rows.uptoBulk (D' i) <= 1048576 := by
   have := bulk_part (d := D' i) (l := (List.range len).map D') (List.mem_map.2 ⟨i, List.mem_range.2 hil, rfl⟩)
   omega
  obtain ⟨d, hd⟩ := h H enc w base spare held n cs' _ ht' hbi
  refine ⟨d, cs', hd, fun j u hj => ?_⟩
  have hjl : j < L.sz := by have := (List.getElem?_eq_some_iff.1 hj).1; omega
  rw [hat j hjl, hj]
 by_cases h0 : len = 0
 ·subst h0
  exact ⟨[], _, rfl, Sl.nil cap hm (some a)⟩
 obtain ⟨b, o, spot⟩ := a
 have hspot : spot = none := by
  obtain ⟨d, cs', hd, hcell⟩ := each 0 (by omega)
  have hl0 := L.len hd
  have h1 := hcell 0 _ (List.getElem?_eq_getElem (by omega))
  simpa [Addr.add] using World.cell?_spot h1
 subst hspot
 obtain ⟨l, hll, hall⟩ := rows_of each len (Nat.le_refl _)
 subst hll
 refine ⟨l, _, rfl, _, cap, rfl, hl, hm, fun i d hid => ?_⟩
 obtain ⟨cs', hd, hcell⟩ := hall i d hid
 refine ⟨b, o, cs', rfl, hd, fun j u hj => ?_⟩
 have := hcell j u hj
 rw [add_off, add_off, Nat.add_assoc] at this
 exact this
theorem field_at {H : Type} {enc : TypeId × Value -> H} {P : Program} {w : World} {base : Nat} {spare : Nat -> Bool} {held : Bool} {t : TypeId} {fs : Array Field} {fuel : Nat} {cs : List Value} {x : DataW H × List MemPlace}
 (ht : P.underlying t = some (.struct fs)) (h : DataW.trod enc P w base spare held fuel t cs = some x) (hb : Rows.uptoBulk x.1 <= 1048576) :
 cs.length = P.cellsOf t /\ ∀ {D : Type} {L : Lay D} (i : Nat) (f : Field) (k : Nat), fs[i]? = some f -> P.cellsOf f.type = k -> Opens P L f.type -> ∃ d, L.cells w d ((cs.drop f.offset).take k) := by
 obtain ⟨xs, n, _, rfl, hl, hxl, hf⟩ := DataW.trod_struct ht h
 refine ⟨hl, fun i f k hi hk ho => ?_⟩
 have h1 := hf i f hi
 have hil : i < xs.length := by have := (geB hi); omega
 obtain ⟨y, hy⟩ : ∃ y, xs[i]? = some y := ⟨_, List.getElem?_eq_getElem hil⟩
 rw [hy, hk] at h1
 refine ho H enc w base spare held n _ y h1 ?_
 have := bulk_part (d := y.1) (l := xs.map (·.1)) (List.mem_map.2 ⟨y, List.mem_of_getElem? hy, rfl⟩)
 simp only [Rows.uptoBulk] at hb
 omega
theorem opens_int {P : Program} {t : TypeId} (ht : P.underlying t = some (.int .i64)) : Opens P intL t := by
 intro H enc w base spare held fuel cs x hx hb
 obtain ⟨n, rfl, rfl, hw⟩ := DataW.trod_int ht hx
 refine ⟨n, rfl, ?_⟩
 have e1 : IntKind.i64.min = -9223372036854775808 := rfl
 have e2 : IntKind.i64.max = 9223372036854775807 := rfl
 simp [Lit.wf, e1, e2] at hw
 exact hw
theorem opens_str {P : Program} {t : TypeId} (ht : P.underlying t = some .string) : Opens P strL t := by
 intro H enc w base spare held fuel cs x hx hb
 obtain ⟨s, rfl, rfl, hw⟩ := DataW.trod_string ht hx
 refine ⟨s, rfl, ?_⟩
 simp only [Rows.uptoBulk, Array.length_toList] at hb
 show s.data.size <= 1048576
 omega
def boolL : Lay Bool := flatL 1 (fun _ => True) (fun b => [.bool b]) (fun _ => rfl)
theorem opens_bool {P : Program} {t : TypeId} (ht : P.underlying t = some .bool) : Opens P boolL t := by
 intro H enc w base spare held fuel cs x hx hb
 obtain ⟨b, rfl, rfl⟩ := DataW.trod_bool ht hx
 exact ⟨b, rfl, trivial⟩
end Go.Proofs.YtngbbefpphinjaaGreatDoor
