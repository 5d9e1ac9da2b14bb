/- Contract: delta.change, whatever it is handed to change a record by. -/
import Derived.Test.YtdfeloeainabjaaGrO
namespace Go.Proofs.Ytdfeloeainabjaa
open Go Go.RowKit

def chgG (g : Grf) (id : Int) (fR : List Prp → List Prp) : Grf := ⟨putRec g.nodes (fpos g.nodes id) (fR (recAt g.nodes id)), g.ties⟩
def chgE (g : Grf) (id : Int) (fE : List Prp → Int) : Int := if fhas g.nodes id then fE (recAt g.nodes id) else 5
set_option maxRecDepth 100000 in
set_option maxHeartbeats 8000000 in
theorem chg_any (f : Nat) (caps : Array Value) (ef : ∀ args w, (callFunc f args).run Try.prog w = .ok (.enter f args) w) (fR : List Prp → List Prp) (fE : List Prp → Int) (g : Grf) (id : Int) (vn vt : Value) (xs : List Value) (B : Nat) (w : World) (hB : B ≤ w.heap.size) (hG : OwnG w B vn vt g xs) (hc : chain nodLt g.nodes = true) (hn : g.nodes.length ≤ 1000)
    (hby : ∀ (r : List Prp) (v : Value) (w' : World), Below w.heap.size w w' → Sl prpL w' v r → Calls Try.prog f (#[v] ++ caps) w' (RetO (fR r) (fE r) w')) :
    Calls Try.prog 81 #[.agg #[vn, vt], .int .i64 id, .func (.func f) #[] caps] w (RetOG B vn vt (chgG g id fR) (chgE g id fE) w) := by
  obtain ⟨An, cn, rfl, _, _⟩ := hG.n.form
  obtain ⟨At, ct, rfl, _, _⟩ := hG.t.form
  have hb0 : Below w.heap.size w ((w.alloc (.cells #[.slice An g.nodes.length cn, .slice At g.ties.length ct] 29)).alloc (.cells #[.slice none 0 0, .slice none 0 0] 29)) := ((Below.refl _ _).alloc (Nat.le_refl _) _).alloc (by simp) _
  have g0 : ((w.alloc (.cells #[.slice An g.nodes.length cn, .slice At g.ties.length ct] 29)).alloc (.cells #[.slice none 0 0, .slice none 0 0] 29)).heap[w.heap.size]? = some (.cells #[.slice An g.nodes.length cn, .slice At g.ties.length ct] 29 (0, 0)) := by
    rw [Below.heap_alloc _ _ _ (by simp)]; exact heap_alloc_new _ _
  have g2 : ((w.alloc (.cells #[.slice An g.nodes.length cn, .slice At g.ties.length ct] 29)).alloc (.cells #[.slice none 0 0, .slice none 0 0] 29)).heap[w.heap.size + 1]? = some (.cells #[.slice none 0 0, .slice none 0 0] 29 (0, 0)) := by
    have := heap_alloc_new (w.alloc (.cells #[.slice An g.nodes.length cn, .slice At g.ties.length ct] 29)) (.cells #[.slice none 0 0, .slice none 0 0] 29); simpa using this
  have hsz : ((w.alloc (.cells #[.slice An g.nodes.length cn, .slice At g.ties.length ct] 29)).alloc (.cells #[.slice none 0 0, .slice none 0 0] 29)).heap.size = w.heap.size + 2 := by simp
  generalize hW0 : ((w.alloc (.cells #[.slice An g.nodes.length cn, .slice At g.ties.length ct] 29)).alloc (.cells #[.slice none 0 0, .slice none 0 0] 29)) = W0 at *
  have hG0 := hG.below hb0
  have hf := find_any g _ _ W0 hG0.r id hc hn
  have x0 := block_cell g0 0
  have x1 := block_cell g0 1
  have HG := Lib.hid hG0
  have HW0 := Lib.hid hW0
  have HBY := Lib.hid hby
  clear hG hG0 hby
  obtain ⟨E, hE⟩ : ∃ E : Int, E = chgE g id fE := ⟨_, rfl⟩
  rw [← hE]
  have HE : Hid (E = if fhas g.nodes id then fE (recAt g.nodes id) else 5) := hE
  clear hE
  go_enter Try.func81, Try.ntmps81
  go_wp2_with fail
  refine hf.mono ?_
  clear hf
  rintro e w1 ⟨rfl, hb1⟩
  have hB1 := hb0.trans (hb1.mono hb0.size)
  have m0 := (hb1.block _ (Array.getElem?_eq_some_iff.1 g0).1).trans g0
  have m2 := (hb1.block _ (Array.getElem?_eq_some_iff.1 g2).1).trans g2
  have hG1 := HG.out.below hb1
  have hs1 := hb1.size
  have HFS : Hid (fhas g.nodes id = true → ∃ n, g.nodes[fpos g.nodes id]? = some n) := fhas_some'
  have HRA : Hid (∀ n, g.nodes[fpos g.nodes id]? = some n → recAt g.nodes id = n.props) := fun n h => by unfold recAt; rw [h]
  have HCG : Hid (chgG g id fR = ⟨putRec g.nodes (fpos g.nodes id) (fR (recAt g.nodes id)), g.ties⟩) := rfl
  generalize fhas g.nodes id = q at *
  generalize fpos g.nodes id = K at *
  clear g0 g2 x0 x1 HG
  cases q with
  | false =>
    have hE : E = 5 := by rw [HE.out]; rfl
    have HEE : Hid (errV E = .iface 23 (.int .i64 5)) := by unfold Hid; rw [hE]; rfl
    clear HE
    have x0 := block_cell m0 0
    have x1 := block_cell m0 1
    have e0 := block_free m2 0
    have e1 := block_free m2 1
    have e2 := block_cell m2 0
    have e3 := block_cell m2 1
    have k3 := setCell_block (setCell_block m2 0 (.slice An g.nodes.length cn)) 1 (.slice At g.ties.length ct)
    have HM := Lib.hid k3
    clear m0 m2 k3 hG1
    go_wp2_with fail
    have k2 := block_cell HM.out 0
    have k3 := block_cell HM.out 1
    exact bodyPost_ret (v := .tuple #[.agg #[.slice An g.nodes.length cn, .slice At g.ties.length ct], .iface 23 (.int .i64 5)]) (by simp [results, Try.results81, go_sem, k2, k3]) rfl
      ⟨.slice An g.nodes.length cn, .slice At g.ties.length ct, by simp only [HEE.out], (fun h => absurd h (by omega)), ⟨_, _, _, _, _, _, rfl, rfl⟩, ((hB1.mono hB).setCell (p := ⟨w.heap.size + 1, 0, none⟩) (by show B ≤ w.heap.size + 1; omega) _).setCell (p := ⟨w.heap.size + 1, 1, none⟩) (by show B ≤ w.heap.size + 1; omega) _, (((Keep2.below hB1).box (p := ⟨w.heap.size + 1, 0, none⟩) (by show w.heap.size ≤ w.heap.size + 1; omega) _).box (p := ⟨w.heap.size + 1, 1, none⟩) (by show w.heap.size ≤ w.heap.size + 1; omega) _)⟩
  | true =>
    obtain ⟨d, hd⟩ := HFS.out rfl
    have hra := HRA.out d hd
    have hkl := (List.getElem?_eq_some_iff.1 hd).1
    have HE2 : Hid (E = fE d.props) := by unfold Hid; rw [HE.out, hra]; rfl
    have HCG2 : Hid (chgG g id fR = ⟨g.nodes.set K ⟨d.id, d.kind, fR d.props⟩, g.ties⟩) := by
      unfold Hid; rw [HCG.out, hra]; unfold putRec; rw [hd]
    have HD := Lib.hid hd
    obtain ⟨u, k0, k1, k2, hid, hkd, hpo, hpr⟩ := hG1.o.get hd
    obtain ⟨gb, o, c2, hv, hgb1, hgb2⟩ := hG1.n.addr (by omega)
    injection hv with hv1 hv2 hv3
    subst hv1; subst hv3
    have z2 : w1.cell? ⟨gb, o + K * 3 + 2, none⟩ = some u := hG1.n.cell (j := K * 3 + 2) rfl k2
    have x0 := block_cell m0 0
    have x1 := block_cell m0 1
    have hcall := HBY.out d.props u w1 hB1 (hpr.prps hpo)
    obtain ⟨Au, cu, rfl, _, _⟩ := hpr.form
    have hKi : (K : Int) < (g.nodes.length : Int) := by omega
    have K2 := Lib.hid k2
    clear hra hd k0 k1 k2 hpr hv2 HE HCG HFS HRA
    by_cases he : fE d.props = 0
    case neg =>
      have HEE : Hid (errV E = .iface 23 (.int .i64 (fE d.props))) := by unfold Hid; rw [HE2.out]; exact errV_some he
      have HNE : Hid (¬ E = 0) := by unfold Hid; rw [HE2.out]; exact he
      have HV := Lib.hid (errV_some he)
      clear he
      go_wp2_with (
        (go_at_fn f
         refine hcall.mono ?_
         rintro e w2 ⟨u2, he2, hu2, hb2⟩
         rw [HV.out] at he2
         subst he2
         obtain ⟨A2, c3, rfl, _, _⟩ := hu2.1.form
         have hB2 := hB1.trans (hb2.mono hB1.size)
         have hG2 := hG1.below hb2
         have hs2 := hb2.size
         have m0' := (hb2.block _ (Array.getElem?_eq_some_iff.1 m0).1).trans m0
         have m2' := (hb2.block _ (Array.getElem?_eq_some_iff.1 m2).1).trans m2
         clear m0 m2 x0 x1 z2
         clear hG1 hB1 hu2 hcall
         have hG1 := hG2
         have hB1 := hB2
         have m0 := m0'
         have m2 := m2'
         clear hG2 hB2 m0' m2'
         have x0 := block_cell m0 0
         have x1 := block_cell m0 1
         have e0 := block_free m2 0
         have e1 := block_free m2 1
         have e2 := block_cell m2 0
         have e3 := block_cell m2 1
         have k3 := setCell_block (setCell_block m2 0 (.slice (some ⟨gb, o, none⟩) g.nodes.length cn)) 1 (.slice At g.ties.length ct)
         have HM := Lib.hid k3
         clear m0 m2 k3 hG1
         skip))
      have k2 := block_cell HM.out 0
      have k3 := block_cell HM.out 1
      exact bodyPost_ret (v := .tuple #[.agg #[.slice (some ⟨gb, o, none⟩) g.nodes.length cn, .slice At g.ties.length ct], .iface 23 (.int .i64 (fE d.props))]) (by simp [results, Try.results81, go_sem, k2, k3]) rfl
        ⟨.slice (some ⟨gb, o, none⟩) g.nodes.length cn, .slice At g.ties.length ct, by simp only [HEE.out], (fun h => absurd h HNE.out), ⟨_, _, _, _, _, _, rfl, rfl⟩, ((hB1.mono hB).setCell (p := ⟨w.heap.size + 1, 0, none⟩) (by show B ≤ w.heap.size + 1; omega) _).setCell (p := ⟨w.heap.size + 1, 1, none⟩) (by show B ≤ w.heap.size + 1; omega) _, (((Keep2.below hB1).box (p := ⟨w.heap.size + 1, 0, none⟩) (by show w.heap.size ≤ w.heap.size + 1; omega) _).box (p := ⟨w.heap.size + 1, 1, none⟩) (by show w.heap.size ≤ w.heap.size + 1; omega) _)⟩
    have hE : E = 0 := by rw [HE2.out]; exact he
    have HER : Hid (errV E = .nilIface) := by unfold Hid; rw [hE]; rfl
    have HV := Lib.hid (errV_zero he)
    clear he
    go_wp2_with (
      (go_at_fn f
       refine hcall.mono ?_
       rintro e w2 ⟨u2, he2, hu2, hb2⟩
       rw [HV.out] at he2
       subst he2
       obtain ⟨A2, c3, rfl, _, _⟩ := hu2.1.form
       have hB2 := hB1.trans (hb2.mono hB1.size)
       have hG2 := hG1.below hb2
       have hs2 := hb2.size
       have m0' := (hb2.block _ (Array.getElem?_eq_some_iff.1 m0).1).trans m0
       have m2' := (hb2.block _ (Array.getElem?_eq_some_iff.1 m2).1).trans m2
       clear m0 m2 x0 x1 z2
       have hst := hG2.n.store (K * 3 + 2) (by omega) (.slice A2 (fR d.props).length c3)
       have f2 := hG2.n.frozen rfl (o + K * 3 + 2)
       have z2 : w2.cell? ⟨gb, o + K * 3 + 2, none⟩ = some (.slice Au d.props.length cu) := hG2.n.cell (j := K * 3 + 2) rfl K2.out
       have x0 := block_cell m0' 0
       have x1 := block_cell m0' 1
       have hsg : ∀ T, 33 ≠ T → Same T w2 (w2.setCell ⟨gb, o + K * 3 + 2, none⟩ (.slice A2 (fR d.props).length c3)) := fun T hT => Same.cellOf hG2.n hT _ _
       have n0 := hsg 29 (by decide) _ _ _ m0'
       have n2 := hsg 29 (by decide) _ _ _ m2'
       have p3 := setCell_block n2 0 (.slice (some ⟨gb, o, none⟩) g.nodes.length cn)
       have p4 := setCell_block p3 1 (.slice At g.ties.length ct)
       have a3 := block_cell n0 0
       have a4 := block_cell n0 1
       have a5 := block_free n2 0
       have a6 := block_free n2 1
       have a7 := block_cell n2 0
       have a8 := block_cell n2 1
       have HS : Hid (∀ T, 29 ≠ T → Same T (w2.setCell ⟨gb, o + K * 3 + 2, none⟩ (.slice A2 (fR d.props).length c3)) (((w2.setCell ⟨gb, o + K * 3 + 2, none⟩ (.slice A2 (fR d.props).length c3)).setCell ⟨w.heap.size + 1, 0, none⟩ (.slice (some ⟨gb, o, none⟩) g.nodes.length cn)).setCell ⟨w.heap.size + 1, 1, none⟩ (.slice At g.ties.length ct))) := fun T hT =>
         (Same.setCell (p := ⟨w.heap.size + 1, 0, none⟩) n2 hT _).trans (Same.setCell (p := ⟨w.heap.size + 1, 1, none⟩) p3 hT _)
       have hput := OwnNods.put (v := .slice A2 (fR d.props).length c3) hu2.2 (hu2.1.mono (by omega)) hG2.o HD.out
       have HFIN : Hid (OwnG (((w2.setCell ⟨gb, o + K * 3 + 2, none⟩ (.slice A2 (fR d.props).length c3)).setCell ⟨w.heap.size + 1, 0, none⟩ (.slice (some ⟨gb, o, none⟩) g.nodes.length cn)).setCell ⟨w.heap.size + 1, 1, none⟩ (.slice At g.ties.length ct)) B (.slice (some ⟨gb, o, none⟩) g.nodes.length cn) (.slice At g.ties.length ct) (chgG g id fR) (xs.set (K * 3 + 2) (.slice A2 (fR d.props).length c3))) := by
         rw [HCG2.out]
         refine ⟨?_, (hput.same (hsg _ (by decide))).same (HS.out _ (by decide)), (hG2.t.same (hsg _ (by decide))).same (HS.out _ (by decide)), hG2.k⟩
         show Own _ B 33 3 _ (g.nodes.set K ⟨d.id, d.kind, fR d.props⟩).length _
         rw [List.length_set]
         exact hst.same (HS.out _ (by decide))
       have HP4 := Lib.hid p4
       have hgB := (hG2.n.lt gb rfl).1
       clear hst hput n0 n2 p3 p4 hsg hG2 hG1 m0' m2' hu2 HE2 hE hcall))
    have k2 := block_cell HP4.out 0
    have k3 := block_cell HP4.out 1
    exact bodyPost_ret (v := .tuple #[.agg #[.slice (some ⟨gb, o, none⟩) g.nodes.length cn, .slice At g.ties.length ct], .nilIface]) (by simp [results, Try.results81, go_sem, k2, k3]) rfl
      ⟨.slice (some ⟨gb, o, none⟩) g.nodes.length cn, .slice At g.ties.length ct, by simp only [HER.out], (fun _ => ⟨_, HFIN.out⟩), ⟨_, _, _, _, _, _, rfl, rfl⟩, (((hB2.mono hB).setCell (p := ⟨gb, o + K * 3 + 2, none⟩) hgB _).setCell (p := ⟨w.heap.size + 1, 0, none⟩) (by show B ≤ w.heap.size + 1; omega) _).setCell (p := ⟨w.heap.size + 1, 1, none⟩) (by show B ≤ w.heap.size + 1; omega) _, ((((Keep2.below hB2).own (p := ⟨gb, o + K * 3 + 2, none⟩) rfl _).box (p := ⟨w.heap.size + 1, 0, none⟩) (by show w.heap.size ≤ w.heap.size + 1; omega) _).box (p := ⟨w.heap.size + 1, 1, none⟩) (by show w.heap.size ≤ w.heap.size + 1; omega) _)⟩
end Go.Proofs.Ytdfeloeainabjaa
