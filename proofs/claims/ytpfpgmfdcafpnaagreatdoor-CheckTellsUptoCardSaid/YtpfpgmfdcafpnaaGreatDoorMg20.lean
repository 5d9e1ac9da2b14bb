/- Parts: Numb, CkL, CkM. -/
import Derived.Test.YtpfpgmfdcafpnaaGreatDoorMg01
import Derived.Test.YtpfpgmfdcafpnaaGreatDoorRows
import Derived.Deep.RegionLaw
import Derived.Test.YtpfpgmfdcafpnaaGreatDoorMg14
import Derived.Test.YtpfpgmfdcafpnaaGreatDoorMg18
import Derived.Test.YtpfpgmfdcafpnaaGreatDoorMg19
import Derived.Test.YtpfpgmfdcafpnaaGreatDoorMg03
/- Plain: a step of a region that draws, by a contract; the contract of kinlaw4.number. -/
namespace Go.Proofs.YtpfpgmfdcafpnaaGreatDoor
open Go Go.RowKit

/-- A step of a region that draws, as it stands. -/
theorem step_here {P : Program} {ops : Array Oper} {o : Oper} {a : Act} {w : World} {K : Act → World → Prop} {Q : Exit → Act → World → Prop} {E : Prop} (hg : o.guard = none) (h : Oper.wp P o a w K Q) :
    if Region.wanted o (yielded ops a.tmps) = true then Oper.wp P o a w K Q else E := by
  rw [if_pos (by simp [Region.wanted, hg])]; exact h
/-- A call at a step of a region that draws. -/
theorem step_call {P : Program} {ops : Array Oper} {o : Oper} {a : Act} {w : World} {K : Act → World → Prop} {Q : Exit → Act → World → Prop} {E : Prop} (hg : o.guard = none) (g : Nat) (vs : Array Value)
    (hr : (execOp a.eval o).run P w = .ok (.enter g vs) w) (u : Value) {R : World → Prop}
    (h : Calls P g vs w fun e w' => e = .returned u ∧ R w') (hk : ∀ w', R w' → K (a.put o.dst u) w') :
    if Region.wanted o (yielded ops a.tmps) = true then Oper.wp P o a w K Q else E := by
  rw [if_pos (by simp [Region.wanted, hg])]
  unfold Oper.wp
  rw [hr, Oper.upon_enter]
  exact h.mono fun e w' ⟨he, hR⟩ => by subst he; exact hk w' hR
/-- .. whatever it answers. -/
theorem step_callx {P : Program} {ops : Array Oper} {o : Oper} {a : Act} {w : World} {K : Act → World → Prop} {Q : Exit → Act → World → Prop} {E : Prop} (hg : o.guard = none) (g : Nat) (vs : Array Value)
    (hr : (execOp a.eval o).run P w = .ok (.enter g vs) w) {R : Ending → World → Prop}
    (h : Calls P g vs w R) (hk : ∀ e w', R e w' → ∃ u, e = .returned u ∧ K (a.put o.dst u) w') :
    if Region.wanted o (yielded ops a.tmps) = true then Oper.wp P o a w K Q else E := by
  rw [if_pos (by simp [Region.wanted, hg])]
  unfold Oper.wp
  rw [hr, Oper.upon_enter]
  exact h.mono fun e w' hR => by
    obtain ⟨u, rfl, hK⟩ := hk e w' hR
    exact hK
end Go.Proofs.YtpfpgmfdcafpnaaGreatDoor

/- Contract: kinref1.Alone: the faults of a node by itself, as the document has them. No condition. -/
namespace Go.Proofs.YtpfpgmfdcafpnaaGreatDoor
open Go Go.RowKit


theorem Own.single {w : World} {D : Type} {n : Nat} {enc : D → List Value} (hn : ∀ d, (enc d).length = n) (T : TypeId) (d : D) (B : Nat) (hB : B ≤ w.heap.size) (_hn0 : n ≤ 1000) : Own (w.alloc (.cells (enc d).toArray T)) B T n (.slice (some ⟨w.heap.size, 0, none⟩) 1 1) [d].length ([d].flatMap enc) := by
  refine ⟨by simp [hn], .inr ⟨w.heap.size, 0, 1, (enc d).toArray, rfl, hB, heap_alloc_new _ _, Nat.le_refl _, by unfold maxLen; omega, by simp [hn], ?_⟩⟩
  have : (enc d).length = n := hn d
  simp [← this]
theorem any_snoc {D : Type} {l : List D} {k : Nat} {d : D} (p : D → Bool) (h : l[k]? = some d) : (l.take (k + 1)).any p = ((l.take k).any p || p d) := by
  rw [take_snocF h, List.any_append]; simp
def RAloneR (s : Scm) (n : Nod) (w : World) (e : Ending) (w' : World) : Prop :=
  ∃ v, e = .returned v ∧ Own w' w.heap.size 66 3 v (rAloneF s n).length ((rAloneF s n).flatMap Flt.enc) ∧ (∀ x ∈ rAloneF s n, x.ok) ∧ (rAloneF s n).length ≤ 1008 ∧ Below w.heap.size w w'
set_option maxRecDepth 100000 in
set_option maxHeartbeats 16000000 in
theorem ralone_any (s : Scm) (n : Nod) (vk vb u : Value) (w : World) (hs : ScmR w vk vb s) (hu : Sl prpL w u n.props) (hid : I64 n.id) (hkd : Sm n.kind) (hr : Right s.kinds) (hpl : n.props.length ≤ 1000) :
    Calls Tryz.prog 15 #[.agg #[vk, vb], .agg #[.int .i64 n.id, .string n.kind, u]] w (RAloneR s n w) := by
  obtain ⟨i0, ei, ez, ez1, ez2⟩ := info_parts flt_info
  obtain ⟨A1, c1, rfl, _, _⟩ := hs.1.form
  obtain ⟨A2, c2, rfl, _, _⟩ := hs.2.form
  obtain ⟨A3, c3, rfl, _, _⟩ := hu.form
  obtain ⟨W0, hW0⟩ : ∃ W0, W0 = (w.alloc (.cells #[.slice A1 s.kinds.length c1, .slice A2 s.bonds.length c2] 25)).alloc (.cells #[.int .i64 n.id, .string n.kind, .slice A3 n.props.length c3] 33) := ⟨_, rfl⟩
  have hb0 : Below w.heap.size w W0 := by rw [hW0]; exact ((Below.refl _ _).alloc (Nat.le_refl _) _).alloc (by simp) _
  have g0 : W0.heap[w.heap.size]? = some (.cells #[.slice A1 s.kinds.length c1, .slice A2 s.bonds.length c2] 25 (0, 0)) := by
    rw [hW0, Below.heap_alloc _ _ _ (by simp)]; exact heap_alloc_new _ _
  have g1 : W0.heap[w.heap.size + 1]? = some (.cells #[.int .i64 n.id, .string n.kind, .slice A3 n.props.length c3] 33 (0, 0)) := by
    have := heap_alloc_new (w.alloc (.cells #[.slice A1 s.kinds.length c1, .slice A2 s.bonds.length c2] 25)) (.cells #[.int .i64 n.id, .string n.kind, .slice A3 n.props.length c3] 33); rw [hW0]; simpa using this
  have hW0' := hW0.symm
  have hw0 := hb0.size
  have x0 := block_cell g0 0
  have y0 := block_cell g1 0
  have y1 := block_cell g1 1
  have y2 := block_cell g1 2
  have X0 := Lib.hid x0
  have Y0 := Lib.hid y0
  have Y1 := Lib.hid y1
  have Y2 := Lib.hid y2
  have HID := Lib.hid hid
  have HKD := Lib.hid hkd
  have HU := Lib.hid (hu.below hb0)
  have hx := rkind_any s.kinds n.kind _ W0 (hs.below hb0).1
  have HF : Hid (0 ≤ kFind s.kinds n.kind → Calls Tryz.prog 18 #[.slice A1 s.kinds.length c1, .string n.kind] W0 (FieldsR s.kinds n.kind W0)) := fun h => rfields_any s.kinds n.kind _ W0 (hs.below hb0).1 hr.wf h hr.len hr.ck.f
  have HNEG : Hid (kFind s.kinds n.kind < 0 → rAloneF s n = [⟨1, n.id, n.kind⟩]) := fun h => by unfold rAloneF; rw [if_pos h]
  have HPOS : Hid (0 ≤ kFind s.kinds n.kind → kfl s n.kind = (fieldsOf s.kinds n.kind).getD [] ∧ rAloneF s n = (n.props.filter fun p => !hasT (kfl s n.kind) p).map (fun p => ⟨2, n.id, p.name⟩) ++ ((kfl s n.kind).filter fun f => f.must && decide (atI n.props f.name < 0)).map (fun f => ⟨3, n.id, f.name⟩)) := fun h => ⟨by unfold kfl; rw [if_neg (by omega)], by unfold rAloneF; rw [if_neg (by omega)]⟩
  have hfl8 := kfl_len hr n.kind
  generalize kFind s.kinds n.kind = z at *
  unfold RAloneR
  generalize rAloneF s n = RA at *
  clear hs hu g0 g1 hW0 hid hkd hr
  go_enter Tryz.func15, Tryz.ntmps15
  go_wp2_with fail
  clear hW0'
  refine hx.mono ?_
  clear hx x0 y0 y1 y2
  rintro e W1 ⟨rfl, rfl⟩
  by_cases hz : z < 0
  · have HE := Lib.hid (HNEG.out hz)
    have hzd : decide (z < 0) = true := decide_eq_true hz
    have y0 := Y0.out
    have y1 := Y1.out
    clear HF HPOS HNEG hz
    go_wp2_with fail
    go_ret
    refine ⟨_, rfl, ?_, ?_, ?_, hb0.alloc hw0 _⟩
    · rw [HE.out]; exact Own.single Flt.enc_len 66 (⟨1, n.id, n.kind⟩ : Flt) w.heap.size hw0 (by omega)
    · rw [HE.out]; intro x hx; simp at hx; subst hx; exact ⟨⟨by show (-9223372036854775808 : Int) ≤ 1; omega, by show (1 : Int) ≤ 9223372036854775807; omega⟩, HID.out, HKD.out⟩
    · rw [HE.out]; simp
  have hzd : decide (z < 0) = false := decide_eq_false hz
  obtain ⟨hkf, hRA⟩ := HPOS.out (by omega)
  have hfx := HF.out (by omega)
  unfold FieldsR at hfx
  rw [← hkf] at hfx
  generalize kfl s n.kind = fs at *
  have HRA := Lib.hid hRA
  have x0 := X0.out
  have y1 := Y1.out
  clear HF HPOS HNEG hz hkf hRA
  go_wp2_with fail
  refine hfx.mono ?_
  clear hfx x0 y1
  rintro e W2 ⟨uf, rfl, huf, hb2⟩
  obtain ⟨Af, cf, rfl, _, _⟩ := huf.form
  have HUF := Lib.hid huf
  have hB2 := hb0.trans (hb2.mono hw0)
  have hfl' : (fs.length : Int) ≤ 8 := by omega
  have hpl' : (n.props.length : Int) ≤ 1000 := by omega
  have y2 := cell_below hb2 Y2.out
  clear huf
  go_wp2_with fail
  go_loopw [5, 8] (fun ov i wr => ∃ k : Nat, k ≤ n.props.length ∧ i = .int .i64 k ∧ Below W2.heap.size W2 wr ∧ Own wr W2.heap.size 66 3 ov (((n.props.take k).filter fun p => !hasT fs p).map (fun p => (⟨2, n.id, p.name⟩ : Flt))).length ((((n.props.take k).filter fun p => !hasT fs p).map (fun p => (⟨2, n.id, p.name⟩ : Flt))).flatMap Flt.enc)) (fun _ i _ => n.props.length - (intOf i).toNat)
  case atStart => exact ⟨0, Nat.zero_le _, rfl, Below.refl _ _, Own.nil _ _ _ _⟩
  case round =>
    obtain ⟨k, hk, rfl, hbr, hor⟩ := hrel
    have hbR0 : Below W0.heap.size W0 wr := hb2.trans (hbr.mono hb2.size)
    have y2 := cell_below hbR0 Y2.out
    by_cases hlt : k < n.props.length
    · obtain ⟨p, hd⟩ : ∃ d, n.props[k]? = some d := ⟨_, List.getElem?_eq_getElem hlt⟩
      obtain ⟨gb, o, rfl, hok, q0, q1, q2, q3⟩ := prp_at (HU.out.below hbR0) hd
      have hlt' : (k : Int) < (n.props.length : Int) := by omega
      obtain ⟨z0, z1, z2, z3⟩ := cell_box4 wr (.string p.name) (.int .i64 p.v.ty) (.int .i64 p.v.n) (.string p.v.s) 87
      have ha1 : Below wr.heap.size wr (wr.alloc (.cells #[.string p.name, .int .i64 p.v.ty, .int .i64 p.v.n, .string p.v.s] 87)) := (Below.refl _ _).alloc (Nat.le_refl _) _
      have HS := Lib.hid (filt_snoc (fun p => !hasT fs p) (fun p => (⟨2, n.id, p.name⟩ : Flt)) hd)
      have hle := filt_le n.props k (fun p => !hasT fs p) (fun p => (⟨2, n.id, p.name⟩ : Flt))
      have HOK : Hid (Sm p.name) := hok.1
      have HO := Lib.hid hor
      have HHT : Hid (hasT fs p = (fs.take fs.length).any fun f => decide (f.name = p.name) && decide (f.ty = p.v.ty)) := by unfold Hid; rw [List.take_length]; rfl
      clear hd hok hor
      go_upto_region 9 with fail
      generalize wr.alloc (.cells #[.string p.name, .int .i64 p.v.ty, .int .i64 p.v.n, .string p.v.s] 87) = wa at *
      generalize ((n.props.take k).filter fun p => !hasT fs p).map (fun p => (⟨2, n.id, p.name⟩ : Flt)) = acc at *
      have hba := hbr.trans (ha1.mono hbr.size)
      have Z0 := Lib.hid z0
      have Z1 := Lib.hid z1
      have HOA := Lib.hid (HO.out.below ha1)
      clear q0 q1 q2 q3 y2 z0 z1 z2 z3 HO
      go_wp2_with fail
      go_loopw [10, 11] (fun fv j wx => ∃ m : Nat, m ≤ fs.length ∧ j = .int .i64 m ∧ fv = .bool ((fs.take m).any fun f => decide (f.name = p.name) && decide (f.ty = p.v.ty)) ∧ Below wa.heap.size wa wx) (fun _ j _ => fs.length - (intOf j).toNat)
      case atStart => exact ⟨0, Nat.zero_le _, rfl, rfl, Below.refl _ _⟩
      case round =>
        obtain ⟨wo, hwo⟩ : ∃ wo : World, wo = wr := ⟨_, rfl⟩
        obtain ⟨m, hm, rfl, rfl, hbx⟩ := hrel
        have hb2x : Below W2.heap.size W2 wr := hba.trans (hbx.mono hba.size)
        have z0 := cell_below hbx Z0.out
        have z1 := cell_below hbx Z1.out
        by_cases hlm : m < fs.length
        · obtain ⟨f, hd⟩ : ∃ d, fs[m]? = some d := ⟨_, List.getElem?_eq_getElem hlm⟩
          obtain ⟨gb2, o2, rfl, hok2, q0, q1, q2, q3⟩ := fld_at (HUF.out.below hb2x) hd
          have hlm' : (m : Int) < (fs.length : Int) := by omega
          have HA := Lib.hid (any_snoc (fun f => decide (f.name = p.name) && decide (f.ty = p.v.ty)) hd)
          have hbb : (f.name.toList == p.name.toList) = decide (f.name = p.name) := bytes_beq f.name p.name
          have hcc : (f.ty == p.v.ty) = decide (f.ty = p.v.ty) := rfl
          clear hd hok2 q2 q3
          generalize (fs.take m).any (fun f => decide (f.name = p.name) && decide (f.ty = p.v.ty)) = fl at *
          go_upto_region 13 with fail
          have hNX : Hid (∀ nq, Below wa.heap.size wa (wr.drewN nq)) := fun nq => below_drewN hbx nq
          cases fl with
          | true =>
            go_quiet (fail)
            go_wp2_with fail
            go_roundw
            case rel => exact ⟨m + 1, by omega, by go_num, by rw [HA.out]; rfl, hNX.out _⟩
            case measure => simp [intOf]; omega
          | false =>
            by_cases h1 : f.name = p.name
            · have h1l : f.name.toList = p.name.toList := by rw [h1]
              rw [decide_eq_true h1] at hbb
              by_cases h2 : f.ty = p.v.ty
              · rw [decide_eq_true h2] at hcc
                have HE : Hid ((fs.take (m + 1)).any (fun f => decide (f.name = p.name) && decide (f.ty = p.v.ty)) = true) := by unfold Hid; rw [HA.out, decide_eq_true h1, decide_eq_true h2]; rfl
                clear HA
                go_quiet (fail)
                go_wp2_with fail
                go_roundw
                case rel => exact ⟨m + 1, by omega, by go_num, by rw [HE.out], hNX.out _⟩
                case measure => simp [intOf]; omega
              · rw [decide_eq_false h2] at hcc
                have HE : Hid ((fs.take (m + 1)).any (fun f => decide (f.name = p.name) && decide (f.ty = p.v.ty)) = false) := by unfold Hid; rw [HA.out, decide_eq_true h1, decide_eq_false h2]; rfl
                clear HA
                go_quiet (fail)
                go_wp2_with fail
                go_roundw
                case rel => exact ⟨m + 1, by omega, by go_num, by rw [HE.out], hNX.out _⟩
                case measure => simp [intOf]; omega
            · have h1l : ¬ f.name.toList = p.name.toList := by rw [bytes_eq]; exact h1
              rw [decide_eq_false h1] at hbb
              have HE : Hid ((fs.take (m + 1)).any (fun f => decide (f.name = p.name) && decide (f.ty = p.v.ty)) = false) := by unfold Hid; rw [HA.out, decide_eq_false h1]; rfl
              clear HA
              go_quiet (fail)
              go_wp2_with fail
              go_roundw
              case rel => exact ⟨m + 1, by omega, by go_num, by rw [HE.out], hNX.out _⟩
              case measure => simp [intOf]; omega
        · obtain rfl : m = fs.length := by omega
          rw [← HHT.out]
          have y0 := cell_below (hb2.trans (hb2x.mono hb2.size)) Y0.out
          have HOR := Lib.hid (HOA.out.below hbx)
          obtain ⟨Ar, cr, rfl, _, _⟩ := HOR.out.form
          have hbR := hb2x
          clear hlm hm hbx hb2x hba z1 HHT hlt hfl'
          cases hht : hasT fs p with
          | true =>
            rw [hht] at HS
            have HE : Hid (((n.props.take (k + 1)).filter fun p => !hasT fs p).map (fun p => (⟨2, n.id, p.name⟩ : Flt)) = acc) := by unfold Hid; rw [HS.out]; simp
            clear HS hht
            go_wp2_with fail
            go_roundw
            case rel => exact ⟨k + 1, by omega, by go_num, hbR, by rw [HE.out]; exact HOR.out⟩
            case measure => simp [intOf]; omega
          | false =>
            rw [hht] at HS
            have HE : Hid (((n.props.take (k + 1)).filter fun p => !hasT fs p).map (fun p => (⟨2, n.id, p.name⟩ : Flt)) = acc ++ [⟨2, n.id, p.name⟩]) := by unfold Hid; rw [HS.out]; simp
            clear HS hht
            -- one more fault: 75: the list's slot; 81: the piece's; (⟨2, n.id, p.name⟩ : Flt): the fault; wr: the world ahead; acc: its list
            go_wp2_with (at_builtin; refine wpList_append_q _ rfl (.tmp 75) (.tmp 81) _ rfl W2.heap.size 66 i0 (.agg #[.int .i64 0, .int .i64 0, .string .empty]) 3 32 Tryz.underlying35 ei ez ez1 ez2 rfl (by decide) (.slice Ar (acc).length cr) (acc).length ((acc).flatMap Flt.enc) rfl (HOR.out.alloc _) (some ⟨(wr).heap.size, 0, none⟩) 1 1 (Flt.enc (⟨2, n.id, p.name⟩ : Flt)) rfl rfl (fun _ => ⟨_, rfl, fun j u hj => by rw [addr_add, Nat.zero_add, World.cell?_alloc_at _ _ _ _ rfl]; simpa [Flt.enc] using hj⟩) (fun u hu => by simp [Flt.enc] at hu; rcases hu with rfl | rfl | rfl <;> rfl) (by unfold maxLen; omega) (by omega) (by have := hbR.size; simp; omega) ?_; intro v7 w7 hown7 hg7 hat7)
            have hb7 : Below W2.heap.size W2 w7 := (hbR.alloc hbR.size _).grown hg7 (by have := hbR.size; simp; omega) (fun kk hkk => (HOR.out.lt kk hkk).1)
            have ho7 : Own w7 W2.heap.size 66 3 v7 ((acc) ++ [(⟨2, n.id, p.name⟩ : Flt)]).length (((acc) ++ [(⟨2, n.id, p.name⟩ : Flt)]).flatMap Flt.enc) := by
              rw [flat_snoc] at hown7
              simpa using hown7
            clear hg7 hat7 hown7
            go_roundw
            case rel => exact ⟨k + 1, by omega, by go_num, hb7, by rw [HE.out]; exact ho7⟩
            case measure => simp [intOf]; omega
    · obtain rfl : k = n.props.length := by omega
      rw [List.take_length] at hor
      generalize hb1 : (n.props.filter fun p => !hasT fs p).map (fun p => (⟨2, n.id, p.name⟩ : Flt)) = acc1 at *
      have hl1 : acc1.length ≤ 1000 := by rw [← hb1, List.length_map]; exact Nat.le_trans (List.length_filter_le _ _) hpl
      have HOK1 : Hid (∀ x ∈ acc1, x.ok) := by
        intro x hx
        rw [← hb1] at hx
        obtain ⟨p, hp, rfl⟩ := List.mem_map.1 hx
        obtain ⟨i, hi⟩ := List.mem_iff_getElem?.1 (List.mem_filter.1 hp).1
        obtain ⟨_, _, _, hok, _⟩ := prp_at HU.out hi
        exact ⟨⟨by show (-9223372036854775808 : Int) ≤ 2; omega, by show (2 : Int) ≤ 9223372036854775807; omega⟩, HID.out, hok.1⟩
      have HO := Lib.hid hor
      have HB1 := Lib.hid hb1
      clear hb1 hor hlt hk
      obtain ⟨w3, hw3⟩ : ∃ w3 : World, w3 = wr := ⟨_, rfl⟩
      have HBR := Lib.hid hbr
      rw [← hw3] at HO HBR
      clear hbr hbR0
      go_wp2_with fail
      clear y2
      go_loopw [5, 12] (fun ov i wr => ∃ k : Nat, k ≤ fs.length ∧ i = .int .i64 k ∧ Below W2.heap.size W2 wr ∧ Own wr W2.heap.size 66 3 ov (acc1 ++ ((fs.take k).filter fun f => f.must && decide (atI n.props f.name < 0)).map (fun f => (⟨3, n.id, f.name⟩ : Flt))).length ((acc1 ++ ((fs.take k).filter fun f => f.must && decide (atI n.props f.name < 0)).map (fun f => (⟨3, n.id, f.name⟩ : Flt))).flatMap Flt.enc)) (fun _ i _ => fs.length - (intOf i).toNat)
      case atStart => exact ⟨0, Nat.zero_le _, rfl, by rw [← hw3]; exact HBR.out, by rw [← hw3]; simpa using HO.out⟩
      case round =>
        clear hw3 HO HBR
        obtain ⟨k, hk, rfl, hbR, hor⟩ := hrel
        have hbR0 : Below W0.heap.size W0 wr := hb2.trans (hbR.mono hb2.size)
        have HO := Lib.hid hor
        obtain ⟨Ar, cr, rfl, _, _⟩ := hor.form
        by_cases hlt : k < fs.length
        · obtain ⟨f, hd⟩ : ∃ d, fs[k]? = some d := ⟨_, List.getElem?_eq_getElem hlt⟩
          obtain ⟨gb, o, rfl, hok, q0, q1, q2, q3⟩ := fld_at (HUF.out.below hbR) hd
          have hlt' : (k : Int) < (fs.length : Int) := by omega
          have hk0 : (0 : Int) ≤ (k : Int) := by omega
          have HS := Lib.hid (filt_snoc (fun f => f.must && decide (atI n.props f.name < 0)) (fun f => (⟨3, n.id, f.name⟩ : Flt)) hd)
          have hle := filt_le fs k (fun f => f.must && decide (atI n.props f.name < 0)) (fun f => (⟨3, n.id, f.name⟩ : Flt))
          have y0 := cell_below hbR0 Y0.out
          have y2 := cell_below hbR0 Y2.out
          have HAT : Hid (∀ W, Below wr.heap.size wr W → Calls Tryz.prog 33 #[.slice A3 n.props.length c3, .string f.name] W fun e w' => e = .returned (.int .i64 (atI n.props f.name)) ∧ W = w') := fun W h => rat_any n.props f.name _ W (HU.out.below (hbR0.trans (h.mono hbR0.size)))
          clear hd hok hor q1 q3
          generalize ((fs.take k).filter fun f => f.must && decide (atI n.props f.name < 0)).map (fun f => (⟨3, n.id, f.name⟩ : Flt)) = acc2 at *
          generalize hat : atI n.props f.name = az at *
          generalize hfm : f.must = fm at *
          have HN0 : Hid ((fm && decide (az < 0)) = false → acc1 ++ ((fs.take (k + 1)).filter fun f => f.must && decide (atI n.props f.name < 0)).map (fun f => (⟨3, n.id, f.name⟩ : Flt)) = acc1 ++ acc2) := fun h => by rw [HS.out, if_neg (by rw [h]; simp)]; simp
          have HN1 : Hid ((fm && decide (az < 0)) = true → acc1 ++ ((fs.take (k + 1)).filter fun f => f.must && decide (atI n.props f.name < 0)).map (fun f => (⟨3, n.id, f.name⟩ : Flt)) = (acc1 ++ acc2) ++ [⟨3, n.id, f.name⟩]) := fun h => by rw [HS.out, if_pos h]; simp
          have hln : (acc1 ++ acc2).length ≤ 1008 := by rw [List.length_append]; omega
          clear hle HS
          generalize acc1 ++ acc2 = acc3 at *
          cases fm with
          | false =>
            have HE := Lib.hid (HN0.out rfl)
            clear HN0 HN1 HAT y0
            go_wp2_with fail
            go_quiet (fail)
            go_wp2_with fail
            go_roundw
            case rel => exact ⟨k + 1, by omega, by go_num, below_drewN hbR _, by rw [HE.out]; exact HO.out.drewN _⟩
            case measure => simp [intOf]; omega
          | true =>
            have HQ0 := Lib.hid q0
            go_wp2_with fail
            refine wp_mid_g 13 _ rfl rfl (by kernel_rfl) ?_
            simp only [List.take_succ_cons, List.take_zero, List.drop_succ_cons, List.drop_zero]
            repeat (go_big_quiet_step (fail))
            refine wpQuiet_nil ?_
            refine ⟨by simp [Region.wanted, yielded, go_sem], ?_⟩
            intro _ hw'
            obtain ⟨nq, hw''⟩ := hw'
            subst hw''
            intro K hK
            have hk1 := HAT.out (wr.drewN nq) (below_drewN (Below.refl _ _) nq)
            go_wp2_with fail
            refine hk1.mono ?_
            clear hk1 HAT
            rintro e w4 ⟨rfl, rfl⟩
            refine hK _ _ ?_
            repeat (go_big_quiet_step (fail))
            refine wpQuiet_nil ?_
            intro _ hw'
            obtain ⟨nq2, hw''⟩ := hw'
            subst hw''
            clear hK
            have hbq := below_drewN (below_drewN (Below.refl wr.heap.size wr) nq) nq2
            have hbR := below_drewN (below_drewN hbR nq) nq2
            have HO := Lib.hid (HO.out.below hbq)
            have y0 := cell_below hbq y0
            have q0 := cell_below hbq HQ0.out
            generalize (wr.drewN nq).drewN nq2 = w5 at *
            clear y2 hbq
            by_cases haz : az < 0
            · have haz1 : decide (az < 0) = true := decide_eq_true haz
              have HE := Lib.hid (HN1.out (by rw [haz1]; rfl))
              clear HN0 HN1
              go_wp2_with fail
              -- one more fault, in a region that draws: 105: the list's slot; 114: the piece's; (⟨3, n.id, f.name⟩ : Flt): the fault; w5: the world ahead; acc3: its list
              have hod : Own ((w5).alloc (.cells (Flt.enc (⟨3, n.id, f.name⟩ : Flt)).toArray 66)).drew W2.heap.size 66 3 (.slice Ar (acc3).length cr) (acc3).length ((acc3).flatMap Flt.enc) := HO.out.alloc _
              have hcd : ∀ j u, (Flt.enc (⟨3, n.id, f.name⟩ : Flt))[j]? = some u → ((w5).alloc (.cells (Flt.enc (⟨3, n.id, f.name⟩ : Flt)).toArray 66)).drew.cell? ⟨(w5).heap.size, j, none⟩ = some u := fun j u hj => by
                show ((w5).alloc (.cells (Flt.enc (⟨3, n.id, f.name⟩ : Flt)).toArray 66)).cell? ⟨(w5).heap.size, j, none⟩ = some u
                rw [World.cell?_alloc_at _ _ _ _ rfl]; simpa using hj
              have HCD := Lib.hid hcd
              have HOD := Lib.hid hod
              clear hcd hod
              go_region_law
                (first
                  | (refine step_here rfl ?_
                     refine wp_append_q _ (.tmp 105) (.tmp 114) 35 rfl W2.heap.size 66 i0 (.agg #[.int .i64 0, .int .i64 0, .string .empty]) 3 32 Tryz.underlying35 ei ez ez1 ez2 rfl (by decide) (.slice Ar (acc3).length cr) (acc3).length ((acc3).flatMap Flt.enc) rfl HOD.out (some ⟨(w5).heap.size, 0, none⟩) 1 1 (Flt.enc (⟨3, n.id, f.name⟩ : Flt)) rfl rfl (fun _ => ⟨_, rfl, fun j u hj => by rw [addr_add, Nat.zero_add]; exact HCD.out j u hj⟩) (fun u hu => by simp [Flt.enc] at hu; rcases hu with rfl | rfl | rfl <;> rfl) (by unfold maxLen; omega) (by omega) (by have := hbR.size; show W2.heap.size ≤ ((w5).alloc _).heap.size; simp; omega) ?_
                     intro v7 w7 hown7 hg7 hat7))
              all_goals
                have hb7 : Below W2.heap.size W2 w7 := (hbR.alloc hbR.size _).drew.grown hg7 (by have := hbR.size; show W2.heap.size ≤ (w5.alloc _).heap.size; simp; omega) (fun kk hkk => (HOD.out.lt kk hkk).1)
                have ho7 : Own w7 W2.heap.size 66 3 v7 (acc3 ++ [(⟨3, n.id, f.name⟩ : Flt)]).length ((acc3 ++ [(⟨3, n.id, f.name⟩ : Flt)]).flatMap Flt.enc) := by
                  rw [flat_snoc] at hown7
                  simpa using hown7
                clear hg7 hat7 hown7
                go_wp2_with fail
                go_roundw
                case rel => exact ⟨k + 1, by omega, by go_num, hb7, by rw [HE.out]; exact ho7⟩
                case measure => simp [intOf]; omega
            · have haz1 : decide (az < 0) = false := decide_eq_false haz
              have HE := Lib.hid (HN0.out (by rw [haz1]; rfl))
              clear HN0 HN1
              go_wp2_with fail
              go_roundw
              case rel => exact ⟨k + 1, by omega, by go_num, hbR, by rw [HE.out]; exact HO.out⟩
              case measure => simp [intOf]; omega
        · obtain rfl : k = fs.length := by omega
          have HL : Hid (RA.length ≤ 1008) := by
            unfold Hid
            rw [HRA.out, List.length_append, List.length_map]
            have := List.length_filter_le (fun f => f.must && decide (atI n.props f.name < 0)) fs
            omega
          have HKO : Hid (∀ x ∈ RA, x.ok) := by
            intro x hx
            rw [HRA.out] at hx
            rcases List.mem_append.1 hx with h | h
            · exact HOK1.out x h
            · obtain ⟨f, hf, rfl⟩ := List.mem_map.1 h
              obtain ⟨i, hi⟩ := List.mem_iff_getElem?.1 (List.mem_filter.1 hf).1
              obtain ⟨_, _, _, hok, _⟩ := fld_at HUF.out hi
              exact ⟨⟨by show (-9223372036854775808 : Int) ≤ 3; omega, by show (3 : Int) ≤ 9223372036854775807; omega⟩, HID.out, hok.1⟩
          have HRE : Hid (acc1 ++ ((fs.take fs.length).filter fun f => f.must && decide (atI n.props f.name < 0)).map (fun f => (⟨3, n.id, f.name⟩ : Flt)) = RA) := by unfold Hid; rw [List.take_length, HRA.out]
          have HBW := Lib.hid (hB2.trans (hbR.mono hB2.size))
          have HZ2 := Lib.hid hB2.size
          clear hlt hk HRA HB1 HOK1 hB2 hor
          go_wp2_with fail
          go_ret
          exact ⟨_, rfl, by rw [← HRE.out]; exact HO.out.mono HZ2.out, HKO.out, HL.out, HBW.out⟩
end Go.Proofs.YtpfpgmfdcafpnaaGreatDoor

/- Contract: kinref1.key: which value a node has in a field of a name that is a key. No condition. -/
namespace Go.Proofs.YtpfpgmfdcafpnaaGreatDoor
open Go Go.RowKit

def keyV (o : Option Val) : Value := .tuple #[.agg #[.int .i64 (o.getD noVal).ty, .int .i64 (o.getD noVal).n, .string (o.getD noVal).s], .bool o.isSome]
theorem res3b {B : Nat} {w w1 : World} {q : Nat} {T : TypeId} {c0 c1 c2 : Value} (a b c : Value) (hB : Below B w w1) (hq : B ≤ q) (h : w1.heap[q]? = some (.cells #[c0, c1, c2] T (0, 0))) :
    Below B w (((w1.setCell ⟨q, 0, none⟩ a).setCell ⟨q, 1, none⟩ b).setCell ⟨q, 2, none⟩ c) ∧
    (((w1.setCell ⟨q, 0, none⟩ a).setCell ⟨q, 1, none⟩ b).setCell ⟨q, 2, none⟩ c).cell? ⟨q, 0, none⟩ = some a ∧
    (((w1.setCell ⟨q, 0, none⟩ a).setCell ⟨q, 1, none⟩ b).setCell ⟨q, 2, none⟩ c).cell? ⟨q, 1, none⟩ = some b ∧
    (((w1.setCell ⟨q, 0, none⟩ a).setCell ⟨q, 1, none⟩ b).setCell ⟨q, 2, none⟩ c).cell? ⟨q, 2, none⟩ = some c := by
  have h3 := setCell_block (setCell_block (setCell_block h 0 a) 1 b) 2 c
  exact ⟨((hB.setCell (p := ⟨_, 0, none⟩) hq _).setCell (p := ⟨_, 1, none⟩) hq _).setCell (p := ⟨_, 2, none⟩) hq _, block_cell h3 0, block_cell h3 1, block_cell h3 2⟩
set_option maxRecDepth 100000 in
set_option maxHeartbeats 16000000 in
theorem rkey_any (s : Scm) (n : Nod) (nm : ByteArray) (vk vb u : Value) (w : World) (hs : ScmR w vk vb s) (hu : Sl prpL w u n.props) (hr : Right s.kinds) (hpl : n.props.length ≤ 1000) :
    Calls Tryz.prog 19 #[.agg #[vk, vb], .agg #[.int .i64 n.id, .string n.kind, u], .string nm] w fun e w' => e = .returned (keyV (rKey s n nm)) ∧ Below w.heap.size w w' := by
  obtain ⟨A1, c1, rfl, _, _⟩ := hs.1.form
  obtain ⟨A2, c2, rfl, _, _⟩ := hs.2.form
  obtain ⟨A3, c3, rfl, _, _⟩ := hu.form
  obtain ⟨W0, hW0⟩ : ∃ W0, W0 = ((w.alloc (.cells #[.slice A1 s.kinds.length c1, .slice A2 s.bonds.length c2] 25)).alloc (.cells #[.int .i64 n.id, .string n.kind, .slice A3 n.props.length c3] 33)).alloc (.cells #[.int .i64 0, .int .i64 0, .string ⟨#[]⟩] 60) := ⟨_, rfl⟩
  have hb0 : Below w.heap.size w W0 := by rw [hW0]; exact (((Below.refl _ _).alloc (Nat.le_refl _) _).alloc (by simp) _).alloc (by simp; omega) _
  have g0 : W0.heap[w.heap.size]? = some (.cells #[.slice A1 s.kinds.length c1, .slice A2 s.bonds.length c2] 25 (0, 0)) := by
    rw [hW0, Below.heap_alloc _ _ _ (by simp; omega), Below.heap_alloc _ _ _ (by simp)]; exact heap_alloc_new _ _
  have g1 : W0.heap[w.heap.size + 1]? = some (.cells #[.int .i64 n.id, .string n.kind, .slice A3 n.props.length c3] 33 (0, 0)) := by
    have := heap_alloc_new (w.alloc (.cells #[.slice A1 s.kinds.length c1, .slice A2 s.bonds.length c2] 25)) (.cells #[.int .i64 n.id, .string n.kind, .slice A3 n.props.length c3] 33); rw [hW0, Below.heap_alloc _ _ _ (by simp)]; simpa using this
  have gq : W0.heap[w.heap.size + 1 + 1]? = some (.cells #[.int .i64 0, .int .i64 0, .string ⟨#[]⟩] 60 (0, 0)) := by
    have := heap_alloc_new ((w.alloc (.cells #[.slice A1 s.kinds.length c1, .slice A2 s.bonds.length c2] 25)).alloc (.cells #[.int .i64 n.id, .string n.kind, .slice A3 n.props.length c3] 33)) (.cells #[.int .i64 0, .int .i64 0, .string ⟨#[]⟩] 60); rw [hW0]; simpa using this
  have hW0' := hW0.symm
  have hw0 := hb0.size
  have HGQ := Lib.hid gq
  have HSQ : Hid (w.heap.size ≤ w.heap.size + 1 + 1) := by unfold Hid; omega
  have x0 := block_cell g0 0
  have y1 := block_cell g1 1
  have X0 := Lib.hid x0
  have Y1 := Lib.hid y1
  have Y2 := Lib.hid (block_cell g1 2)
  have HU := Lib.hid (hu.below hb0)
  have hx := rkind_any s.kinds n.kind _ W0 (hs.below hb0).1
  have HF : Hid (0 ≤ kFind s.kinds n.kind → Calls Tryz.prog 18 #[.slice A1 s.kinds.length c1, .string n.kind] W0 (FieldsR s.kinds n.kind W0)) := fun h => rfields_any s.kinds n.kind _ W0 (hs.below hb0).1 hr.wf h hr.len hr.ck.f
  have HNEG : Hid (kFind s.kinds n.kind < 0 → rKey s n nm = none) := fun h => by unfold rKey; rw [if_pos h]
  have HPOS : Hid (0 ≤ kFind s.kinds n.kind → kfl s n.kind = (fieldsOf s.kinds n.kind).getD [] ∧ rKey s n nm = if (kfl s n.kind).any (keyB n nm) = true then (n.props[(atI n.props nm).toNat]?).map (·.v) else none) := fun h => ⟨by unfold kfl; rw [if_neg (by omega)], by unfold rKey; rw [if_neg (by omega)]⟩
  have HAC : Hid (atI n.props nm < 0 ∨ ∃ (i : Nat) (p : Prp), atI n.props nm = i ∧ n.props[i]? = some p) := by
    by_cases h : atI n.props nm < 0
    · exact .inl h
    · obtain ⟨i, p, h1, h2, _⟩ := idxI_nonneg (p := fun p : Prp => decide (p.name = nm)) (l := n.props) (by unfold atI at h; omega)
      exact .inr ⟨i, p, h1, h2⟩
  have hfl8 := kfl_len hr n.kind
  generalize kFind s.kinds n.kind = z at *
  generalize rKey s n nm = RK at *
  clear hs hu g0 g1 gq hW0 hr
  go_enter Tryz.func19, Tryz.ntmps19
  go_wp2_with fail
  clear hW0'
  refine hx.mono ?_
  clear hx x0 y1
  rintro e W1 ⟨rfl, rfl⟩
  by_cases hz : z < 0
  · have HE := Lib.hid (HNEG.out hz)
    have hzd : decide (z < 0) = true := decide_eq_true hz
    have hb11 := Below.refl W0.heap.size W0
    -- W0: the world; hb11: it is above w; .int .i64 0, .int .i64 0, .string ⟨#[]⟩: the value's cells; $6: the flag; $7: what closes
    have hqk := ((hb11).block _ (Array.getElem?_eq_some_iff.1 HGQ.out).1).trans HGQ.out
    obtain ⟨k1, k2, k3, k4⟩ := res3b (.int .i64 0) (.int .i64 0) (.string ⟨#[]⟩) (hb0.trans ((hb11).mono hw0)) HSQ.out hqk
    have y0 := block_cell hqk 0
    have y1 := block_cell hqk 1
    have y2 := block_cell hqk 2
    have g0 := block_free hqk 0
    have g1 := block_free hqk 1
    have g2 := block_free hqk 2
    clear hqk
    clear HF HPOS HNEG hz
    go_wp2_with fail
    exact bodyPost_ret (v := .tuple #[.agg #[.int .i64 0, .int .i64 0, .string ⟨#[]⟩], .bool false]) (by simp [results, Tryz.results19, go_sem, k2, k3, k4]) rfl ⟨by rw [HE.out]; rfl, k1⟩
  have hzd : decide (z < 0) = false := decide_eq_false hz
  obtain ⟨hkf, hRK⟩ := HPOS.out (by omega)
  have hfx := HF.out (by omega)
  unfold FieldsR at hfx
  rw [← hkf] at hfx
  generalize kfl s n.kind = fs at *
  have HRK := Lib.hid hRK
  have x0 := X0.out
  have y1 := Y1.out
  clear HF HPOS HNEG hz hkf hRK
  go_wp2_with fail
  refine hfx.mono ?_
  clear hfx x0 y1
  rintro e W2 ⟨uf, rfl, huf, hb2⟩
  obtain ⟨Af, cf, rfl, _, _⟩ := huf.form
  have HUF := Lib.hid huf
  have hfl' : (fs.length : Int) ≤ 8 := by omega
  have y2 := cell_below hb2 Y2.out
  have hx := rat_any n.props nm _ W2 (HU.out.below hb2)
  clear huf
  go_wp2_with fail
  refine hx.mono ?_
  clear hx y2
  rintro e W3 ⟨rfl, rfl⟩
  have hac := HAC.out
  have HKB : Hid (∀ f, keyB n nm f = (decide (f.name = nm) && f.key && decide (0 ≤ atI n.props nm) && (match n.props[(atI n.props nm).toNat]? with | some p => decide (p.v.ty = f.ty) | none => false))) := fun f => rfl
  clear HAC
  generalize atI n.props nm = az at *
  go_wp2_with fail
  go_loopw [11] (fun i wr => ∃ m : Nat, m ≤ fs.length ∧ i = .int .i64 m ∧ Below W2.heap.size W2 wr ∧ Hid ((fs.take m).any (keyB n nm) = false)) (fun i _ => fs.length - (intOf i).toNat)
  case atStart => exact ⟨0, Nat.zero_le _, rfl, Below.refl _ _, rfl⟩
  case round =>
    obtain ⟨m, hm, rfl, hbr, HAN⟩ := hrel
    have hb0r : Below W0.heap.size W0 wr := hb2.trans (hbr.mono hb2.size)
    by_cases hlm : m < fs.length
    · obtain ⟨f, hd⟩ : ∃ d, fs[m]? = some d := ⟨_, List.getElem?_eq_getElem hlm⟩
      obtain ⟨gb2, o2, rfl, hok2, q0, q1, q2, q3⟩ := fld_at (HUF.out.below hbr) hd
      have hlm' : (m : Int) < (fs.length : Int) := by omega
      have hm0 : (0 : Int) ≤ (m : Int) := by omega
      have HA := Lib.hid (any_snoc (keyB n nm) hd)
      have HK := Lib.hid (HKB.out f)
      have HMEM : Hid (keyB n nm f = true → fs.any (keyB n nm) = true) := fun h => List.any_eq_true.2 ⟨f, List.mem_of_getElem? hd, h⟩
      have hbb : (f.name.toList == nm.toList) = decide (f.name = nm) := bytes_beq f.name nm
      have y2 := cell_below hb0r Y2.out
      clear hd hok2 q2
      generalize keyB n nm f = kb at *
      by_cases h1 : f.name = nm
      case neg =>
        have h1l : ¬ f.name.toList = nm.toList := by rw [bytes_eq]; exact h1
        rw [decide_eq_false h1] at hbb
        have HE : Hid ((fs.take (m + 1)).any (keyB n nm) = false) := by unfold Hid; rw [HA.out, HAN.out, HK.out, decide_eq_false h1]; rfl
        clear HA HK HMEM
        go_wp2_with fail
        go_quiet (fail)
        go_wp2_with fail
        go_roundw
        case rel => exact ⟨m + 1, by omega, by go_num, below_drewN hbr _, HE⟩
        case measure => simp [intOf]; omega
      have h1l : f.name.toList = nm.toList := by rw [h1]
      rw [decide_eq_true h1] at hbb
      cases hk : f.key with
      | false =>
        rw [hk] at q3
        have HE : Hid ((fs.take (m + 1)).any (keyB n nm) = false) := by unfold Hid; rw [HA.out, HAN.out, HK.out, decide_eq_true h1, hk]; rfl
        clear HA HK HMEM hk
        go_wp2_with fail
        go_quiet (fail)
        go_wp2_with fail
        go_roundw
        case rel => exact ⟨m + 1, by omega, by go_num, below_drewN hbr _, HE⟩
        case measure => simp [intOf]; omega
      | true =>
        rw [hk] at q3
        rcases hac with hn | ⟨i, p, hazi, hp⟩
        · have hn1 : decide (0 ≤ az) = false := decide_eq_false (by omega)
          have HE : Hid ((fs.take (m + 1)).any (keyB n nm) = false) := by unfold Hid; rw [HA.out, HAN.out, HK.out, decide_eq_true h1, hk, hn1]; rfl
          clear HA HK HMEM hk
          go_wp2_with fail
          go_quiet (fail)
          go_wp2_with fail
          go_roundw
          case rel => exact ⟨m + 1, by omega, by go_num, below_drewN hbr _, HE⟩
          case measure => simp [intOf]; omega
        · have hn1 : decide (0 ≤ az) = true := decide_eq_true (by omega)
          have hil := (List.getElem?_eq_some_iff.1 hp).1
          have hil' : az < (n.props.length : Int) := by omega
          have haz0 : 0 ≤ az := by omega
          obtain ⟨gb3, o3, rfl, _, r0, r1, r2, r3⟩ := prp_at (HU.out.below hb0r) hp
          have hcc : (p.v.ty == f.ty) = decide (p.v.ty = f.ty) := rfl
          subst hazi
          have hkbe : kb = decide (p.v.ty = f.ty) := by rw [HK.out, decide_eq_true h1, hk, hn1, Int.toNat_natCast, hp]; simp
          have HKE := Lib.hid hkbe
          by_cases h2 : p.v.ty = f.ty
          · rw [decide_eq_true h2] at hcc
            have HE : Hid (RK = some p.v) := by unfold Hid; rw [HRK.out, if_pos (HMEM.out (by rw [HKE.out, decide_eq_true h2])), Int.toNat_natCast, hp]; rfl
            have HQ1 := Lib.hid r1
            have HQ2 := Lib.hid r2
            have HQ3 := Lib.hid r3
            clear HA HK HMEM hk hp hkbe HKE HRK h2
            go_wp2_with fail
            go_quiet (fail)
            have hbq := below_drewN (Below.refl wr.heap.size wr) nq
            have hb0q := below_drewN hb0r nq
            have r1 := cell_below hbq HQ1.out
            have r2 := cell_below hbq HQ2.out
            have r3 := cell_below hbq HQ3.out
            have y22 := cell_below hbq y2
            clear y2
            generalize wr.drewN nq = w5 at *
            -- w5: the world; hb0q: it is above w; .int .i64 p.v.ty, .int .i64 p.v.n, .string p.v.s: the value's cells; $6: the flag; $7: what closes
            have hqk := ((hb0q).block _ (Array.getElem?_eq_some_iff.1 HGQ.out).1).trans HGQ.out
            obtain ⟨k1, k2, k3, k4⟩ := res3b (.int .i64 p.v.ty) (.int .i64 p.v.n) (.string p.v.s) (hb0.trans ((hb0q).mono hw0)) HSQ.out hqk
            have y0 := block_cell hqk 0
            have y1 := block_cell hqk 1
            have y2 := block_cell hqk 2
            have g0 := block_free hqk 0
            have g1 := block_free hqk 1
            have g2 := block_free hqk 2
            clear hqk
            go_wp2_with fail
            exact bodyPost_ret (v := .tuple #[.agg #[.int .i64 p.v.ty, .int .i64 p.v.n, .string p.v.s], .bool true]) (by simp [results, Tryz.results19, go_sem, k2, k3, k4]) rfl ⟨by rw [HE.out]; rfl, k1⟩
          · rw [decide_eq_false h2] at hcc
            have HE : Hid ((fs.take (m + 1)).any (keyB n nm) = false) := by unfold Hid; rw [HA.out, HAN.out, HKE.out, decide_eq_false h2]; rfl
            clear HA HK HMEM hk hp hkbe HKE
            go_wp2_with fail
            go_quiet (fail)
            go_wp2_with fail
            go_roundw
            case rel => exact ⟨m + 1, by omega, by go_num, below_drewN hbr _, HE⟩
            case measure => simp [intOf]; omega
    · obtain rfl : m = fs.length := by omega
      have HE : Hid (RK = none) := by
        have h := HAN.out
        rw [List.take_length] at h
        unfold Hid
        rw [HRK.out, h]; rfl
      clear HRK HAN
      -- wr: the world; hb0r: it is above w; .int .i64 0, .int .i64 0, .string ⟨#[]⟩: the value's cells; $6: the flag; $7: what closes
      have hqk := ((hb0r).block _ (Array.getElem?_eq_some_iff.1 HGQ.out).1).trans HGQ.out
      obtain ⟨k1, k2, k3, k4⟩ := res3b (.int .i64 0) (.int .i64 0) (.string ⟨#[]⟩) (hb0.trans ((hb0r).mono hw0)) HSQ.out hqk
      have y0 := block_cell hqk 0
      have y1 := block_cell hqk 1
      have y2 := block_cell hqk 2
      have g0 := block_free hqk 0
      have g1 := block_free hqk 1
      have g2 := block_free hqk 2
      clear hqk
      go_wp2_with fail
      exact bodyPost_ret (v := .tuple #[.agg #[.int .i64 0, .int .i64 0, .string ⟨#[]⟩], .bool false]) (by simp [results, Tryz.results19, go_sem, k2, k3, k4]) rfl ⟨by rw [HE.out]; rfl, k1⟩
end Go.Proofs.YtpfpgmfdcafpnaaGreatDoor
