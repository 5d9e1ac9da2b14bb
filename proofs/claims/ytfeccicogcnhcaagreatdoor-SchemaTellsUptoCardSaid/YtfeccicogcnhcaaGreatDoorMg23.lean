/- Parts: SfA, SamS, As, Told. -/
import Derived.Test.YtfeccicogcnhcaaGreatDoorMg22
import Derived.Test.YtfeccicogcnhcaaGreatDoorMg15
import Derived.Test.YtfeccicogcnhcaaGreatDoorMg07
import Derived.Test.YtfeccicogcnhcaaGreatDoorMg09
import Derived.Deep.DeepCutAuto
import Derived.Deep.Light
import Derived.Test.YtfeccicogcnhcaaGreatDoorMg04
import Derived.Test.YtfeccicogcnhcaaGreatDoorMg01
import Derived.Test.YtfeccicogcnhcaaGreatDoorRows
import Derived.WalkKit
import Derived.LaidEql
import Derived.Stop.Asserts
import Derived.RowKitTokens
/- Contract: schema.From: which bonds go out of a kind. Condition: the name is not too long. -/
namespace Go.Proofs.YtfeccicogcnhcaaGreatDoor
open Go Go.RowKit


/-- The fault of the asking; the bonds' names. -/
def sfE (s : Scm) (name : ByteArray) : Int := if (scmE s).2 = 0 then (if kFind s.kinds name < 0 then 5 else 0) else (scmE s).2
def sfL (s : Scm) (name : ByteArray) : List ByteArray := (s.bonds.filter fun b => isKinB s.kinds name b.src).map (·.name)
def sfV (s : Scm) (name : ByteArray) : List ByteArray := if sfE s name = 0 then sfL s name else []
theorem sfL_step {s : Scm} {name : ByteArray} {k : Nat} {d : Bnd} (hd : s.bonds[k]? = some d) : sfL ⟨s.kinds, s.bonds.take (k + 1)⟩ name = sfL ⟨s.kinds, s.bonds.take k⟩ name ++ (if isKinB s.kinds name d.src = true then [d.name] else []) := by
  unfold sfL
  rw [List.take_add_one, hd, List.filter_append, List.map_append]
  congr 1
  by_cases h : isKinB s.kinds name d.src = true
  · rw [if_pos h]; simp [h]
  · rw [if_neg h]; simp [h]
theorem sfL_whole (s : Scm) (name : ByteArray) : sfL ⟨s.kinds, s.bonds.take s.bonds.length⟩ name = sfL s name := by rw [List.take_length]
set_option maxRecDepth 100000 in
set_option maxHeartbeats 8000000 in
theorem sfrom_any (s : Scm) (name : ByteArray) (vk vb : Value) (w : World) (hS : ScmR w vk vb s) (hn : Sm name) :
    Calls Tryz.prog 16 #[.agg #[vk, vb], .string name] w fun e w' => ∃ v, e = .returned (.tuple #[v, errV (sfE s name)]) ∧ Sl strL w' v (sfV s name) ∧ Below w.heap.size w w' := by
  obtain ⟨i0, ei, ez, ez1, ez2⟩ := info_parts str_info
  obtain ⟨A1, c1, rfl, _, _⟩ := hS.1.form
  obtain ⟨A2, c2, rfl, _, hm2⟩ := hS.2.form
  have hb0 : Below w.heap.size w (w.alloc (.cells #[.slice A1 s.kinds.length c1, .slice A2 s.bonds.length c2] 25)) := (Below.refl _ _).alloc (Nat.le_refl _) _
  obtain ⟨x0, x1⟩ := cell_box2 w (.slice A1 s.kinds.length c1) (.slice A2 s.bonds.length c2) 25
  have HS := Lib.hid (hS.below hb0)
  have HE : Hid (sfE s name = if (scmE s).2 = 0 then (if kFind s.kinds name < 0 then 5 else 0) else (scmE s).2) := rfl
  have HV : Hid (sfV s name = if sfE s name = 0 then sfL s name else []) := rfl
  have HO0 := Lib.hid (fun (h : (scmE s).2 = 0) => scmE_zero h)
  unfold maxLen at hm2
  clear hS
  go_enter Tryz.func16, Tryz.ntmps16
  go_upto_region 1 with fail
  generalize w.alloc (.cells #[.slice A1 s.kinds.length c1, .slice A2 s.bonds.length c2] 25) = W0 at *
  have X := Lib.hid (And.intro x0 x1)
  have hx := sright_any s _ _ W0 HS.out
  generalize (scmE s).2 = ee at *
  go_wp2_with fail
  refine hx.mono ?_
  clear hx x0 x1
  rintro e w1 ⟨rfl, hb1⟩
  have hB1 := hb0.trans (hb1.mono hb0.size)
  by_cases hz : ee = 0
  case neg =>
    have H1 : Hid (sfE s name = ee) := by unfold Hid; rw [HE.out, if_neg hz]
    have H2 : Hid (sfV s name = []) := by unfold Hid; rw [HV.out, H1.out, if_neg hz]
    have HER := Lib.hid (errV_some hz)
    rw [errV_some hz]
    clear hz HE HV HO0
    go_wp2_with fail
    exact bodyPost_ret (v := .tuple #[.slice none 0 0, .iface 54 (.int .i64 ee)]) (by simp [results, Tryz.results16, go_sem]) rfl ⟨_, by rw [H1.out, HER.out], by rw [H2.out]; exact Sl.nil 0 (Nat.zero_le _) none, hB1⟩
  rw [errV_zero hz]
  subst hz
  have HO := Lib.hid (HO0.out rfl)
  clear HO0
  have hk12 := HO.out.r.len
  have hb12 := HO.out.bl
  have x0 := cell_below hb1 X.out.1
  have hx := kFind_any s.kinds name (.slice A1 s.kinds.length c1) w1 (HS.out.below hb1).1
  generalize kFind s.kinds name = F at *
  go_wp2_with fail
  refine hx.mono ?_
  clear hx x0
  rintro e w2 ⟨rfl, hb2⟩
  have hb02 := hb1.trans (hb2.mono hb1.size)
  have hB2 := hB1.trans (hb2.mono hB1.size)
  by_cases hf : F < 0
  · have H1 : Hid (sfE s name = 5) := by unfold Hid; rw [HE.out]; simp [hf]
    have H2 : Hid (sfV s name = []) := by unfold Hid; rw [HV.out, H1.out]; rfl
    have hfd : decide (F < 0) = true := decide_eq_true hf
    clear HE HV
    go_wp2_with fail
    exact bodyPost_ret (v := .tuple #[.slice none 0 0, .iface 54 (.int .i64 5)]) (by simp [results, Tryz.results16, go_sem]) rfl ⟨_, by rw [H1.out]; rfl, by rw [H2.out]; exact Sl.nil 0 (Nat.zero_le _) none, hB2⟩
  · have H1 : Hid (sfE s name = 0) := by unfold Hid; rw [HE.out]; simp [hf]
    have H2 : Hid (sfV s name = sfL s name) := by unfold Hid; rw [HV.out, H1.out, if_pos rfl]
    have hfd : decide (F < 0) = false := decide_eq_false hf
    have x1 := cell_below hb02 X.out.2
    have HB2 := Lib.hid hB2
    have HB02 := Lib.hid hb02
    clear HE HV hf hb1 hb2 hb02 hB1
    go_wp2_with fail
    go_loopw [7, 24] (fun x7 x24 wr => ∃ (k : Nat) (l : List ByteArray), k ≤ s.bonds.length ∧ x24 = .int .i64 k ∧ l.length ≤ k ∧ Hid (l = sfL ⟨s.kinds, s.bonds.take k⟩ name) ∧ Hid (∀ x ∈ l, Sm x) ∧ Hid (Own wr w2.heap.size 9 1 x7 l.length (l.map Value.string)) ∧ Below w2.heap.size w2 wr) (fun _ x24 _ => s.bonds.length - (intOf x24).toNat)
    case atStart => exact ⟨0, [], Nat.zero_le _, rfl, Nat.le_refl _, rfl, fun _ h => (by cases h), Own.nil _ _ _ _, Below.refl _ _⟩
    case round =>
      obtain ⟨k, l, hk, rfl, hlk, HL, HLS, HOW, hbr⟩ := hrel
      obtain ⟨wo, hwo⟩ : ∃ x : World, x = wr := ⟨_, rfl⟩
      subst hwo
      obtain ⟨Al, cl, hvl, _, _⟩ := HOW.out.form
      subst hvl
      have hbb := HB02.out.trans (hbr.mono HB02.out.size)
      have hBB := HB2.out.trans (hbr.mono HB2.out.size)
      by_cases hlt : k < s.bonds.length
      · obtain ⟨d, hd⟩ : ∃ d, s.bonds[k]? = some d := ⟨_, List.getElem?_eq_getElem hlt⟩
        have hlt' : (k : Int) < (s.bonds.length : Int) := Int.ofNat_lt.2 hlt
        obtain ⟨gb, o, rfl, hdo, q0, q1, q2, q3, q4⟩ := bnd_at (HS.out.below hbb).2 hd
        have HST := Lib.hid (sfL_step (name := name) hd)
        have hag : Below wo.heap.size wo (wo.alloc (.cells #[.string d.name, .string d.src, .string d.dst, .int .i64 d.mn, .int .i64 d.mx] 40)) := (Below.refl _ _).alloc (Nat.le_refl _) _
        have HBK := Lib.hid (heap_alloc_new wo (.cells #[.string d.name, .string d.src, .string d.dst, .int .i64 d.mn, .int .i64 d.mx] 40))
        have hbg := hbr.trans (hag.mono hbr.size)
        have hbbg := hbb.trans (hag.mono hbb.size)
        have HOW := Lib.hid (HOW.out.below hag)
        have hBg := hBB.trans (hag.mono hBB.size)
        have HDN := Lib.hid hdo.1
        clear hd hag hbr hbb hBB hdo
        go_upto_region 10 with fail
        generalize wo.alloc (.cells #[.string d.name, .string d.src, .string d.dst, .int .i64 d.mn, .int .i64 d.mx] 40) = wp at *
        generalize wo.heap.size = q at *
        have x0 := cell_below hbbg X.out.1
        have z1 := block_cell HBK.out 1
        have hx := isKin_any s.kinds name d.src (.slice A1 s.kinds.length c1) wp (HS.out.below hbbg).1 hn (by go_light; omega) (fun y hy => by
          obtain ⟨i, hi⟩ := List.getElem?_of_mem hy
          have := (HO.out.r.one i y hi).ofl
          go_light; omega)
        generalize isKinB s.kinds name d.src = isk at *
        clear q0 q1 q2 q3 q4
        go_wp2_with fail
        refine hx.mono ?_
        clear hx x0 z1
        rintro e wq ⟨rfl, hbq⟩
        have HBK := Lib.hid ((hbq.block _ (Array.getElem?_eq_some_iff.1 HBK.out).1).trans HBK.out)
        have HOW := Lib.hid (HOW.out.below hbq)
        have hbr := hbg.trans (hbq.mono hbg.size)
        have hBq := hBg.trans (hbq.mono hBg.size)
        clear hbg hbbg hbq hBg
        cases isk with
        | false =>
          have HL2 : Hid (l = sfL ⟨s.kinds, s.bonds.take (k + 1)⟩ name) := by unfold Hid; rw [HST.out, ← HL.out]; simp
          clear HST HL
          go_wp2_with fail
          go_roundw
          case rel => exact ⟨k + 1, l, by go_light; omega, by go_num, by go_light; omega, HL2, HLS, HOW, hbr⟩
          case measure => go_light; simp [intOf]; omega
        | true =>
          have HL2 : Hid (l ++ [d.name] = sfL ⟨s.kinds, s.bonds.take (k + 1)⟩ name) := by unfold Hid; rw [HST.out, ← HL.out]; simp
          have HLS2 : Hid (∀ x ∈ l ++ [d.name], Sm x) := fun x hx => by
            rcases List.mem_append.1 hx with h | h
            · exact HLS.out x h
            · rw [List.mem_singleton.1 h]; exact HDN.out
          have z0 := block_cell HBK.out 0
          have haq : Below wq.heap.size wq (wq.alloc (.cells #[.string d.name] 9)) := (Below.refl _ _).alloc (Nat.le_refl _) _
          have HOA := Lib.hid (HOW.out.below haq)
          have HNW : Hid (∀ j u', ([.string d.name] : List Value)[j]? = some u' → (wq.alloc (.cells #[.string d.name] 9)).cell? ⟨wq.heap.size, j, none⟩ = some u') := fun j u' hj => by
            rw [World.cell?_alloc_at _ _ _ _ rfl]; simpa using hj
          have hba := hbr.trans (haq.mono hbr.size)
          have HSZ := Lib.hid hba.size
          clear HST HL haq
          go_wp2_with (first
            | (at_builtin
               refine wpList_append_q _ rfl (.tmp 34) (.tmp 37) _ rfl w2.heap.size 9 i0 (.string .empty) 1 16 Tryz.underlying45 ei ez ez1 ez2 rfl (by decide) (.slice Al l.length cl) l.length (l.map Value.string) rfl HOA.out (some ⟨wq.heap.size, 0, none⟩) 1 1 [.string d.name] rfl rfl (fun _ => ⟨_, rfl, fun j u' hj => by rw [addr_add, Nat.zero_add]; exact HNW.out j u' hj⟩) (fun u' hu => by simp at hu; subst hu; rfl) (by go_light; unfold maxLen; omega) (by go_light; omega) HSZ.out ?_
               intro v7 w7 hown7 hg7 hat7
               have HO7 : Hid (Own w7 w2.heap.size 9 1 v7 (l ++ [d.name]).length ((l ++ [d.name]).map Value.string)) := by
                 rw [List.map_append, List.length_append]; exact hown7
               have HB7 := Lib.hid (hba.grown hg7 hba.size (fun kk e => (HOA.out.lt kk e).1))
               clear hown7 hg7 hat7))
          go_roundw
          case rel => exact ⟨k + 1, l ++ [d.name], by go_light; omega, by go_num, by rw [List.length_append]; exact Nat.add_le_add_right hlk 1, HL2, HLS2, HO7, HB7.out⟩
          case measure => go_light; simp [intOf]; omega
      · obtain rfl : k = s.bonds.length := by go_light; omega
        have HF : Hid (sfV s name = l) := by unfold Hid; rw [H2.out, HL.out, sfL_whole]
        go_wp2_with fail
        exact bodyPost_ret (v := .tuple #[.slice Al l.length cl, .nilIface]) (by simp [results, Tryz.results16, go_sem]) rfl ⟨_, by rw [H1.out]; rfl, by rw [HF.out]; exact Own.strs HLS.out HOW.out, hBB⟩

theorem bnd_guard (op : BinOp) (a b : Operand) (xs ys : Array Value) (w : World) : (eqGuard op 40 a b (.agg xs) (.agg ys)).run Tryz.prog w = .ok () w := run_eqGuard_agg w op 40 a b xs ys (by kernel_rfl)
theorem bnd_same (d : Nat) (x y : Bnd) (w : World) : (Op.equalIn (d + 2) 40 (.agg #[.string x.name, .string x.src, .string x.dst, .int .i64 x.mn, .int .i64 x.mx]) (.agg #[.string y.name, .string y.src, .string y.dst, .int .i64 y.mn, .int .i64 y.mx])).run Tryz.prog w = .ok (decide (x = y)) w := by
  have hS : Tryz.prog.underlying 40 = some (.struct (Tryz.prog.fieldsOf 40)) := by kernel_rfl
  have hp : Tryz.prog.stoodInHeld 40 = false := by kernel_rfl
  have e1 := Tryz.underlying9
  have e2 := Tryz.underlying3
  rw [run_equalIn_agg w (d + 1) 40 _ _ hS hp]
  simp only [Program.fieldsOf, Tryz.underlying40]
  go_simp
  simp only [bytes_eq]
  cases x; cases y
  simp only [Bnd.mk.injEq]
  rename_i a b c d e a' b' c' d' e'
  by_cases h1 : a = a' <;> by_cases h2 : b = b' <;> by_cases h3 : c = c' <;> by_cases h4 : d = d' <;> by_cases h5 : e = e' <;> simp [h1, h2, h3, h4, h5]
theorem bnd_neq (x y : Bnd) (w : World) : (binOp .neq 40 (.agg #[.string x.name, .string x.src, .string x.dst, .int .i64 x.mn, .int .i64 x.mx]) (.agg #[.string y.name, .string y.src, .string y.dst, .int .i64 y.mn, .int .i64 y.mx])).run Tryz.prog w = .ok (.bool (!decide (x = y))) w := by
  rw [run_neq_struct, show (10000 : Nat) = 9998 + 2 from rfl, bnd_same]; rfl
set_option maxRecDepth 100000 in
set_option maxHeartbeats 8000000 in
theorem sschema_any (s : Scm) (k1 b1 k2 b2 : Value) (w : World) (h1 : ScmR w k1 b1 s) (h2 : ScmR w k2 b2 s) :
    Calls Tryz.prog 11 #[.agg #[k1, b1], .agg #[k2, b2]] w fun e w' => e = .returned (.bool true) ∧ Below w.heap.size w w' := by
  obtain ⟨A1, c1, rfl, hk1, hm1⟩ := h1.1.form
  obtain ⟨A2, c2, rfl, hk2, hm2⟩ := h1.2.form
  obtain ⟨A3, c3, rfl, _, _⟩ := h2.1.form
  obtain ⟨A4, c4, rfl, _, _⟩ := h2.2.form
  unfold maxLen at hm1 hm2
  obtain ⟨W0, hW0⟩ : ∃ W0, W0 = (w.alloc (.cells #[.slice A1 s.kinds.length c1, .slice A2 s.bonds.length c2] 25)).alloc (.cells #[.slice A3 s.kinds.length c3, .slice A4 s.bonds.length c4] 25) := ⟨_, rfl⟩
  have hb0 : Below w.heap.size w W0 := by rw [hW0]; exact ((Below.refl _ _).alloc (Nat.le_refl _) _).alloc (by simp) _
  have g0 : W0.heap[w.heap.size]? = some (.cells #[.slice A1 s.kinds.length c1, .slice A2 s.bonds.length c2] 25 (0, 0)) := by
    rw [hW0, Below.heap_alloc _ _ _ (by simp)]; exact heap_alloc_new _ _
  have g1 : W0.heap[w.heap.size + 1]? = some (.cells #[.slice A3 s.kinds.length c3, .slice A4 s.bonds.length c4] 25 (0, 0)) := by
    have := heap_alloc_new (w.alloc (.cells #[.slice A1 s.kinds.length c1, .slice A2 s.bonds.length c2] 25)) (.cells #[.slice A3 s.kinds.length c3, .slice A4 s.bonds.length c4] 25); rw [hW0]; simpa using this
  have hW0' := hW0.symm
  have x0 := block_cell g0 0
  have x1 := block_cell g0 1
  have y0 := block_cell g1 0
  have y1 := block_cell g1 1
  have H1 := Lib.hid (h1.below hb0)
  have H2 := Lib.hid (h2.below hb0)
  have hw0 := hb0.size
  have HX1 := Lib.hid x1
  have HY1 := Lib.hid y1
  clear h1 h2 hW0 g0 g1
  go_enter Tryz.func11, Tryz.ntmps11
  go_wp2_with fail
  clear hW0'
  go_loopw [5] (fun i wr => ∃ k : Nat, k ≤ s.kinds.length ∧ i = .int .i64 k ∧ Below W0.heap.size W0 wr) (fun i _ => s.kinds.length - (intOf i).toNat)
  case atStart => exact ⟨0, Nat.zero_le _, rfl, Below.refl _ _⟩
  case round =>
    obtain ⟨k, hk, rfl, hbr⟩ := hrel
    have x0 := cell_below hbr x0
    have x1 := cell_below hbr x1
    have y0 := cell_below hbr y0
    have y1 := cell_below hbr y1
    have hBr := hb0.trans (hbr.mono hw0)
    by_cases hlt : k < s.kinds.length
    · obtain ⟨d, hd⟩ : ∃ d, s.kinds[k]? = some d := ⟨_, List.getElem?_eq_getElem hlt⟩
      have hlt' : (k : Int) < (s.kinds.length : Int) := by omega
      obtain ⟨p1, o1, rfl, u1, v1, hn1, ho1, hf1, z0, z1, z2⟩ := knd_at (H1.out.below hbr).1 hd
      obtain ⟨p2, o2, rfl, u2, v2, hn2, ho2, hf2, q0, q1, q2⟩ := knd_at (H2.out.below hbr).1 hd
      obtain ⟨E1, e1, rfl, _, _⟩ := ho1.form
      obtain ⟨E2, e2, rfl, _, _⟩ := hf1.form
      obtain ⟨E3, e3, rfl, _, _⟩ := ho2.form
      obtain ⟨E4, e4, rfl, _, _⟩ := hf2.form
      have ha1 : Below wr.heap.size wr (wr.alloc (.cells #[.string d.name, .slice E1 d.ofs.length e1, .slice E2 d.fields.length e2] 59)) := (Below.refl _ _).alloc (Nat.le_refl _) _
      obtain ⟨t0, t1, t2⟩ := cell_box3 wr (.string d.name) (.slice E1 d.ofs.length e1) (.slice E2 d.fields.length e2) 59
      have y0' := cell_below ha1 y0
      have q0' := cell_below ha1 q0
      have q1' := cell_below ha1 q1
      have q2' := cell_below ha1 q2
      have hsz1 : (wr.alloc (.cells #[.string d.name, .slice E1 d.ofs.length e1, .slice E2 d.fields.length e2] 59)).heap.size = wr.heap.size + 1 := by simp
      have hO1 := Lib.hid (ho1.below ha1)
      have hF1 := Lib.hid (hf1.below ha1)
      have hO2 := Lib.hid (ho2.below ha1)
      have hF2 := Lib.hid (hf2.below ha1)
      clear hd ho1 hf1 ho2 hf2 hn1 hn2
      go_upto_region 7 with fail
      generalize wr.alloc (.cells #[.string d.name, .slice E1 d.ofs.length e1, .slice E2 d.fields.length e2] 59) = Wa at *
      have ha2 : Below Wa.heap.size Wa (Wa.alloc (.cells #[.string d.name, .slice E3 d.ofs.length e3, .slice E4 d.fields.length e4] 59)) := (Below.refl _ _).alloc (Nat.le_refl _) _
      obtain ⟨s0, s1, s2⟩ := cell_box3 Wa (.string d.name) (.slice E3 d.ofs.length e3) (.slice E4 d.fields.length e4) 59
      rw [hsz1] at s0 s1 s2
      have t0 := cell_below ha2 t0
      have t1 := cell_below ha2 t1
      have t2 := cell_below ha2 t2
      have hB2 := hbr.trans ((ha1.trans (ha2.mono ha1.size)).mono hbr.size)
      have HO1 := Lib.hid (hO1.out.below ha2)
      have HF1 := Lib.hid (hF1.out.below ha2)
      have HO2 := Lib.hid (hO2.out.below ha2)
      have HF2 := Lib.hid (hF2.out.below ha2)
      clear hO1 hF1 hO2 hF2
      go_upto_region 8 with fail
      generalize Wa.alloc (.cells #[.string d.name, .slice E3 d.ofs.length e3, .slice E4 d.fields.length e4] 59) = Wb at *
      have ht := texts_any d.ofs d.ofs _ _ Wb HO1.out HO2.out
      rw [decide_eq_true rfl] at ht
      clear x0 x1 y0 y1 y0' q0' q1' q2' z0 z1 z2 q0 q1 q2
      go_wp2_with fail
      refine ht.mono ?_
      clear ht
      rintro e w2 ⟨rfl, hb2⟩
      have t0 := cell_below hb2 t0
      have t2 := cell_below hb2 t2
      have s0 := cell_below hb2 s0
      have s2 := cell_below hb2 s2
      have hB3 := hB2.trans (hb2.mono hB2.size)
      have hf := sfields_any d.fields d.fields _ _ w2 (HF1.out.below hb2) (HF2.out.below hb2)
      rw [decide_eq_true rfl] at hf
      clear hb2 t1 s1
      go_wp2_with fail
      refine hf.mono ?_
      clear hf
      rintro e w3 ⟨rfl, hb3⟩
      have t0 := cell_below hb3 t0
      have s0 := cell_below hb3 s0
      have hB4 := hB3.trans (hb3.mono hB3.size)
      have hqb : (d.name.toList == d.name.toList) = true := by simp
      clear hb3 t2 s2
      go_wp2_with fail
      go_roundw
      case rel => exact ⟨k + 1, by omega, by go_num, hB4⟩
      case measure => simp [intOf]; omega
    · obtain rfl : k = s.kinds.length := by omega
      go_wp2_with fail
      go_loopw [10] (fun i wq => ∃ k : Nat, k ≤ s.bonds.length ∧ i = .int .i64 k ∧ Below W0.heap.size W0 wq) (fun i _ => s.bonds.length - (intOf i).toNat)
      case atStart => exact ⟨0, Nat.zero_le _, rfl, hbr⟩
      case round =>
        clear x0 x1 y0 y1 hBr hbr
        obtain ⟨k, hk, rfl, hbr⟩ := hrel
        have x1 := cell_below hbr HX1.out
        have y1 := cell_below hbr HY1.out
        have hBr := hb0.trans (hbr.mono hw0)
        by_cases hlt : k < s.bonds.length
        · obtain ⟨d, hd⟩ : ∃ d, s.bonds[k]? = some d := ⟨_, List.getElem?_eq_getElem hlt⟩
          have hlt' : (k : Int) < (s.bonds.length : Int) := by omega
          obtain ⟨p1, o1, rfl, _, z0, z1, z2, z3, z4⟩ := bnd_at (H1.out.below hbr).2 hd
          obtain ⟨p2, o2, rfl, _, q0, q1, q2, q3, q4⟩ := bnd_at (H2.out.below hbr).2 hd
          have hneq := bnd_neq d d
          rw [decide_eq_true rfl] at hneq
          have hgd := bnd_guard
          clear hd
          go_wp2_with fail
          go_quiet (fail)
          go_wp2_with fail
          go_roundw
          case rel => exact ⟨k + 1, by omega, by go_num, Go.below_drewN hbr _⟩
          case measure => simp [intOf]; omega
        · obtain rfl : k = s.bonds.length := by omega
          go_wp2_with fail
          go_ret
          exact ⟨rfl, hBr⟩
open Go.RowKit Go.Extern.Stop Go.Stop Go.Extern

/-! ### CLOSED FACTS ON THE MODEL's ENTRIES FOR internal/reflectlite, at this program's types: 25: *p.E · 27: **p.E · 23: error · 45: reflectlite's rtype · 1: how many package-level variables the dump has -/
theorem as_valueOfP (t : Addr) (w : World) : (ReflectliteValue.unpack (.iface 96 (.pointer (some t)))).run Tryz.prog w
    = .ok (.agg #[.pointer (some ⟨10, 96, none⟩), .pointer (some ⟨w.heap.size, 0, none⟩), .int .u64 150]) (w.alloc (.cells #[.pointer (some t)] 96)) := by kernel_rfl
theorem as_typeP (a : Addr) (w : World) : (ReflectliteValue.methodAny (ReflectliteValue.valueError "reflectlite.Value.Type" 0) (fun t _ _ _ => ReflectliteType.toType t) #[.agg #[.pointer (some ⟨10, 96, none⟩), .pointer (some a), .int .u64 150]]).run Tryz.prog w
    = .ok (.iface 147 (.agg #[.pointer (some ⟨10, 96, none⟩)])) w := by kernel_rfl
theorem as_methodKind (h : Value) (w : World) : (Go.method 338 147 (.agg #[h]) "Kind").run Tryz.prog w = .ok (162, h) w := by kernel_rfl
theorem as_kindP (w : World) : ((ReflectliteType.abiMethod fun t => (fun a : Nat => Value.int IntKind.u8 (a : Int)) <$> Rtype.kind t) #[.pointer (some ⟨10, 96, none⟩)]).run Tryz.prog w = .ok (.int .u8 22) w := by kernel_rfl
theorem as_kindE (w : World) : ((ReflectliteType.abiMethod fun t => (fun a : Nat => Value.int IntKind.u8 (a : Int)) <$> Rtype.kind t) #[.pointer (some ⟨10, 54, none⟩)]).run Tryz.prog w = .ok (.int .u8 2) w := by kernel_rfl

/-! ### THE ENTRIES THAT READ OR WRITE MEMORY: laws with a premise on the cell (after Derived/Lib/ReflectliteSlice.lean's manner: each unfolding a lemma of its own, by rfl) -/
theorem rlm (z : Sem Value) (f : TypeId → Addr → Nat → Nat → Sem Value) (v : Value) :
    ReflectliteValue.method z f #[v] = (do match ← ReflectliteValue.parts v with | none => z | some (t, a, fl) => f t a fl (fl % 32)) := rfl
theorem as_partsP (a : Addr) (w : World) : (ReflectliteValue.parts (.agg #[.pointer (some ⟨10, 96, none⟩), .pointer (some a), .int .u64 150])).run Tryz.prog w = .ok (some (96, a, 150)) w := by kernel_rfl
/-- (Value).IsNil at the Value of a **p.E that is not nil. -/
theorem as_isNilP (a p : Addr) (W : World) (ha : W.cell? a = some (.pointer (some p))) :
    (ReflectliteValue.method (ReflectliteValue.valueError "reflectlite.Value.IsNil" 0) ReflectliteValue.isNil #[.agg #[.pointer (some ⟨10, 96, none⟩), .pointer (some a), .int .u64 150]]).run Tryz.prog W = .ok (.bool false) W := by
  rw [rlm]
  simp only [Sem.run_bind, as_partsP, Result.andThen]
  simp [ReflectliteValue.isNil, loadVar, isAgg, underlying, Tryz.underlying96, ha, Result.andThen]

theorem as_methodElem (h : Value) (w : World) : (Go.method 338 147 (.agg #[h]) "Elem").run Tryz.prog w = .ok (173, .agg #[h]) w := by kernel_rfl
theorem as_methodImplements (h : Value) (w : World) : (Go.method 338 147 (.agg #[h]) "Implements").run Tryz.prog w = .ok (174, .agg #[h]) w := by kernel_rfl
theorem as_methodAssignableTo (h : Value) (w : World) : (Go.method 338 147 (.agg #[h]) "AssignableTo").run Tryz.prog w = .ok (171, .agg #[h]) w := by kernel_rfl
theorem as_elemP (w : World) : (ReflectliteType.method ReflectliteType.elem #[.agg #[.pointer (some ⟨10, 96, none⟩)]]).run Tryz.prog w = .ok (.iface 147 (.agg #[.pointer (some ⟨10, 54, none⟩)])) w := by kernel_rfl
theorem as_implementsE (w : World) : (ReflectliteType.relation "Implements" ReflectliteType.implements_ #[.agg #[.pointer (some ⟨10, 54, none⟩)], .iface 147 (.agg #[.pointer (some ⟨10, 29, none⟩)])]).run Tryz.prog w = .ok (.bool true) w := by kernel_rfl
theorem as_typeOfE (v : Value) (w : World) : (ReflectliteType.typeOf #[.iface 54 v]).run Tryz.prog w = .ok (.iface 147 (.agg #[.pointer (some ⟨10, 54, none⟩)])) w := by kernel_rfl
theorem as_assignableE (w : World) : (ReflectliteType.relation "AssignableTo" ReflectliteType.assignableTo #[.agg #[.pointer (some ⟨10, 54, none⟩)], .iface 147 (.agg #[.pointer (some ⟨10, 54, none⟩)])]).run Tryz.prog w = .ok (.bool true) w := by kernel_rfl
theorem as_valueOfE (e : Int) (w : World) : (ReflectliteValue.unpack (.iface 54 (.int .i64 e))).run Tryz.prog w
    = .ok (.agg #[.pointer (some ⟨10, 54, none⟩), .pointer (some ⟨w.heap.size, 0, none⟩), .int .u64 130]) (w.alloc (.cells #[.int .i64 e] 54)) := by kernel_rfl

theorem as_elemOfP (w : World) : (Rtype.elem? 96).run Tryz.prog w = .ok (some 54) w := by kernel_rfl
theorem as_mkE (p : Addr) (w : World) : (ReflectliteValue.mk 54 p ReflectliteValue.flagAddr).run Tryz.prog w = .ok (.agg #[.pointer (some ⟨10, 54, none⟩), .pointer (some p), .int .u64 386]) w := by kernel_rfl
/-- (Value).Elem at the Value of a **p.E that is not nil: the Value of the *p.E variable that it points to, addressable. -/
theorem as_elemVP (a p : Addr) (W : World) (ha : W.cell? a = some (.pointer (some p))) :
    (ReflectliteValue.method (ReflectliteValue.valueError "reflectlite.Value.Elem" 0) ReflectliteValue.elem #[.agg #[.pointer (some ⟨10, 96, none⟩), .pointer (some a), .int .u64 150]]).run Tryz.prog W
      = .ok (.agg #[.pointer (some ⟨10, 54, none⟩), .pointer (some p), .int .u64 386]) W := by
  rw [rlm]
  simp only [Sem.run_bind, as_partsP, Result.andThen]
  simp [ReflectliteValue.elem, loadVar, isAgg, underlying, Tryz.underlying96, ha, Result.andThen, as_elemOfP, as_mkE]
theorem rls (v x : Value) : ReflectliteValue.set #[v, x] = (do
    let (some (dst, a, fl), some (src, b, _)) := (← ReflectliteValue.parts v, ← ReflectliteValue.parts x)
      | unsupported (.noEntry "extern/(internal/reflectlite.Value).Set.zeroValue")
    if fl / ReflectliteValue.flagAddr % 2 == 0 then unsupported (.noEntry "extern/(internal/reflectlite.Value).Set.unaddressable")
    let val ← loadVar src b
    if ← Rtype.directlyAssignable dst src then storeVar dst a val
    else if ← Rtype.implements dst src then
      if (← Rtype.kind src) == 20 then
        match val with
        | .nilIface => unsupported (.noEntry "extern/reflectlite: a nil value of one interface type handed on as a value of another")
        | _ => storeVar dst a val
      else storeVar dst a (.iface src val)
    else panicString ("reflectlite.Set: value of type " ++ (← Rtype.spelt src) ++ " is not assignable to type " ++ (← Rtype.spelt dst))
    pure (.tuple #[])) := rfl
theorem as_partsEa (a : Addr) (w : World) : (ReflectliteValue.parts (.agg #[.pointer (some ⟨10, 54, none⟩), .pointer (some a), .int .u64 386])).run Tryz.prog w = .ok (some (54, a, 386)) w := by kernel_rfl
theorem as_partsE (a : Addr) (w : World) : (ReflectliteValue.parts (.agg #[.pointer (some ⟨10, 54, none⟩), .pointer (some a), .int .u64 130])).run Tryz.prog w = .ok (some (54, a, 130)) w := by kernel_rfl
theorem as_directE (w : World) : (Rtype.directlyAssignable 54 54).run Tryz.prog w = .ok true w := by kernel_rfl
/-- (Value).Set: the *p.E variable at 'ta' gets what the Value's own variable 'b' holds. -/
theorem as_setE (ta b : Addr) (e : Int) (old : Value) (W : World) (hb : W.cell? b = some (.int .i64 e)) (ht : W.cell? ta = some old) (hf : W.frozen? ta = false) :
    (ReflectliteValue.set #[.agg #[.pointer (some ⟨10, 54, none⟩), .pointer (some ta), .int .u64 386], .agg #[.pointer (some ⟨10, 54, none⟩), .pointer (some b), .int .u64 130]]).run Tryz.prog W
      = .ok (.tuple #[]) (W.setCell ta (.int .i64 e)) := by
  rw [rls]
  simp only [Sem.run_bind, as_partsEa, as_partsE, Result.andThen]
  simp [ReflectliteValue.flagAddr, loadVar, isAgg, underlying, Tryz.underlying54, hb, Result.andThen, as_directE, storeVar, Value.cells, storeCells, Addr.add]
  rw [run_store Tryz.prog W ta _ _ (by rfl)]
  simp [ht, hf]

set_option maxRecDepth 100000 in
set_option maxHeartbeats 4000000 in
theorem as_hit (e : Int) (t : Addr) (old : Value) (w : World) (hg : w.cell? ⟨1, 0, none⟩ = some (.iface 147 (.agg #[.pointer (some ⟨10, 29, none⟩)]))) (ht0 : w.cell? t = some old) (hf0 : w.frozen? t = false) :
    Calls Tryz.prog 48 #[.iface 54 (.int .i64 e), .iface 96 (.pointer (some t))] w fun ev w' => ev = .returned (.bool true) ∧ w' = ((((w.alloc (.cells #[.pointer (some t)] 96)).alloc (.cells #[.pointer (some ⟨10, 96, none⟩), .pointer (some ⟨w.heap.size, 0, none⟩), .int .u64 150] 118)).alloc (.cells #[.pointer (some ⟨10, 96, none⟩), .pointer (some ⟨w.heap.size, 0, none⟩), .int .u64 150] 118)).alloc (.cells #[.int .i64 e] 54)).setCell t (.int .i64 e) := by
  have h6 := @run_callFunc_extern Tryz.prog 73 _ (fun args => ReflectliteValue.unpack (args.getD 0 (.tuple #[]))) Tryz.func73 (by kernel_rfl) (by kernel_rfl) (by kernel_rfl) (by kernel_rfl)
  have h7 := @run_callFunc_extern Tryz.prog 74 _ (ReflectliteValue.methodAny (ReflectliteValue.valueError "reflectlite.Value.Type" 0) (fun t _ _ _ => ReflectliteType.toType t)) Tryz.func74 (by kernel_rfl) (by kernel_rfl) (by kernel_rfl) (by kernel_rfl)
  have h8 := @run_callFunc_extern Tryz.prog 75 _ (ReflectliteValue.method (ReflectliteValue.valueError "reflectlite.Value.IsNil" 0) ReflectliteValue.isNil) Tryz.func75 (by kernel_rfl) (by kernel_rfl) (by kernel_rfl) (by kernel_rfl)
  have h27 := @run_callFunc_extern Tryz.prog 162 _ (ReflectliteType.abiMethod fun t => do pure (.int .u8 (← Rtype.kind t))) Tryz.func162 (by kernel_rfl) (by kernel_rfl) (by kernel_rfl) (by kernel_rfl)
  have h37 := @run_callFunc_extern Tryz.prog 173 _ (ReflectliteType.method ReflectliteType.elem) Tryz.func173 (by kernel_rfl) (by kernel_rfl) (by kernel_rfl) (by kernel_rfl)
  have h38 := @run_callFunc_extern Tryz.prog 174 _ (ReflectliteType.relation "Implements" ReflectliteType.implements_) Tryz.func174 (by kernel_rfl) (by kernel_rfl) (by kernel_rfl) (by kernel_rfl)
  have h10 := @run_callFunc_extern Tryz.prog 97 _ ReflectliteType.typeOf Tryz.func97 (by kernel_rfl) (by kernel_rfl) (by kernel_rfl) (by kernel_rfl)
  have h35 := @run_callFunc_extern Tryz.prog 171 _ (ReflectliteType.relation "AssignableTo" ReflectliteType.assignableTo) Tryz.func171 (by kernel_rfl) (by kernel_rfl) (by kernel_rfl) (by kernel_rfl)
  have h11 := @run_callFunc_extern Tryz.prog 98 _ (ReflectliteValue.method (ReflectliteValue.valueError "reflectlite.Value.Elem" 0) ReflectliteValue.elem) Tryz.func98 (by kernel_rfl) (by kernel_rfl) (by kernel_rfl) (by kernel_rfl)
  have h12 := @run_callFunc_extern Tryz.prog 99 _ ReflectliteValue.set Tryz.func99 (by kernel_rfl) (by kernel_rfl) (by kernel_rfl) (by kernel_rfl)
  have tO := as_typeOfE
  have mA := as_methodAssignableTo
  have a25 := as_assignableE
  have v25 := as_valueOfE
  have f6 := as_valueOfP
  have f7 := as_typeP
  have mK := as_methodKind
  have mE := as_methodElem
  have mI := as_methodImplements
  have k27 := as_kindP
  have k25 := as_kindE
  have e27 := as_elemP
  have i25 := as_implementsE
  have n8 := as_isNilP ⟨w.heap.size, 0, none⟩ t ((w.alloc (.cells #[.pointer (some t)] 96)).alloc (.cells #[.pointer (some ⟨10, 96, none⟩), .pointer (some ⟨w.heap.size, 0, none⟩), .int .u64 150] 118)) (by simp)
  have hlt : 1 < w.heap.size := World.block_lt_of_cell? _ _ hg
  have hg2 : ((w.alloc (.cells #[.pointer (some t)] 96)).alloc (.cells #[.pointer (some ⟨10, 96, none⟩), .pointer (some ⟨w.heap.size, 0, none⟩), .int .u64 150] 118)).cell? ⟨1, 0, none⟩ = some (.iface 147 (.agg #[.pointer (some ⟨10, 29, none⟩)])) := by
    rw [World.cell?_alloc_lt _ _ ⟨1, 0, none⟩ (by simp only [World.size_alloc]; omega), World.cell?_alloc_lt _ _ ⟨1, 0, none⟩ hlt]; exact hg
  have htl : t.block < w.heap.size := by
    rcases Nat.lt_or_ge t.block w.heap.size with h | h
    · exact h
    · simp [World.cell?, Array.getElem?_eq_none h] at ht0
  have el := as_elemVP ⟨w.heap.size, 0, none⟩ t (((w.alloc (.cells #[.pointer (some t)] 96)).alloc (.cells #[.pointer (some ⟨10, 96, none⟩), .pointer (some ⟨w.heap.size, 0, none⟩), .int .u64 150] 118)).alloc (.cells #[.pointer (some ⟨10, 96, none⟩), .pointer (some ⟨w.heap.size, 0, none⟩), .int .u64 150] 118)) (by rw [World.cell?_alloc_lt _ _ ⟨w.heap.size, 0, none⟩ (by simp; omega)]; simp)
  have st := as_setE t ⟨w.heap.size + 1 + 1 + 1, 0, none⟩ e old ((((w.alloc (.cells #[.pointer (some t)] 96)).alloc (.cells #[.pointer (some ⟨10, 96, none⟩), .pointer (some ⟨w.heap.size, 0, none⟩), .int .u64 150] 118)).alloc (.cells #[.pointer (some ⟨10, 96, none⟩), .pointer (some ⟨w.heap.size, 0, none⟩), .int .u64 150] 118)).alloc (.cells #[.int .i64 e] 54))
    (by rw [World.cell?_alloc_at _ _ _ _ (by simp)]; rfl)
    (by rw [World.cell?_alloc_lt _ _ t (by simp; omega), World.cell?_alloc_lt _ _ t (by simp; omega), World.cell?_alloc_lt _ _ t (by simp; omega), World.cell?_alloc_lt _ _ t htl]; exact ht0)
    (by rw [World.frozen?_alloc_old _ _ t (by simp; omega), World.frozen?_alloc_old _ _ t (by simp; omega), World.frozen?_alloc_old _ _ t (by simp; omega), World.frozen?_alloc_old _ _ t (Nat.ne_of_lt htl)]; exact hf0)
  go_enter Tryz.func48, Tryz.ntmps48
  go_wp2
  refine wp_loop_rounds 1 ?_
  rw [rounds_succ]
  go_wp2
  go_ret
  exact ⟨rfl, rfl⟩

/-- The library's variable holds the handle of the type error. -/
def GlobOk (w : World) : Prop := w.cell? ⟨1, 0, none⟩ = some (.iface 147 (.agg #[.pointer (some ⟨10, 29, none⟩)]))
theorem GlobOk.below {w w' : World} (hb : Below w.heap.size w w') (h : GlobOk w) : GlobOk w' := cell_below hb h
theorem below_al {w w' : World} (h : Below w.heap.size w w') (o : Obj) : Below w.heap.size w (w'.alloc o) := h.alloc h.size o
set_option maxHeartbeats 1000000 in
theorem told_any (k : Int) (w : World) (hg : GlobOk w) : Calls Tryz.prog 22 #[errV k] w fun e w' => e = .returned (.int .i64 k) ∧ Below w.heap.size w w' := by
  by_cases hk : k = 0
  · subst hk
    rw [errV_zero rfl]
    go_enter Tryz.func22, Tryz.ntmps22
    go_wp2_with fail
    go_ret
    exact ⟨rfl, Below.refl _ _⟩
  · rw [errV_some hk]
    clear hk
    have hb0 : Below w.heap.size w (w.alloc (.cells #[.int .i64 0] 54)) := (Below.refl _ _).alloc (Nat.le_refl _) _
    have h1 := as_hit k ⟨w.heap.size, 0, none⟩ (.int .i64 0) (w.alloc (.cells #[.int .i64 0] 54)) (hg.below hb0) (by rw [World.cell?_alloc_at _ _ _ _ rfl]; rfl) (by simp)
    clear hg
    go_enter Tryz.func22, Tryz.ntmps22
    go_wp2_with fail
    refine h1.mono ?_
    clear h1
    rintro e w' ⟨rfl, rfl⟩
    go_wp2_with fail
    go_ret
    refine ⟨rfl, ?_⟩
    exact below_al (below_al (below_al (below_al (below_al (Below.refl _ _) _) _) _) _) _
theorem same_any (k n : Int) (w : World) (hg : GlobOk w) : Calls Tryz.prog 6 #[errV k, .int .i64 n] w fun e w' => e = .returned (.bool (k == n)) ∧ Below w.heap.size w w' := by
  have h1 := told_any k w hg
  generalize errV k = v at *
  clear hg
  go_enter Tryz.func6, Tryz.ntmps6
  go_wp2_with fail
  refine h1.mono ?_
  clear h1
  rintro e w' ⟨rfl, hb⟩
  go_wp2_with fail
  go_ret
  exact ⟨rfl, hb⟩
end Go.Proofs.YtfeccicogcnhcaaGreatDoor
