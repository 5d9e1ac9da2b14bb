/- Parts: Chk1, Chk2, Chk3, Mk. -/
import Derived.Test.YtpfpgmfdcafpnaaGreatDoorMg14
import Derived.Test.YtpfpgmfdcafpnaaGreatDoorMg10
import Derived.Test.YtpfpgmfdcafpnaaGreatDoorMg08
import Derived.Deep.DeepCutAuto
import Derived.Test.YtpfpgmfdcafpnaaGreatDoorMg03
import Derived.Test.YtpfpgmfdcafpnaaGreatDoorMg05
import Derived.Test.YtpfpgmfdcafpnaaGreatDoorMg06
import Derived.Test.YtpfpgmfdcafpnaaGreatDoorMg09
import Derived.Test.YtpfpgmfdcafpnaaGreatDoorMg13
import Derived.Deep.RegionHeld3
import Derived.Test.YtpfpgmfdcafpnaaGreatDoorMg07
import Derived.MapKept
/- Contract: a checker and a record. No condition. -/
namespace Go.Proofs.YtpfpgmfdcafpnaaGreatDoor
open Go Go.RowKit

/-- Which type a field of a name has: the last one's; 0: there is none. -/
def tyF (fs : List Fld) : ByteArray → Int := fs.foldl (fun F f => fun s => if f.name = s then f.ty else F s) (fun _ => 0)
theorem tyF_snoc (fs : List Fld) (f : Fld) : tyF (fs ++ [f]) = fun s => if f.name = s then f.ty else tyF fs s := by simp [tyF]
def badF (fs : List Fld) (p : Prp) : Bool := !decide (tyF fs p.name = p.v.ty)
def lackF (n : Nod) (f : Fld) : Bool := f.must && !rhas n.props f.name
def recF (fs : List Fld) (n : Nod) : List Flt := (n.props.filter (badF fs)).map (fun p => ⟨2, n.id, p.name⟩) ++ (fs.filter (lackF n)).map (fun f => ⟨3, n.id, f.name⟩)
theorem take_snocF {D : Type} {l : List D} {k : Nat} {d : D} (h : l[k]? = some d) : l.take (k + 1) = l.take k ++ [d] := by rw [List.take_add_one, h]; rfl
theorem filt_snoc {D : Type} {l : List D} {k : Nat} {d : D} (p : D → Bool) (f : D → Flt) (h : l[k]? = some d) : ((l.take (k + 1)).filter p).map f = ((l.take k).filter p).map f ++ if p d then [f d] else [] := by
  rw [take_snocF h, List.filter_append, List.map_append]
  cases hp : p d <;> simp [hp]
theorem filt_le {D : Type} (l : List D) (k : Nat) (p : D → Bool) (f : D → Flt) : (((l.take k).filter p).map f).length ≤ k := by
  rw [List.length_map]
  exact Nat.le_trans (List.length_filter_le _ _) (by rw [List.length_take]; omega)
theorem MapI.of_block {w w' : World} {b n : Nat} {F : ByteArray → Int} (h : MapI w b n F) (hb : w'.heap[b]? = w.heap[b]?) : MapI w' b n F := by
  obtain ⟨D, ⟨es, clock, h1, h2⟩, h3⟩ := h
  exact ⟨D, ⟨es, clock, hb.trans h1, h2⟩, h3⟩
theorem MapI.keep {w w' : World} {b n : Nat} {F : ByteArray → Int} (h : MapI w b n F) (hk : ∀ m c, w.heap[b]? = some (.map m c) → w'.heap[b]? = some (.map m c)) : MapI w' b n F := by
  have h0 := h
  obtain ⟨D, ⟨es, clock, h1, h2⟩, h3⟩ := h
  exact h0.of_block ((hk _ _ h1).trans h1.symm)
theorem MapI.below {w w' : World} {b n : Nat} {F : ByteArray → Int} (h : MapI w b n F) (hb : Below w.heap.size w w') : MapI w' b n F := h.of_block (hb.block _ h.lt)
set_option maxRecDepth 100000 in
set_option maxHeartbeats 8000000 in
theorem record_any (B bc : Nat) (vk vb vn vt mv out : Value) (fs : List Flt) (n : Nod) (fields : List Fld) (u v : Value) (W1 w : World) (hBW : B = W1.heap.size) (hW : Below W1.heap.size W1 w) (hC : Ck B w bc vk vb vn vt mv out fs)
    (hu : Sl prpL W1 u n.props) (hid : I64 n.id) (hch : chain prpLt n.props = true) (hpl : n.props.length ≤ 1000) (hf : Own w B 64 4 v fields.length (fields.flatMap Fld.enc)) (hfo : ∀ x ∈ fields, x.ok) (hfl : fields.length ≤ 1000) (hl : fs.length ≤ 90000) :
    Calls Tryz.prog 59 #[.pointer (some ⟨bc, 0, none⟩), .agg #[.int .i64 n.id, .string n.kind, u], v] w fun e w' => e = .returned (.tuple #[]) ∧ Told1 B w w' bc vk vb vn vt mv (fs ++ recF fields n) := by
  obtain ⟨Au, cu, rfl, _, _⟩ := hu.form
  obtain ⟨Af, cf, rfl, _, _⟩ := hf.form
  have hmm := @run_makeMap Tryz.prog
  obtain ⟨W0, hW0⟩ : ∃ W0, W0 = (w.alloc (.cells #[.int .i64 n.id, .string n.kind, .slice Au n.props.length cu] 33)).alloc (.map #[] 0) := ⟨_, rfl⟩
  have hb0 : Below w.heap.size w W0 := by rw [hW0]; exact ((Below.refl _ _).alloc (Nat.le_refl _) _).alloc (by simp) _
  have g0 : W0.heap[w.heap.size]? = some (.cells #[.int .i64 n.id, .string n.kind, .slice Au n.props.length cu] 33 (0, 0)) := by
    rw [hW0, Below.heap_alloc _ _ _ (by simp)]; exact heap_alloc_new _ _
  have hM0 : MapI W0 (w.heap.size + 1) 0 (fun _ => 0) := by
    have := MapI.made (w.alloc (.cells #[.int .i64 n.id, .string n.kind, .slice Au n.props.length cu] 33))
    rw [hW0]; simpa using this
  have hW0' := hW0.symm
  have HM0 := Lib.hid hM0
  have HF := Lib.hid hf
  have HFO := Lib.hid hfo
  have HC := Lib.hid hC
  have HU := Lib.hid hu
  have HG := Lib.hid g0
  have hwB : B ≤ w.heap.size := by rw [hBW]; exact hW.size
  have hw0 := hb0.size
  have hs0 : W0.heap.size = w.heap.size + 2 := by rw [hW0]; simp
  clear hf hC hu g0 hM0 hW0 hfo
  go_enter Tryz.func59, Tryz.ntmps59
  go_wp2_with fail
  clear hW0' hmm
  go_loopw [18] (fun i wr => ∃ k : Nat, k ≤ fields.length ∧ i = .int .i64 k ∧ Below w.heap.size w wr ∧ wr.heap[w.heap.size]? = some (.cells #[.int .i64 n.id, .string n.kind, .slice Au n.props.length cu] 33 (0, 0)) ∧ Hid (MapI wr (w.heap.size + 1) k (tyF (fields.take k))) ∧ w.heap.size + 2 ≤ wr.heap.size) (fun i _ => fields.length - (intOf i).toNat)
  case atStart => exact ⟨0, Nat.zero_le _, rfl, hb0, HG.out, HM0.out, by omega⟩
  case round =>
    clear HM0 HG
    obtain ⟨k, hk, rfl, hbr, hg, HM, hz⟩ := hrel
    by_cases hlt : k < fields.length
    · obtain ⟨f, hd⟩ : ∃ d, fields[k]? = some d := ⟨_, List.getElem?_eq_getElem hlt⟩
      obtain ⟨gb, o, rfl, hok, q0, q1, q2, q3⟩ := fld_at ((HF.out.below hbr).flds HFO.out) hd
      have hlt' : (k : Int) < (fields.length : Int) := by omega
      have ha1 : Below wr.heap.size wr (wr.alloc (.cells #[.string f.name, .int .i64 f.ty, .bool f.must, .bool f.key] 64)) := (Below.refl _ _).alloc (Nat.le_refl _) _
      obtain ⟨z0, z1, z2, z3⟩ := cell_box4 wr (.string f.name) (.int .i64 f.ty) (.bool f.must) (.bool f.key) 64
      have hnm : f.name.size ≤ maxLen := by have := hok.1; unfold Sm at this; unfold maxLen; omega
      obtain ⟨w5, hput, hM5, hg5⟩ := (HM.out.below ha1).put (by unfold maxLen; omega) hnm hok.2
      have HN : Hid (MapI w5 (w.heap.size + 1) (k + 1) (tyF (fields.take (k + 1)))) := by unfold Hid; rw [take_snocF hd, tyF_snoc]; exact hM5
      have hg1 := grown_block hg5 ((ha1.block _ (Array.getElem?_eq_some_iff.1 hg).1).trans hg) (by simp)
      have hb5 : Below w.heap.size w w5 := (hbr.alloc hbr.size _).grown hg5 (by simp; omega) (fun j e => by cases e; omega)
      have hs5 := hg5.size
      have hz5 : w.heap.size + 2 ≤ w5.heap.size := by simp at hs5; omega
      clear hd hok hM5 hg5 hs5 HM hg hbr ha1
      go_wp2_with fail
      go_roundw
      case rel => exact ⟨k + 1, by omega, by go_num, hb5, hg1, HN, hz5⟩
      case measure => simp [intOf]; omega
    · obtain rfl : k = fields.length := by omega
      rw [List.take_length] at HM
      have HBR := Lib.hid hbr
      have HMF := Lib.hid HM.out
      have HGR := Lib.hid hg
      have hC1 : Told1 B w wr bc vk vb vn vt mv fs := Told1.first hbr hwB ⟨⟨_, HC.out.below hbr⟩, Below.refl _ _, fun _ _ _ => Same.refl _ _, fun _ _ _ h => h, Nat.le_refl _⟩
      have HC1 := Lib.hid hC1
      have y2 := block_cell hg 2
      have hpl' : (n.props.length : Int) ≤ 1000 := by omega
      have HR : Hid (recF fields n = (n.props.filter (badF fields)).map (fun p => ⟨2, n.id, p.name⟩) ++ (fields.filter (lackF n)).map (fun f => ⟨3, n.id, f.name⟩)) := rfl
      clear hbr HM hC1
      go_wp2_with fail
      go_loopw [31] (fun i wx => ∃ k : Nat, k ≤ n.props.length ∧ i = .int .i64 k ∧ Hid (Told1 B w wx bc vk vb vn vt mv (fs ++ (n.props.take k |>.filter (badF fields)).map (fun p => ⟨2, n.id, p.name⟩))) ∧ wx.heap[w.heap.size]? = some (.cells #[.int .i64 n.id, .string n.kind, .slice Au n.props.length cu] 33 (0, 0)) ∧ Hid (MapI wx (w.heap.size + 1) fields.length (tyF fields)) ∧ w.heap.size + 2 ≤ wx.heap.size) (fun i _ => n.props.length - (intOf i).toNat)
      case atStart => exact ⟨0, Nat.zero_le _, rfl, by unfold Hid; simpa using HC1.out, hg, HMF, hz⟩
      case round =>
        clear HMF HC1 HGR hg y2
        obtain ⟨k, hk, rfl, HT, hg, HM, hz⟩ := hrel
        have y0 := block_cell hg 0
        have y2 := block_cell hg 2
        by_cases hlt : k < n.props.length
        · obtain ⟨p, hd⟩ : ∃ d, n.props[k]? = some d := ⟨_, List.getElem?_eq_getElem hlt⟩
          have hWr : Below W1.heap.size W1 wr := by rw [hBW] at HT; exact hW.trans HT.out.b
          obtain ⟨gb, o, rfl, hok, q0, q1, q2, q3⟩ := prp_at (HU.out.below hWr) hd
          have hlt' : (k : Int) < (n.props.length : Int) := by omega
          have ha1 : Below wr.heap.size wr (wr.alloc (.cells #[.string p.name, .int .i64 p.v.ty, .int .i64 p.v.n, .string p.v.s] 87)) := (Below.refl _ _).alloc (Nat.le_refl _) _
          obtain ⟨z0, z1, z2, z3⟩ := cell_box4 wr (.string p.name) (.int .i64 p.v.ty) (.int .i64 p.v.n) (.string p.v.s) 87
          have hnm : p.name.size ≤ maxLen := by have := hok.1; unfold Sm at this; unfold maxLen; omega
          have hlk := (HM.out.below ha1).look hnm
          have y0 := cell_below ha1 y0
          have HS := Lib.hid (filt_snoc (badF fields) (fun p => (⟨2, n.id, p.name⟩ : Flt)) hd)
          have hle := filt_le n.props k (badF fields) (fun p => (⟨2, n.id, p.name⟩ : Flt))
          have hBr : B ≤ wr.heap.size := by have := HT.out.z; omega
          have HT1 := Lib.hid (HT.out.last hBr ha1)
          have hg1 := (ha1.block _ (Array.getElem?_eq_some_iff.1 hg).1).trans hg
          have HM1 := Lib.hid (HM.out.below ha1)
          have HBD : Hid (badF fields p = !decide (tyF fields p.name = p.v.ty)) := rfl
          have HOK : Hid (Sm p.name) := hok.1
          have hz1 : w.heap.size + 2 ≤ (wr.alloc (.cells #[.string p.name, .int .i64 p.v.ty, .int .i64 p.v.n, .string p.v.s] 87)).heap.size := by simp; omega
          have hBa : B ≤ (wr.alloc (.cells #[.string p.name, .int .i64 p.v.ty, .int .i64 p.v.n, .string p.v.s] 87)).heap.size := by simp; omega
          clear hd hok HT hWr HM hg y2 ha1
          go_upto_region 10 with fail
          generalize wr.alloc (.cells #[.string p.name, .int .i64 p.v.ty, .int .i64 p.v.n, .string p.v.s] 87) = Wa at *
          generalize ht : tyF fields p.name = ty at *
          by_cases hq : ty = p.v.ty
          · have hb1 : (ty != p.v.ty) = false := by rw [bne_eq_false_iff_eq]; exact hq
            have HN : Hid (Told1 B w Wa bc vk vb vn vt mv (fs ++ ((n.props.take (k + 1)).filter (badF fields)).map (fun p => ⟨2, n.id, p.name⟩))) := by
              unfold Hid; rw [HS.out, HBD.out, decide_eq_true hq]; simpa using HT1.out
            clear hq HS HBD ht
            go_wp2_with fail
            go_roundw
            case rel => exact ⟨k + 1, by omega, by go_num, HN, hg1, HM1, hz1⟩
            case measure => simp [intOf]; omega
          · have hb1 : (ty != p.v.ty) = true := by rw [bne_iff_ne]; exact hq
            have HN : Hid (fs ++ ((n.props.take (k + 1)).filter (badF fields)).map (fun p => (⟨2, n.id, p.name⟩ : Flt)) = (fs ++ ((n.props.take k).filter (badF fields)).map (fun p => (⟨2, n.id, p.name⟩ : Flt))) ++ [⟨2, n.id, p.name⟩]) := by
              unfold Hid; rw [HS.out, HBD.out, decide_eq_false hq]; simp
            obtain ⟨out', hc⟩ := HT1.out.c
            have htell := tell_any B bc vk vb vn vt mv out' _ ⟨2, n.id, p.name⟩ Wa hBa hc ⟨⟨by show (-9223372036854775808 : Int) ≤ 2; omega, by show (2 : Int) ≤ 9223372036854775807; omega⟩, hid, HOK.out⟩ (by rw [List.length_append]; omega)
            rw [← HN.out] at htell
            clear hq HS HBD HN hc ht
            go_wp2_with fail
            refine htell.mono ?_
            clear htell
            rintro e w5 ⟨rfl, ht5⟩
            have HT5 := Lib.hid (HT1.out.trans ht5)
            have hg5 := ht5.s 33 (by decide) (by decide) _ _ _ hg1
            have HM5 := Lib.hid (HM1.out.keep (ht5.m _))
            have hz5 : w.heap.size + 2 ≤ w5.heap.size := by have := ht5.z; omega
            clear ht5
            go_wp2_with fail
            go_roundw
            case rel => exact ⟨k + 1, by omega, by go_num, HT5, hg5, HM5, hz5⟩
            case measure => simp [intOf]; omega
        · obtain rfl : k = n.props.length := by omega
          rw [List.take_length] at HT
          generalize hl1 : (n.props.filter (badF fields)).map (fun p => (⟨2, n.id, p.name⟩ : Flt)) = l1 at *
          have hl1n : l1.length ≤ 1000 := by
            rw [← hl1, List.length_map]
            have := List.length_filter_le (badF fields) n.props
            omega
          have hHT : Told1 B w wr bc vk vb vn vt mv (fs ++ l1) := HT.out
          have HT0 := Lib.hid hHT
          have HG0 := Lib.hid hg
          have hz0 := hz
          clear HT HM hl1 hHT y0 y2
          go_wp2_with fail
          go_loopw [52] (fun i wx => ∃ k : Nat, k ≤ fields.length ∧ i = .int .i64 k ∧ Hid (Told1 B w wx bc vk vb vn vt mv ((fs ++ l1) ++ ((fields.take k).filter (lackF n)).map (fun f => ⟨3, n.id, f.name⟩))) ∧ wx.heap[w.heap.size]? = some (.cells #[.int .i64 n.id, .string n.kind, .slice Au n.props.length cu] 33 (0, 0))) (fun i _ => fields.length - (intOf i).toNat)
          case atStart => exact ⟨0, Nat.zero_le _, rfl, by unfold Hid; simpa using HT0.out, HG0.out⟩
          case round =>
            clear HT0 HG0 hg hz hz0
            obtain ⟨k, hk, rfl, HT, hg⟩ := hrel
            have y0 := block_cell hg 0
            have y2 := block_cell hg 2
            by_cases hlt : k < fields.length
            · obtain ⟨f, hd⟩ : ∃ d, fields[k]? = some d := ⟨_, List.getElem?_eq_getElem hlt⟩
              have hWr : Below W1.heap.size W1 wr := by rw [hBW] at HT; exact hW.trans HT.out.b
              obtain ⟨gb, o, rfl, hok, q0, q1, q2, q3⟩ := fld_at ((HF.out.same (HT.out.s 64 (by decide) (by decide))).flds HFO.out) hd
              have hlt' : (k : Int) < (fields.length : Int) := by omega
              have ha1 : Below wr.heap.size wr (wr.alloc (.cells #[.string f.name, .int .i64 f.ty, .bool f.must, .bool f.key] 64)) := (Below.refl _ _).alloc (Nat.le_refl _) _
              obtain ⟨z0, z1, z2, z3⟩ := cell_box4 wr (.string f.name) (.int .i64 f.ty) (.bool f.must) (.bool f.key) 64
              have y0 := cell_below ha1 y0
              have y2 := cell_below ha1 y2
              have HS := Lib.hid (filt_snoc (lackF n) (fun f => (⟨3, n.id, f.name⟩ : Flt)) hd)
              have hle := filt_le fields k (lackF n) (fun f => (⟨3, n.id, f.name⟩ : Flt))
              have hBr : B ≤ wr.heap.size := by have := HT.out.z; omega
              have HT1 := Lib.hid (HT.out.last hBr ha1)
              have hg1 := (ha1.block _ (Array.getElem?_eq_some_iff.1 hg).1).trans hg
              have HBD : Hid (lackF n f = (f.must && !rhas n.props f.name)) := rfl
              have HOK : Hid (Sm f.name) := hok.1
              have hBa : B ≤ (wr.alloc (.cells #[.string f.name, .int .i64 f.ty, .bool f.must, .bool f.key] 64)).heap.size := by simp; omega
              have hrf := rfind_any n.props f.name _ _ ((HU.out.below hWr).below ha1) hch hpl
              clear hd hok HT hWr hg ha1
              go_upto_region 16 with fail
              generalize wr.alloc (.cells #[.string f.name, .int .i64 f.ty, .bool f.must, .bool f.key] 64) = Wa at *
              generalize rhas n.props f.name = q at *
              generalize rpos n.props f.name = ps at *
              go_wp2_with fail
              refine hrf.mono ?_
              clear hrf
              rintro e w3 ⟨rfl, hb3⟩
              have z0 := cell_below hb3 z0
              have z2 := cell_below hb3 z2
              have y0 := cell_below hb3 y0
              have HT3 := Lib.hid (HT1.out.last hBa hb3)
              have hg3 := (hb3.block _ (Array.getElem?_eq_some_iff.1 hg1).1).trans hg1
              have hB3 : B ≤ w3.heap.size := Nat.le_trans hBa hb3.size
              clear HT1 hg1 hb3 z1 z3 y2
              cases hq : (f.must && !q) with
              | false =>
                have HN : Hid (Told1 B w w3 bc vk vb vn vt mv ((fs ++ l1) ++ ((fields.take (k + 1)).filter (lackF n)).map (fun f => ⟨3, n.id, f.name⟩))) := by
                  unfold Hid; rw [HS.out, HBD.out, hq]; simpa using HT3.out
                have HQ := Lib.hid hq
                clear HS HBD HT3 hq
                generalize f.must = fm at *
                cases fm <;> cases q
                case true.false => exact absurd HQ.out (by decide)
                all_goals
                  clear HQ
                  go_wp2_with fail
                  go_roundw
                  case rel => exact ⟨k + 1, by omega, by go_num, HN, hg3⟩
                  case measure => simp [intOf]; omega
              | true =>
                have HN : Hid ((fs ++ l1) ++ ((fields.take (k + 1)).filter (lackF n)).map (fun f => (⟨3, n.id, f.name⟩ : Flt)) = ((fs ++ l1) ++ ((fields.take k).filter (lackF n)).map (fun f => (⟨3, n.id, f.name⟩ : Flt))) ++ [⟨3, n.id, f.name⟩]) := by
                  unfold Hid; rw [HS.out, HBD.out, hq]; simp
                obtain ⟨out', hc⟩ := HT3.out.c
                have htell := tell_any B bc vk vb vn vt mv out' _ ⟨3, n.id, f.name⟩ w3 hB3 hc ⟨⟨by show (-9223372036854775808 : Int) ≤ 3; omega, by show (3 : Int) ≤ 9223372036854775807; omega⟩, hid, HOK.out⟩ (by rw [List.length_append, List.length_append]; omega)
                rw [← HN.out] at htell
                have HQ := Lib.hid hq
                clear HS HBD HN hc hq
                generalize f.must = fm at *
                cases fm <;> cases q
                case true.false =>
                  clear HQ
                  go_wp2_with fail
                  refine htell.mono ?_
                  clear htell
                  rintro e w5 ⟨rfl, ht5⟩
                  have HT5 := Lib.hid (HT3.out.trans ht5)
                  have hg5 := ht5.s 33 (by decide) (by decide) _ _ _ hg3
                  clear ht5
                  go_wp2_with fail
                  go_roundw
                  case rel => exact ⟨k + 1, by omega, by go_num, HT5, hg5⟩
                  case measure => simp [intOf]; omega
                all_goals exact absurd HQ.out (by decide)
            · obtain rfl : k = fields.length := by omega
              rw [List.take_length] at HT
              go_wp2_with fail
              go_end0
              exact ⟨rfl, by rw [HR.out, ← List.append_assoc]; exact HT.out⟩
end Go.Proofs.YtpfpgmfdcafpnaaGreatDoor

/- Contract: a checker and a node by itself. No condition. -/
namespace Go.Proofs.YtpfpgmfdcafpnaaGreatDoor
open Go Go.RowKit


/-- The fields of a node's kind; none, where there is no such kind. -/
def kfl (s : Scm) (nm : ByteArray) : List Fld := if kFind s.kinds nm < 0 then [] else (fieldsOf s.kinds nm).getD []
def aloneF (s : Scm) (n : Nod) : List Flt := if kFind s.kinds n.kind < 0 then [⟨1, n.id, n.kind⟩] else recF (kfl s n.kind) n
/-- What a checker needs of its data. -/
structure CkOk (s : Scm) : Prop where
  l : s.kinds.length ≤ 12
  o : ∀ k ∈ s.kinds, k.ofs.length ≤ 64
  f : ∀ k ∈ s.kinds, k.fields.length ≤ 8
def AloneR (B bc : Nat) (vk vb vn vt mv : Value) (fs : List Flt) (s : Scm) (n : Nod) (w : World) (e : Ending) (w' : World) : Prop :=
  ∃ v, e = .returned (.tuple #[v, .bool (decide (0 ≤ kFind s.kinds n.kind))]) ∧ Own w' B 64 4 v (kfl s n.kind).length ((kfl s n.kind).flatMap Fld.enc) ∧ (∀ x ∈ kfl s n.kind, x.ok) ∧ Told1 B w w' bc vk vb vn vt mv (fs ++ aloneF s n)
set_option maxRecDepth 100000 in
set_option maxHeartbeats 8000000 in
theorem alone_any (B bc : Nat) (vk vb vn vt mv out : Value) (fs : List Flt) (s : Scm) (n : Nod) (u : Value) (W1 w : World) (hBW : B = W1.heap.size) (hW : Below W1.heap.size W1 w) (hC : Ck B w bc vk vb vn vt mv out fs)
    (hs : ScmR W1 vk vb s) (hok : CkOk s) (hu : Sl prpL W1 u n.props) (hid : I64 n.id) (hkd : Sm n.kind) (hch : chain prpLt n.props = true) (hpl : n.props.length ≤ 1000) (hfl : (kfl s n.kind).length ≤ 1000) (hl : fs.length ≤ 90000) :
    Calls Tryz.prog 36 #[.pointer (some ⟨bc, 0, none⟩), .agg #[.int .i64 n.id, .string n.kind, u]] w (AloneR B bc vk vb vn vt mv fs s n w) := by
  obtain ⟨Au, cu, rfl, _, _⟩ := hu.form
  obtain ⟨Ak, ck, rfl, _, _⟩ := hs.1.form
  obtain ⟨Ab, cb, rfl, _, _⟩ := hs.2.form
  have hb0 : Below w.heap.size w (w.alloc (.cells #[.int .i64 n.id, .string n.kind, .slice Au n.props.length cu] 33)) := (Below.refl _ _).alloc (Nat.le_refl _) _
  have g0 := heap_alloc_new w (.cells #[.int .i64 n.id, .string n.kind, .slice Au n.props.length cu] 33)
  generalize hW0 : w.alloc (.cells #[.int .i64 n.id, .string n.kind, .slice Au n.props.length cu] 33) = W0 at *
  have hwB : B ≤ w.heap.size := by rw [hBW]; exact hW.size
  have hw0 := hb0.size
  have hW01 : Below W1.heap.size W1 W0 := hW.trans (hb0.mono hW.size)
  have hC0 := hC.below hb0
  have y0 := block_cell hC0.q 0
  have x0 := block_cell g0 0
  have x1 := block_cell g0 1
  have x2 := block_cell g0 2
  have HC0 := Lib.hid hC0
  have HG0 := Lib.hid g0
  have HS := Lib.hid hs
  have HU := Lib.hid hu
  have HK : Hid (∀ W, Below W1.heap.size W1 W → Calls Tryz.prog 27 #[.slice Ak s.kinds.length ck, .string n.kind] W fun e w' => e = .returned (.int .i64 (kFind s.kinds n.kind)) ∧ Below W.heap.size W w') := fun W h => kFind_any s.kinds n.kind _ W (HS.out.below h).1
  have HFO : Hid (∀ W, Below W1.heap.size W1 W → Calls Tryz.prog 58 #[.slice Ak s.kinds.length ck, .string n.kind] W (FieldsO s.kinds n.kind W)) := fun W h => fieldsOfO_any s.kinds n.kind _ W (HS.out.below h).1 hkd (by have := hok.l; omega) hok.o hok.f
  have HAF : Hid (aloneF s n = if kFind s.kinds n.kind < 0 then [⟨1, n.id, n.kind⟩] else recF (kfl s n.kind) n) := rfl
  have HKF : Hid (kfl s n.kind = if kFind s.kinds n.kind < 0 then [] else (fieldsOf s.kinds n.kind).getD []) := rfl
  have hT0 : Told1 B w W0 bc (.slice Ak s.kinds.length ck) (.slice Ab s.bonds.length cb) vn vt mv fs := Told1.first hb0 hwB ⟨⟨_, hC0⟩, Below.refl _ _, fun _ _ _ => Same.refl _ _, fun _ _ _ h => h, Nat.le_refl _⟩
  have HT0 := Lib.hid hT0
  have HKD := Lib.hid hkd
  generalize hkf : kFind s.kinds n.kind = z at *
  have HKZ := Lib.hid hkf
  have HBW := Lib.hid hBW
  clear hC hs hu hC0 g0 hok hT0 hkd hkf hBW
  go_enter Tryz.func36, Tryz.ntmps36
  go_wp2_with fail
  clear hW0
  refine wp_mid_k 7 _ rfl rfl (by kernel_rfl) (by kernel_rfl) ?_
  simp only [List.take_succ_cons, List.take_zero, List.drop_succ_cons, List.drop_zero]
  repeat (go_big_quiet_step (fail))
  refine wpQuiet_nil ?_
  intro _ hw'
  obtain ⟨nq, hw''⟩ := hw'
  subst hw''
  intro K hK
  have hk1 := HK.out (W0.drewN nq) (hW01.trans (below_drewN (Below.refl _ _) nq))
  go_wp2_with fail
  refine hk1.mono ?_
  clear hk1
  rintro e w2 ⟨rfl, hb2⟩
  have hb02 := (below_drewN (Below.refl W0.heap.size W0) nq).trans hb2
  refine hK _ _ ?_
  repeat (go_big_quiet_step (fail))
  refine wpQuiet_nil ?_
  intro _ hw'
  obtain ⟨nq2, hw''⟩ := hw'
  subst hw''
  clear hK
  have hbW := below_drewN hb02 nq2
  generalize w2.drewN nq2 = W2 at *
  have hB2 : B ≤ W2.heap.size := by have := hbW.size; omega
  have hW12 : Below W1.heap.size W1 W2 := hW01.trans (hbW.mono hW01.size)
  have hB0 : B ≤ W0.heap.size := by omega
  have HT2 := Lib.hid (HT0.out.last hB0 hbW)
  have HC2 := Lib.hid (HC0.out.below hbW)
  have hg2 := (hbW.block _ (Array.getElem?_eq_some_iff.1 HG0.out).1).trans HG0.out
  have y0 := block_cell HC2.out.q 0
  have x0 := block_cell hg2 0
  have x1 := block_cell hg2 1
  have x2 := block_cell hg2 2
  have HG2 := Lib.hid hg2
  clear hb2 hb02 hbW HT0 HC0 HG0 hg2 HK hW01
  by_cases hz : z < 0
  · have hz' : decide (z < 0) = true := decide_eq_true hz
    have HA : Hid (aloneF s n = [⟨1, n.id, n.kind⟩] ∧ kfl s n.kind = []) := ⟨by rw [HAF.out, if_pos hz], by rw [HKF.out, if_pos hz]⟩
    have htell := tell_any B bc _ _ vn vt mv out fs ⟨1, n.id, n.kind⟩ W2 hB2 HC2.out ⟨⟨by show (-9223372036854775808 : Int) ≤ 1; omega, by show (1 : Int) ≤ 9223372036854775807; omega⟩, hid, HKD.out⟩ (by omega)
    have HZ : Hid (decide (0 ≤ kFind s.kinds n.kind) = false) := by unfold Hid; rw [HKZ.out]; exact decide_eq_false (by omega)
    clear HAF HKF HC2 HFO
    go_wp2_with fail
    refine htell.mono ?_
    clear htell
    rintro e w5 ⟨rfl, ht5⟩
    have HT5 := Lib.hid (HT2.out.trans ht5)
    clear ht5
    go_wp2_with fail
    go_ret2
    exact ⟨.slice none 0 0, by rw [HZ.out]; rfl, by rw [HA.out.2]; exact Own.nil _ _ _ _, by rw [HA.out.2]; exact (fun x hx => by cases hx), by rw [HA.out.1]; exact HT5.out⟩
  · have hz' : decide (z < 0) = false := decide_eq_false hz
    have HA : Hid (aloneF s n = recF (kfl s n.kind) n ∧ kfl s n.kind = (fieldsOf s.kinds n.kind).getD []) := ⟨by rw [HAF.out, if_neg hz], by rw [HKF.out, if_neg hz]⟩
    have HZ : Hid (decide (0 ≤ kFind s.kinds n.kind) = true) := by unfold Hid; rw [HKZ.out]; exact decide_eq_true (by omega)
    have hz2 : (0 : Int) ≤ z := by omega
    clear HAF HKF hz
    go_wp2_with fail
    refine wp_mid_k 7 _ rfl rfl (by kernel_rfl) (by kernel_rfl) ?_
    simp only [List.take_succ_cons, List.take_zero, List.drop_succ_cons, List.drop_zero]
    repeat (go_big_quiet_step (fail))
    refine wpQuiet_nil ?_
    intro _ hw'
    obtain ⟨nq, hw''⟩ := hw'
    subst hw''
    intro K hK
    have hf1 := HFO.out (W2.drewN nq) (hW12.trans (below_drewN (Below.refl _ _) nq))
    generalize (fieldsOf s.kinds n.kind).isSome = iss at *
    go_wp2_with fail
    refine hf1.mono ?_
    clear hf1 HFO
    rintro e w3 ⟨v3, rfl, ⟨ho3, hok3⟩, hb3⟩
    rw [← HA.out.2] at ho3 hok3
    have ho3 := ho3.mono (B' := B) hB2
    obtain ⟨A3, c3, rfl, _, _⟩ := ho3.form
    have hb23 := (below_drewN (Below.refl W2.heap.size W2) nq).trans hb3
    refine hK _ _ ?_
    repeat (go_big_quiet_step (fail))
    refine wpQuiet_nil ?_
    intro _ hw'
    obtain ⟨nq2, hw''⟩ := hw'
    subst hw''
    clear hK
    have hbX := below_drewN hb23 nq2
    have ho4 := ho3.drewN nq2
    generalize w3.drewN nq2 = W3 at *
    have hB3 : B ≤ W3.heap.size := by have := hbX.size; omega
    have hW13 : Below W1.heap.size W1 W3 := hW12.trans (hbX.mono hW12.size)
    have HT3 := Lib.hid (HT2.out.last hB2 hbX)
    have hc3 := HC2.out.below hbX
    have hg3 := (hbX.block _ (Array.getElem?_eq_some_iff.1 HG2.out).1).trans HG2.out
    have x0 := block_cell hg3 0
    have x1 := block_cell hg3 1
    have x2 := block_cell hg3 2
    have hrec := record_any B bc _ _ vn vt mv out fs n (kfl s n.kind) _ _ W1 W3 HBW.out hW13 hc3 HU.out hid hch hpl ho4 hok3 hfl hl
    have HO4 := Lib.hid ho4
    have HOK := Lib.hid hok3
    generalize hfl0 : kfl s n.kind = fl at *
    have HFL := Lib.hid hfl0.symm
    clear hfl0
    clear hb3 hb23 hbX ho3 hok3 ho4 hc3 hg3 y0 HC2 HG2 HT2
    go_wp2_with fail
    refine hrec.mono ?_
    clear hrec
    rintro e w5 ⟨rfl, ht5⟩
    have HT5 := Lib.hid (HT3.out.trans ht5)
    have HO5 := Lib.hid (HO4.out.same (ht5.s 64 (by decide) (by decide)))
    clear ht5
    go_wp2_with fail
    go_ret2
    exact ⟨.slice A3 fl.length c3, by rw [HZ.out]; rfl, by rw [← HFL.out]; exact HO5.out, by rw [← HFL.out]; exact HOK.out, by rw [HA.out.1]; exact HT5.out⟩
end Go.Proofs.YtpfpgmfdcafpnaaGreatDoor

/- Contract: whether an end of a tie is one. No condition. -/
namespace Go.Proofs.YtpfpgmfdcafpnaaGreatDoor
open Go Go.RowKit


def endB (s : Scm) (g : Grf) (id : Int) (asked : ByteArray) : Bool := match g.nodes[fpos g.nodes id]? with | some n => fhas g.nodes id && decide (0 ≤ kFind s.kinds n.kind) && isKinB s.kinds n.kind asked | none => false
set_option maxRecDepth 100000 in
set_option maxHeartbeats 8000000 in
theorem end_any (B bc : Nat) (vk vb vn vt mv out : Value) (fs : List Flt) (s : Scm) (g : Grf) (id : Int) (asked : ByteArray) (W1 w : World) (hW : Below W1.heap.size W1 w) (hC : Ck B w bc vk vb vn vt mv out fs)
    (hs : ScmR W1 vk vb s) (hok : CkOk s) (hg : GrfR W1 vn vt g) (hch : chain nodLt g.nodes = true) (hl : g.nodes.length ≤ 1000) :
    Calls Tryz.prog 46 #[.pointer (some ⟨bc, 0, none⟩), .int .i64 id, .string asked] w fun e w' => e = .returned (.bool (endB s g id asked)) ∧ Below w.heap.size w w' := by
  obtain ⟨Ak, ck, rfl, _, _⟩ := hs.1.form
  obtain ⟨Ab, cb, rfl, _, _⟩ := hs.2.form
  obtain ⟨An, cn, rfl, _, _⟩ := hg.1.form
  obtain ⟨At, ct, rfl, _, _⟩ := hg.2.form
  have y0 := block_cell hC.q 0
  have y2 := block_cell hC.q 2
  have y3 := block_cell hC.q 3
  have HC := Lib.hid hC
  have HS := Lib.hid hs
  have HG := Lib.hid hg
  have hfd := find_any g _ _ w (hg.below hW) id hch hl
  have HEB : Hid (endB s g id asked = match g.nodes[fpos g.nodes id]? with | some n => fhas g.nodes id && decide (0 ≤ kFind s.kinds n.kind) && isKinB s.kinds n.kind asked | none => false) := rfl
  generalize endB s g id asked = eb at *
  clear hC hs hg
  go_enter Tryz.func46, Tryz.ntmps46
  go_wp2_with fail
  refine hfd.mono ?_
  clear hfd
  rintro e w2 ⟨rfl, hb2⟩
  have y0 := cell_below hb2 y0
  have y2 := cell_below hb2 y2
  have y3 := cell_below hb2 y3
  cases hq : fhas g.nodes id with
  | false =>
    have HE : Hid (eb = false) := by unfold Hid; rw [HEB.out]; split <;> simp [hq]
    clear HEB hq
    go_wp2_with fail
    go_quiet (fail)
    go_wp2_with fail
    go_ret
    exact ⟨by rw [HE.out]; rfl, below_drewN hb2 _⟩
  | true =>
    obtain ⟨n, hn⟩ : ∃ n, g.nodes[fpos g.nodes id]? = some n := by
      unfold fhas eqAt at hq
      cases hd : g.nodes[fpos g.nodes id]? with
      | none => rw [hd] at hq; simp at hq
      | some d => exact ⟨d, rfl⟩
    have HE : Hid (eb = (decide (0 ≤ kFind s.kinds n.kind) && isKinB s.kinds n.kind asked)) := by unfold Hid; rw [HEB.out, hn]; simp [hq]
    have hW2 : Below W1.heap.size W1 w2 := hW.trans (hb2.mono hW.size)
    have hil := (List.getElem?_eq_some_iff.1 hn).1
    generalize fpos g.nodes id = i at *
    have hil' : (i : Int) < (g.nodes.length : Int) := by omega
    have hi0 : (0 : Int) ≤ (i : Int) := by omega
    obtain ⟨b, o, rfl, u, hid, hkd, _, x0, x1, x2⟩ := nod_at (HG.out.below hW2).1 hn
    have hbd : Below w2.heap.size w2 w2.drew := (Below.refl _ _).drew
    have HK : Hid (∀ W, Below w2.heap.size w2 W → Calls Tryz.prog 27 #[.slice Ak s.kinds.length ck, .string n.kind] W fun e w' => e = .returned (.int .i64 (kFind s.kinds n.kind)) ∧ Below W.heap.size W w') := fun W h => kFind_any s.kinds n.kind _ W (HS.out.below (hW2.trans (h.mono hW2.size))).1
    have HI : Hid (∀ W, Below w2.heap.size w2 W → Calls Tryz.prog 28 #[.slice Ak s.kinds.length ck, .string n.kind, .string asked] W fun e w' => e = .returned (.bool (isKinB s.kinds n.kind asked)) ∧ Below W.heap.size W w') := fun W h =>
      isKin_any s.kinds n.kind asked _ W (HS.out.below (hW2.trans (h.mono hW2.size))).1 hkd (by have := hok.l; omega) hok.o
    have hkeep := And.intro (cell_below hbd y0) (And.intro (cell_below hbd y2) (cell_below hbd x1))
    generalize kFind s.kinds n.kind = z at *
    generalize isKinB s.kinds n.kind asked = ik at *
    have HK0 := HK.out w2.drew hbd
    clear hn hq HEB hid hkd hil x0 x2
    by_cases hz : z < 0
    · have HE2 : Hid (eb = false) := by unfold Hid; rw [HE.out, decide_eq_false (by omega)]; rfl
      have hz1 : decide ((0 : Int) ≤ z) = false := decide_eq_false (by omega)
      go_wp2_with fail
      refine wp_mid_g 16 _ rfl rfl (by kernel_rfl) ?_
      simp only [List.take_succ_cons, List.take_zero, List.drop_succ_cons, List.drop_zero]
      repeat (go_big_quiet_step (fail))
      refine wpQuiet_nil ?_
      refine ⟨by simp [Region.wanted, yielded, go_sem], ?_⟩
      intro _ hw'
      obtain ⟨nq, hw''⟩ := hw'
      subst hw''
      intro K hK
      have hk1 := HK.out (w2.drewN nq) (below_drewN (Below.refl _ _) nq)
      go_wp2_with fail
      refine hk1.mono ?_
      clear hk1
      rintro e w3 ⟨rfl, hb3⟩
      have hb23 := (below_drewN (Below.refl w2.heap.size w2) nq).trans hb3
      refine hK _ _ ?_
      repeat (go_big_quiet_step (fail))
      refine wpQuiet_nil ?_
      intro _ hw'
      obtain ⟨nq2, hw''⟩ := hw'
      subst hw''
      clear hK
      have hbX := below_drewN hb23 nq2
      generalize w3.drewN nq2 = W3 at *
      go_wp2_with fail
      go_ret
      exact ⟨by rw [HE2.out]; rfl, hb2.trans (hbX.mono hb2.size)⟩
    · have HE2 : Hid (eb = ik) := by unfold Hid; rw [HE.out, decide_eq_true (by omega)]; rfl
      have hz1 : decide ((0 : Int) ≤ z) = true := decide_eq_true (by omega)
      have hz2 : (0 : Int) ≤ z := by omega
      clear hz
      go_wp2_with fail
      go_region_held3 (fun w' => w'.cell? ⟨bc, 0, none⟩ = some (.slice Ak s.kinds.length ck) ∧ w'.cell? ⟨bc, 2, none⟩ = some (.slice (some ⟨b, o, none⟩) g.nodes.length cn) ∧ w'.cell? ⟨b, o + i * 3 + 1, none⟩ = some (.string n.kind))
        (first
          | exact hkeep
          | go_keep)
        (first
          | (go_at_call 27
             refine HK0.mono ?_
             rintro e w3 ⟨rfl, hb3⟩
             have hb23 := hbd.trans (hb3.mono hbd.size)
             have hkeep := And.intro (cell_below hb23 y0) (And.intro (cell_below hb23 y2) (cell_below hb23 x1))
             have HI0 := HI.out w3 hb23)
          | (go_at_call 28
             refine HI0.mono ?_
             rintro e w4 ⟨rfl, hb4⟩
             have hb24 := hb23.trans (hb4.mono hb23.size)
             have hkeep := And.intro (cell_below hb24 y0) (And.intro (cell_below hb24 y2) (cell_below hb24 x1))))
      all_goals
        go_wp2_with fail
        go_ret
        exact ⟨by rw [HE2.out]; rfl, hb2.trans (hb24.mono hb2.size)⟩
end Go.Proofs.YtpfpgmfdcafpnaaGreatDoor

/- Plain: a map from the checker's keys (a text and a value) to bools that the call made, as a list of keys. No condition. -/
namespace Go.Proofs.YtpfpgmfdcafpnaaGreatDoor
open Go Go.RowKit

/-- A key: the field's name, and the value. -/
structure Key where
  f : ByteArray
  v : Val
  deriving DecidableEq
def Key.ag (k : Key) : Value := .agg #[.string k.f, .int .i64 k.v.ty, .int .i64 k.v.n, .string k.v.s]
theorem kval_same (d : Nat) (x y : Val) (w : World) : (Op.equalIn (d + 2) 60 (.agg #[.int .i64 x.ty, .int .i64 x.n, .string x.s]) (.agg #[.int .i64 y.ty, .int .i64 y.n, .string y.s])).run Tryz.prog w = .ok (decide (x = y)) w := by
  have hS : Tryz.prog.underlying 60 = some (.struct (Tryz.prog.fieldsOf 60)) := by kernel_rfl
  have hp : Tryz.prog.stoodInHeld 60 = false := by kernel_rfl
  have e1 := Tryz.underlying9
  have e2 := Tryz.underlying3
  rw [run_equalIn_agg w (d + 1) 60 _ _ hS hp]
  simp only [Program.fieldsOf, Tryz.underlying60]
  go_simp
  simp only [bytes_eq]
  cases x; cases y
  simp only [Val.mk.injEq]
  rename_i a b c a' b' c'
  by_cases h1 : a = a' <;> by_cases h2 : b = b' <;> by_cases h3 : c = c' <;> simp [h1, h2, h3]
set_option maxRecDepth 100000 in
theorem key_same (d : Nat) (x y : Key) (w : World) : (Op.equalIn (d + 3) 123 x.ag y.ag).run Tryz.prog w = .ok (decide (x = y)) w := by
  have hS : Tryz.prog.underlying 123 = some (.struct (Tryz.prog.fieldsOf 123)) := by kernel_rfl
  have hp : Tryz.prog.stoodInHeld 123 = false := by kernel_rfl
  have hv := kval_same d x.v y.v w
  have e1 := Tryz.underlying9
  have e2 := Tryz.underlying3
  have e3 := Tryz.underlying60
  have HV := Lib.hid hv
  clear hv
  unfold Key.ag
  rw [run_equalIn_agg w (d + 2) 123 _ _ hS hp]
  simp only [Program.fieldsOf, Tryz.underlying123]
  clear hS hp
  go_simp
  clear HV
  simp only [bytes_eq]
  cases x with | mk f v => cases y with | mk f' v' =>
  cases v; cases v'
  simp only [Key.mk.injEq, Val.mk.injEq]
  rename_i a b c a' b' c'
  by_cases h0 : f = f' <;> by_cases h1 : a = a' <;> by_cases h2 : b = b' <;> by_cases h3 : c = c' <;> simp [h0, h1, h2, h3]
theorem key_check (e : Bool) (x : Key) (w : World) : (Instr.checkKey e 10000 123 x.ag).run Tryz.prog w = .ok () w := by
  unfold Key.ag
  kernel_rfl
theorem key_bits (x : Key) : Instr.sameBits 10000 x.ag x.ag = true := by
  have h : ∀ a : ByteArray, (a == a) = true := fun a => by cases a; exact beq_self_eq_true (α := Array UInt8) _
  unfold Key.ag
  simp [Instr.sameBits, h]
/-- What an entry says. -/
def kvs (es : List MapEntry) : List (Value × Value) := es.map fun e => (e.key, e.val)
def keyKV (S : List Key) : List (Value × Value) := S.map fun k => (k.ag, .bool true)
/-- Block b is a map: the keys S, each with true. -/
def MapK (w : World) (b : Nat) (S : List Key) : Prop := ∃ es clock, w.heap[b]? = some (.map es clock) ∧ kvs es.toList = keyKV S
theorem MapK.made (w : World) : MapK (w.alloc (.map #[] 0)) w.heap.size [] := ⟨#[], 0, heap_alloc_new _ _, rfl⟩
theorem MapK.keep {w w' : World} {b : Nat} {S : List Key} (h : MapK w b S) (hk : ∀ m c, w.heap[b]? = some (.map m c) → w'.heap[b]? = some (.map m c)) : MapK w' b S := by
  obtain ⟨es, c, h1, h2⟩ := h
  exact ⟨es, c, hk _ _ h1, h2⟩
theorem key_find (k : Key) (w : World) : ∀ (es : List MapEntry) (S : List Key) (i : Nat), kvs es = keyKV S →
    (Instr.findAsking 123 k.ag es i).run Tryz.prog w = .ok (if k ∈ S then some (i + S.findIdx (fun x => decide (k = x)), .bool true) else none) w
  | [], S, i, h => by
    cases S with
    | nil => rfl
    | cons a S => simp [kvs, keyKV] at h
  | e :: es, S, i, h => by
    cases S with
    | nil => simp [kvs, keyKV] at h
    | cons a S =>
      simp only [kvs, keyKV, List.map_cons, List.cons.injEq, Prod.mk.injEq] at h
      obtain ⟨⟨hk, hv⟩, ht⟩ := h
      have ih := key_find k w es S (i + 1) ht
      have he : (Op.equal 123 k.ag a.ag).run Tryz.prog w = .ok (decide (k = a)) w := key_same 9997 k a w
      by_cases hq : k = a
      · subst hq
        rw [decide_eq_true rfl] at he
        unfold Instr.findAsking
        rw [Sem.run_bind, hk, he, if_pos (List.mem_cons_self ..)]
        simp [Result.andThen, hv, List.findIdx_cons]
      · rw [decide_eq_false hq] at he
        have hidx : (a :: S).findIdx (fun x => decide (k = x)) = S.findIdx (fun x => decide (k = x)) + 1 := by rw [List.findIdx_cons]; simp [hq]
        have hmem : (k ∈ a :: S) = (k ∈ S) := by simp [hq]
        have harr : i + 1 + S.findIdx (fun x => decide (k = x)) = i + (S.findIdx (fun x => decide (k = x)) + 1) := by omega
        unfold Instr.findAsking
        rw [Sem.run_bind, hk, he, hidx]
        simp only [hmem]
        rw [← harr, ← ih]
        rfl
theorem key_now (k : Key) : ∀ (es : List MapEntry) (S : List Key) (d : TypeDesc), kvs es = keyKV S → Tryz.prog.underlying 123 = some d → Instr.findNow d k.ag es 0 = none ∨ (es = [] ∧ Instr.findNow d k.ag es 0 = some none)
  | [], _, _, _, _ => .inr ⟨rfl, rfl⟩
  | e :: es, S, d, _, hd => by
    rw [Tryz.underlying123] at hd
    injection hd with hd
    subst hd
    exact .inl rfl
theorem key_findKey (k : Key) (w : World) (es : List MapEntry) (S : List Key) (h : kvs es = keyKV S) :
    (Instr.findKey 123 k.ag es).run Tryz.prog w = .ok (if k ∈ S then some (S.findIdx (fun x => decide (k = x)), .bool true) else none) w := by
  unfold Instr.findKey
  rw [Sem.run_bind, run_underlying Tryz.underlying123]
  simp only [Result.andThen]
  rcases key_now k es S _ h Tryz.underlying123 with hn | ⟨rfl, hn⟩
  · rw [hn]
    have := key_find k w es S 0 h
    simpa using this
  · rw [hn]
    cases S with
    | nil => rfl
    | cons a S => simp [kvs, keyKV] at h
theorem MapK.look {w : World} {b : Nat} {S : List Key} (h : MapK w b S) (k : Key) : (Instr.lookup 92 (.map (some b)) k.ag false).run Tryz.prog w = .ok (.bool (decide (k ∈ S))) w := by
  obtain ⟨es, c, h1, h2⟩ := h
  have hz : (zeroValue 4).run Tryz.prog w = .ok (.bool false) w := by kernel_rfl
  simp only [Instr.lookup, Sem.run_bind, run_underlying Tryz.underlying92, MapKept.run_getObj_map h1, key_check, key_findKey k w es.toList S h2, Result.andThen, Sem.run_pure]
  by_cases hm : k ∈ S
  · simp [hm, Result.andThen]
  · simp [hm, Result.andThen, hz]
theorem set_grown (w : World) (b : Nat) (o o' : Obj) (h : w.heap[b]? = some o) : w.grownBy { w with heap := w.heap.setIfInBounds b o' } (some b) ∧ True ∧ ({ w with heap := w.heap.setIfInBounds b o' } : World).heap[b]? = some o' := by
  have hb := (Array.getElem?_eq_some_iff.1 h).1
  refine ⟨⟨rfl, rfl, rfl, by simp, fun k hk hne => ?_⟩, trivial, ?_⟩
  · simp only [Array.getElem?_setIfInBounds]
    rw [if_neg (fun e => hne (by rw [e]))]
  · simp [hb]
theorem MapK.put {w : World} {b : Nat} {S : List Key} (h : MapK w b S) (k : Key) :
    ∃ w', (Instr.mapUpdate 92 (.map (some b)) k.ag (.bool true)).run Tryz.prog w = .ok () w' ∧ MapK w' b (if k ∈ S then S else S ++ [k]) ∧ w.grownBy w' (some b) := by
  obtain ⟨es, c, h1, h2⟩ := h
  have hlen : es.toList.length = S.length := by have := congrArg List.length h2; simpa [kvs, keyKV] using this
  by_cases hm : k ∈ S
  · have hidx : S.findIdx (fun x => decide (k = x)) < S.length := List.findIdx_lt_length_of_exists ⟨k, hm, by simp⟩
    generalize hj : S.findIdx (fun x => decide (k = x)) = j at *
    have hSj : S[j]? = some k := by
      have := List.findIdx_getElem (xs := S) (p := fun x => decide (k = x)) (w := by rw [hj]; exact hidx)
      simp only [decide_eq_true_eq] at this
      rw [List.getElem?_eq_getElem hidx]
      congr 1
      rw [this]
      congr 1
      exact hj.symm
    obtain ⟨e0, he0⟩ : ∃ e0, es[j]? = some e0 := ⟨_, Array.getElem?_eq_getElem (by simpa using (by omega : j < es.toList.length))⟩
    have hek : e0.key = k.ag ∧ e0.val = .bool true := by
      have h3 := congrArg (fun l => l[j]?) h2
      simp only [kvs, keyKV, List.getElem?_map, hSj, Option.map_some] at h3
      rw [Array.getElem?_toList, he0] at h3
      simp at h3
      exact h3
    obtain ⟨g1, _, g2⟩ := set_grown w b _ (.map (es.modify j fun e => { e with key := k.ag, val := .bool true }) c) h1
    refine ⟨_, ?_, ⟨_, _, g2, ?_⟩, g1⟩
    · simp [Instr.mapUpdate, run_underlying Tryz.underlying92, MapKept.run_getObj_map h1, key_check, key_findKey k w es.toList S h2, hm, hj, he0, hek.1, Instr.keyThatStays, key_bits, MapKept.run_setObj_map _ h1, Result.andThen]
    · rw [if_pos hm, ← h2]
      apply List.ext_getElem?
      intro i
      simp only [kvs, List.getElem?_map, Array.getElem?_toList, Array.getElem?_modify]
      by_cases hi : j = i
      · subst hi
        simp [he0, hek.1, hek.2]
      · rw [if_neg hi]
  · obtain ⟨g1, _, g2⟩ := set_grown w b _ (.map (es.push ⟨k.ag, .bool true, c⟩) (c + 1)) h1
    refine ⟨_, ?_, ⟨_, _, g2, ?_⟩, g1⟩
    · simp [Instr.mapUpdate, run_underlying Tryz.underlying92, MapKept.run_getObj_map h1, key_check, key_findKey k w es.toList S h2, hm, MapKept.run_setObj_map _ h1, Result.andThen]
    · rw [if_neg hm]
      simp only [kvs, keyKV, Array.toList_push, List.map_append, List.map_cons, List.map_nil] at h2 ⊢
      rw [h2]
end Go.Proofs.YtpfpgmfdcafpnaaGreatDoor
