/- Parts: AkS. -/
import Derived.Test.YtakidgndipnciaaDoorMg17
import Derived.Test.YtakidgndipnciaaDoorMg18
import Derived.Test.YtakidgndipnciaaDoorMg07
import Derived.Test.YtakidgndipnciaaDoorMg20
import Derived.Test.YtakidgndipnciaaDoorMg21
/- The law kinlaw4.AskShort: a path of kinds and bonds alone, as text. Conditions: what the library's texts lean on; the signs and the library's variable are laid. -/
namespace Go.Proofs.YtakidgndipnciaaDoor
open Go Go.RowKit



theorem stp_info0 : (Tryd.prog.info? 30).map (fun i => (i.zero, i.size, i.bytes)) = some (some (.agg #[.string .empty, .bool false, .string .empty, .slice none 0 0]), 4, 64) := by kernel_rfl
/-- A step without tests, cell by cell. -/
def Stp.enc0 (x : Stp) : List Value := [.string x.bond, .bool x.back, .string x.kind, .slice none 0 0]
theorem tst_none (w : World) : Sl tstL w (.slice none 0 0) [] := ⟨none, 0, rfl, Nat.le_refl _, Nat.zero_le _, fun i d hi => by simp at hi⟩
theorem Own.stps0 {w : World} {B : Nat} {e : TypeId} {v : Value} {l : List Stp} (h : Own w B e 4 v l.length (l.flatMap Stp.enc0)) (hl : ∀ x ∈ l, Sm x.bond ∧ Sm x.kind ∧ x.tests = []) : Sl stpL w v l := by
  obtain ⟨A, c, rfl, h1, h2⟩ := h.form
  refine ⟨A, c, rfl, h1, h2, fun i d hi => ?_⟩
  obtain ⟨g, o, c', hv, _, _⟩ := h.addr (len_pos hi)
  injection hv with hA _ hc
  subst hA; subst hc
  obtain ⟨e1, e2, e3⟩ := hl d (List.mem_of_getElem? hi)
  exact ⟨g, o, Stp.enc0 d, rfl, ⟨_, rfl, e1, e2, by rw [e3]; exact tst_none w⟩, fun j u hj => h.cell rfl (flat_get (enc := Stp.enc0) (fun _ => rfl) hi hj)⟩
theorem short_sm {l : List Stp} (h : Short l) : ∀ x ∈ l, Sm x.bond ∧ Sm x.kind ∧ x.tests = [] := fun x hx => by
  obtain ⟨i, hi, rfl⟩ := List.mem_iff_getElem.1 hx
  obtain ⟨c1, c2, c3, c4⟩ := h i l[i] (List.getElem?_eq_getElem hi)
  have hn := name_len c1
  rw [Array.length_toList] at hn
  refine ⟨?_, ?_, c2⟩
  · by_cases h0 : i = 0
    · rw [(c3 h0).1]; unfold Sm; decide
    · rw [c4 (by omega)]; unfold Sm; decide
  · have hn : l[i].kind.size ≤ 8 := hn
    unfold Sm; omega
theorem four_new0 (w : World) (a b c d : Value) (T : TypeId) : ∀ j u, ([a, b, c, d] : List Value)[j]? = some u → (w.alloc (.cells #[a, b, c, d] T)).cell? ⟨w.heap.size, j, none⟩ = some u := fun j u hj => by
  rw [World.cell?_alloc_at _ _ _ _ rfl]; simpa using hj
set_option maxRecDepth 100000 in
set_option maxHeartbeats 8000000 in
theorem askShort_any (ns : List ByteArray) (bk : List Bool) (vn vb : Value) (w : World) (hT : TxP w) (hS : SgnOk w) (hG : GlobOk w) (hn : Sl strL w vn ns) (hb : Sl boolL w vb bk) :
    Calls Tryd.prog 3 #[vn, vb] w fun e w' => e = .returned (.bool true) ∧ Below w.heap.size w w' := by
  obtain ⟨i0, ei, ez, ez1, ez2⟩ := info_parts stp_info0
  obtain ⟨A, c, rfl, _, hcm⟩ := hn.form
  obtain ⟨A2, c2, rfl, _, hcm2⟩ := hb.form
  unfold maxLen at hcm hcm2
  have HN := Lib.hid hn
  have HBK := Lib.hid hb
  have HT := Lib.hid hT
  have HS := Lib.hid hS
  have HG := Lib.hid hG
  clear hn hb hT hS hG
  go_enter Tryd.func3, Tryd.ntmps3
  go_upto_block 0 with fail
  -- a cut: the mask [.k, .k, .k, .k, .k, .a, .b, .y 7, .y 8, .k, .k, .y 11, .y 12, .y 13, .y 14, .y 15, .y 16, .y 17, .y 18, .y 19, .y 20, .y 21, .y 22, .y 23, .y 24, .y 25, .y 26, .y 27, .y 28, .y 29, .y 30, .y 31, .y 32, .y 33, .y 34, .y 35, .y 36, .y 37, .y 38, .y 39, .y 40, .y 41, .y 42, .y 43, .y 44, .y 45, .y 46, .y 47, .y 48, .y 49, .y 50, .y 51, .y 52, .y 53, .y 54, .y 55, .y 56, .y 57, .y 58, .y 59, .y 60, .y 61, .y 62, .k, .k, .k, .k, .k, .k, .k, .k, .k, .k, .k, .k, .k, .k, .k, .k, .k], the slots 5 6 0 0, the relation fun x5 x6 _ _ wx => ∃ l : List Stp, l.length ≤ 6 ∧ x6 = .string (bs (askT l)) ∧ Hid (Short l) ∧ Hid (Below w.heap.size w wx) ∧ Hid (Own wx w.heap.size 30 4 x5 l.length (l.flatMap Stp.enc0))
  apply wp_cutm [.k, .k, .k, .k, .k, .a, .b, .y 7, .y 8, .k, .k, .y 11, .y 12, .y 13, .y 14, .y 15, .y 16, .y 17, .y 18, .y 19, .y 20, .y 21, .y 22, .y 23, .y 24, .y 25, .y 26, .y 27, .y 28, .y 29, .y 30, .y 31, .y 32, .y 33, .y 34, .y 35, .y 36, .y 37, .y 38, .y 39, .y 40, .y 41, .y 42, .y 43, .y 44, .y 45, .y 46, .y 47, .y 48, .y 49, .y 50, .y 51, .y 52, .y 53, .y 54, .y 55, .y 56, .y 57, .y 58, .y 59, .y 60, .y 61, .y 62, .k, .k, .k, .k, .k, .k, .k, .k, .k, .k, .k, .k, .k, .k, .k, .k, .k] 5 6 0 0 (by decide +kernel) (fun x5 x6 _ _ wx => ∃ l : List Stp, l.length ≤ 6 ∧ x6 = .string (bs (askT l)) ∧ Hid (Short l) ∧ Hid (Below w.heap.size w wx) ∧ Hid (Own wx w.heap.size 30 4 x5 l.length (l.flatMap Stp.enc0)))
  case first =>
   -- within a cut
   intro JJ KK hmeet hnext
   -- of what is to be done behind only the innermost is kept
   rename ∀ (a : Act) (w : World), Code.wp _ _ _ a w → _ => hkeep
   revert hkeep
   repeat (rename ∀ (a : Act) (w : World), Code.wp _ _ _ a w → _ => hz; clear hz)
   intro hkeep
   go_wp2_with fail
   -- a loop: the mask [.k, .k, .k, .k, .k, .a, .b, .c, .y 8, .k, .k, .y 11, .y 12, .y 13, .y 14, .y 15, .y 16, .y 17, .y 18, .y 19, .y 20, .y 21, .y 22, .y 23, .y 24, .y 25, .y 26, .y 27, .y 28, .y 29, .y 30, .y 31, .y 32, .y 33, .y 34, .y 35, .y 36, .y 37, .y 38, .y 39, .y 40, .y 41, .y 42, .y 43, .y 44, .y 45, .y 46, .y 47, .y 48, .y 49, .y 50, .y 51, .y 52, .y 53, .y 54, .y 55, .y 56, .y 57, .y 58, .y 59, .y 60, .y 61, .y 62, .k, .k, .k, .k, .k, .k, .k, .k, .k, .k, .k, .k, .k, .k, .k, .k, .k], the slots 5 6 7 0, the relation fun x5 x6 x7 _ wr => ∃ (k : Nat) (l : List Stp), k ≤ ns.length ∧ k ≤ 6 ∧ x7 = .int .i64 k ∧ l.length ≤ k ∧ x6 = .string (bs (askT l)) ∧ Hid (Short l) ∧ Hid (Below w.heap.size w wr) ∧ Hid (Own wr w.heap.size 30 4 x5 l.length (l.flatMap Stp.enc0)), the measure fun _ _ x7 _ _ => 6 - (intOf x7).toNat
   apply wp_loopm [.k, .k, .k, .k, .k, .a, .b, .c, .y 8, .k, .k, .y 11, .y 12, .y 13, .y 14, .y 15, .y 16, .y 17, .y 18, .y 19, .y 20, .y 21, .y 22, .y 23, .y 24, .y 25, .y 26, .y 27, .y 28, .y 29, .y 30, .y 31, .y 32, .y 33, .y 34, .y 35, .y 36, .y 37, .y 38, .y 39, .y 40, .y 41, .y 42, .y 43, .y 44, .y 45, .y 46, .y 47, .y 48, .y 49, .y 50, .y 51, .y 52, .y 53, .y 54, .y 55, .y 56, .y 57, .y 58, .y 59, .y 60, .y 61, .y 62, .k, .k, .k, .k, .k, .k, .k, .k, .k, .k, .k, .k, .k, .k, .k, .k, .k] 5 6 7 0 (by decide +kernel) rfl (fun x5 x6 x7 _ wr => ∃ (k : Nat) (l : List Stp), k ≤ ns.length ∧ k ≤ 6 ∧ x7 = .int .i64 k ∧ l.length ≤ k ∧ x6 = .string (bs (askT l)) ∧ Hid (Short l) ∧ Hid (Below w.heap.size w wr) ∧ Hid (Own wr w.heap.size 30 4 x5 l.length (l.flatMap Stp.enc0))) (fun _ _ x7 _ _ => 6 - (intOf x7).toNat) _ _ _ _ rfl rfl rfl rfl
   case start => exact ⟨0, [], Nat.zero_le _, Nat.zero_le _, rfl, Nat.zero_le _, rfl, short_nil, Below.refl _ _, Own.nil _ _ _ _⟩
   case round =>
     -- a round: the names u5 u6 u7 _ (four), the world's name
     intro ff u5 u6 u7 _ wr hrel
     dsimp only [spread]
     obtain ⟨k, l, hk, hk6, rfl, hlk, rfl, HSH, HB, HO⟩ := hrel
     obtain ⟨wo, hwo⟩ : ∃ wo : World, wo = wr := ⟨_, rfl⟩
     subst hwo
     obtain ⟨A5, c5, rfl, hc5, _⟩ := HO.out.form
     have hlen := short_len HSH.out (by omega)
     by_cases hgo : k < ns.length ∧ k < 6
     · obtain ⟨hlt, h6⟩ := hgo
       have hlt' : (k : Int) < (ns.length : Int) := by omega
       have h6' : (k : Int) < 6 := by omega
       obtain ⟨d, hd⟩ : ∃ d, ns[k]? = some d := ⟨_, List.getElem?_eq_getElem hlt⟩
       obtain ⟨gb, o, rfl, hall⟩ := str_all HN.out (by omega)
       have HNC : Hid (∀ wx, Below w.heap.size w wx → wx.cell? ⟨gb, o + k, none⟩ = some (.string d)) := fun wx hbx => cell_below hbx (hall k d hd).2
       have hx := name_any d wo (hall k d hd).1
       have z0 := HNC.out wo HB.out
       clear hd hall hk
       generalize hne : nameE d = ne at *
       go_wp2_with fail
       refine hx.mono ?_
       clear hx z0
       rintro e w1 ⟨rfl, hb1⟩
       have HB1 := Lib.hid (HB.out.trans (hb1.mono HB.out.size))
       have HO1 := Lib.hid (HO.out.below hb1)
       clear hb1
       by_cases hz : ne = 0
       case neg =>
         rw [errV_some hz]
         clear hz hne
         go_wp2_with fail
         -- a round's end: the relation, the measure
         apply Rounded.at _ _ _ _ _ rfl rfl rfl rfl rfl rfl
         case rel => exact ⟨k + 1, l, by omega, by omega, by go_num, by omega, rfl, HSH, HB1, HO1⟩
         case measure => simp [intOf]; omega
       have HNE := Lib.hid (hne.trans hz)
       rw [errV_zero hz]
       clear hz hne HB HO
       have hds : d.size ≤ 8 := by have := name_len HNE.out; rw [Array.length_toList] at this; exact this
       have z0 := HNC.out w1 HB1.out
       have ha := (Below.refl w1.heap.size w1).alloc (Nat.le_refl _) (.cells #[.string ⟨#[]⟩, .bool false, .string d, .slice none 0 0] 30)
       have hbx := heap_alloc_new w1 (.cells #[.string ⟨#[]⟩, .bool false, .string d, .slice none 0 0] 30)
       go_upto_region 8 with fail
       clear z0
       generalize w1.alloc (.cells #[.string ⟨#[]⟩, .bool false, .string d, .slice none 0 0] 30) = w2 at *
       obtain ⟨q, hq⟩ : ∃ q, q = w1.heap.size := ⟨_, rfl⟩
       rw [← hq] at ha hbx ⊢
       have HQ := Lib.hid hq
       have HA := Lib.hid ha
       have HBX := Lib.hid hbx
       have HQL : Hid (w.heap.size ≤ q) := by unfold Hid; rw [hq]; exact HB1.out.size
       clear ha hbx hq
       go_upto_if 34 with fail
       -- a cut: the mask [.k, .k, .k, .k, .k, .k, .a, .k, .k, .k, .k, .k, .k, .k, .k, .k, .k, .k, .k, .k, .k, .k, .k, .k, .k, .k, .k, .k, .k, .k, .k, .k, .k, .k, .y 34, .y 35, .y 36, .y 37, .y 38, .y 39, .y 40, .y 41, .y 42, .y 43, .y 44, .y 45, .y 46, .y 47, .y 48, .y 49, .y 50, .y 51, .y 52, .k, .k, .k, .k, .k, .k, .k, .k, .k, .k, .k, .k, .k, .k, .k, .k, .k, .k, .k, .k, .k, .k, .k, .k, .k, .k, .k], the slots 6 0 0 0, the relation fun v _ _ _ wx => ∃ b : Bool, (l = [] → b = false) ∧ v = .string (bs (askT l ++ (if l = [] then [] else if b = true then [32, 60, 45, 112, 45, 32] else [32, 45, 112, 45, 62, 32]))) ∧ Hid (Below q w1 wx) ∧ Hid (wx.heap[q]? = some (.cells #[.string (if l = [] then .empty else ⟨#[112]⟩), .bool b, .string d, .slice none 0 0] 30 (0, 0)))
       apply wp_cutm [.k, .k, .k, .k, .k, .k, .a, .k, .k, .k, .k, .k, .k, .k, .k, .k, .k, .k, .k, .k, .k, .k, .k, .k, .k, .k, .k, .k, .k, .k, .k, .k, .k, .k, .y 34, .y 35, .y 36, .y 37, .y 38, .y 39, .y 40, .y 41, .y 42, .y 43, .y 44, .y 45, .y 46, .y 47, .y 48, .y 49, .y 50, .y 51, .y 52, .k, .k, .k, .k, .k, .k, .k, .k, .k, .k, .k, .k, .k, .k, .k, .k, .k, .k, .k, .k, .k, .k, .k, .k, .k, .k, .k] 6 0 0 0 (by decide +kernel) (fun v _ _ _ wx => ∃ b : Bool, (l = [] → b = false) ∧ v = .string (bs (askT l ++ (if l = [] then [] else if b = true then [32, 60, 45, 112, 45, 32] else [32, 45, 112, 45, 62, 32]))) ∧ Hid (Below q w1 wx) ∧ Hid (wx.heap[q]? = some (.cells #[.string (if l = [] then .empty else ⟨#[112]⟩), .bool b, .string d, .slice none 0 0] 30 (0, 0))))
       case first =>
         -- within a cut
         intro JJ KK hmeet hnext
         -- of what is to be done behind only the innermost is kept
         rename ∀ (a : Act) (w : World), Code.wp _ _ _ a w → _ => hkeep
         revert hkeep
         repeat (rename ∀ (a : Act) (w : World), Code.wp _ _ _ a w → _ => hz; clear hz)
         intro hkeep
         by_cases hl0 : l = []
         · have h0 : ¬ (0 : Int) < (l.length : Int) := by rw [hl0]; decide
           have E1 : Hid ((if l = [] then .empty else ⟨#[112]⟩ : ByteArray) = ⟨#[]⟩) := by unfold Hid; rw [if_pos hl0]; rfl
           have E2 : ∀ b : Bool, Hid ((if l = [] then [] else if b = true then [32, 60, 45, 112, 45, 32] else [32, 45, 112, 45, 62, 32] : List UInt8) = []) := fun b => if_pos hl0
           clear hl0
           go_wp2_with fail
           -- a way's end
           refine Met.intro ?_
           go_step
           refine Forgot.at _ _ _ _ _ rfl rfl rfl rfl rfl rfl ?_
           exact ⟨false, fun _ => rfl, by rw [(E2 false).out, List.append_nil], HA, by rw [E1.out]; exact HBX⟩
         · have h0 : (0 : Int) < (l.length : Int) := by have := List.length_pos_iff.2 hl0; omega
           have HL0 := Lib.hid hl0
           have E1 : Hid ((if l = [] then .empty else ⟨#[112]⟩ : ByteArray) = ⟨#[112]⟩) := if_neg hl0
           have E2 : Hid (∀ b : Bool, (if l = [] then [] else if b = true then [32, 60, 45, 112, 45, 32] else [32, 45, 112, 45, 62, 32] : List UInt8) = if b = true then [32, 60, 45, 112, 45, 32] else [32, 45, 112, 45, 62, 32]) := fun b => if_neg hl0
           have x0 := block_cell HBX.out 0
           have f0 := block_free HBX.out 0
           have HBX1 := Lib.hid (setCell_block HBX.out 0 (.string ⟨#[112]⟩))
           have hq1 : q ≤ w1.heap.size := Nat.le_of_eq HQ.out
           have HA1 := Lib.hid (HA.out.setCell (p := ⟨q, 0, none⟩) (Nat.le_refl _) (.string ⟨#[112]⟩))
           have hts : (bs (askT l)).size ≤ 84 := by rw [bs_size]; exact hlen
           clear hl0 HBX HA
           go_upto_region 10 with fail
           clear x0 f0
           generalize w2.setCell ⟨q, 0, none⟩ (.string ⟨#[112]⟩) = w4 at *
           have x1 := block_cell HBX1.out 1
           have f1 := block_free HBX1.out 1
           have HBW := Lib.hid (HB1.out.trans (HA1.out.mono HQL.out))
           -- a cut: the mask [.k, .k, .k, .k, .k, .k, .k, .k, .k, .k, .k, .k, .k, .k, .k, .k, .k, .k, .k, .k, .k, .k, .k, .k, .k, .k, .k, .k, .k, .k, .k, .k, .k, .k, .y 34, .k, .y 36, .y 37, .y 38, .y 39, .y 40, .y 41, .y 42, .y 43, .y 44, .y 45, .y 46, .k, .k, .k, .k, .k, .k, .k, .k, .k, .k, .k, .k, .k, .k, .k, .k, .k, .k, .k, .k, .k, .k, .k, .k, .k, .k, .k, .k, .k, .k, .k, .k, .k], the slots 0 0 0 0, the relation fun _ _ _ _ wx => ∃ b : Bool, Hid (Below q w1 wx) ∧ Hid (wx.heap[q]? = some (.cells #[.string ⟨#[112]⟩, .bool b, .string d, .slice none 0 0] 30 (0, 0)))
           apply wp_cutm [.k, .k, .k, .k, .k, .k, .k, .k, .k, .k, .k, .k, .k, .k, .k, .k, .k, .k, .k, .k, .k, .k, .k, .k, .k, .k, .k, .k, .k, .k, .k, .k, .k, .k, .y 34, .k, .y 36, .y 37, .y 38, .y 39, .y 40, .y 41, .y 42, .y 43, .y 44, .y 45, .y 46, .k, .k, .k, .k, .k, .k, .k, .k, .k, .k, .k, .k, .k, .k, .k, .k, .k, .k, .k, .k, .k, .k, .k, .k, .k, .k, .k, .k, .k, .k, .k, .k, .k] 0 0 0 0 (by decide +kernel) (fun _ _ _ _ wx => ∃ b : Bool, Hid (Below q w1 wx) ∧ Hid (wx.heap[q]? = some (.cells #[.string ⟨#[112]⟩, .bool b, .string d, .slice none 0 0] 30 (0, 0))))
           case first =>
             -- within a cut
             intro JJ KK hmeet hnext
             -- of what is to be done behind only the innermost is kept
             rename ∀ (a : Act) (w : World), Code.wp _ _ _ a w → _ => hkeep
             revert hkeep
             repeat (rename ∀ (a : Act) (w : World), Code.wp _ _ _ a w → _ => hz; clear hz)
             intro hkeep
             by_cases hkb : k < bk.length
             · obtain ⟨bb, hbb⟩ : ∃ x, bk[k]? = some x := ⟨_, List.getElem?_eq_getElem hkb⟩
               obtain ⟨g2, o2, rfl, hall2⟩ := (HBK.out.below HBW.out).all (by omega)
               obtain ⟨cs, ⟨rfl, _⟩, hx2⟩ := hall2 k bb hbb
               have z2 : w4.cell? ⟨g2, o2 + k, none⟩ = some (.bool bb) := by
                 have := hx2 0 _ rfl
                 rwa [show boolL.sz = 1 from rfl, Nat.mul_one] at this
               have hkb' : (k : Int) < (bk.length : Int) := by omega
               have HBX2 := Lib.hid (setCell_block HBX1.out 1 (.bool bb))
               have HA2 := Lib.hid (HA1.out.setCell (p := ⟨q, 1, none⟩) (Nat.le_refl _) (.bool bb))
               clear hall2 hx2 hbb hkb
               go_wp2_with fail
               -- a way's end
               refine Met.intro ?_
               go_step
               refine Forgot.at _ _ _ _ _ rfl rfl rfl rfl rfl rfl ?_
               exact ⟨bb, HA2, HBX2⟩
             · have hkb' : ¬ (k : Int) < (bk.length : Int) := by omega
               have HBX2 := Lib.hid (setCell_block HBX1.out 1 (.bool false))
               have HA2 := Lib.hid (HA1.out.setCell (p := ⟨q, 1, none⟩) (Nat.le_refl _) (.bool false))
               clear hkb
               go_wp2_with fail
               -- a way's end
               refine Met.intro ?_
               go_step
               refine Forgot.at _ _ _ _ _ rfl rfl rfl rfl rfl rfl ?_
               exact ⟨false, HA2, HBX2⟩
           case rest =>
           -- behind a cut: the names of the slots' values _ _ _ _ (four)
           intro ff _ _ _ _ wc hcut
           dsimp only [spread]
           obtain ⟨w5, hw5⟩ : ∃ y : World, y = wc := ⟨_, rfl⟩
           subst hw5
           clear x1 f1 HBX1 HA1 HBW
           obtain ⟨b, HA, HBX⟩ := hcut
           have x1 := block_cell HBX.out 1
           have HAP1 : Hid (bs (askT l) ++ ⟨#[32, 60, 45, 112, 45, 32]⟩ = bs (askT l ++ [32, 60, 45, 112, 45, 32])) := by
             unfold Hid; show bs _ ++ bs [32, 60, 45, 112, 45, 32] = _; rw [bs_append]
           have HAP2 : Hid (bs (askT l) ++ ⟨#[32, 45, 112, 45, 62, 32]⟩ = bs (askT l ++ [32, 45, 112, 45, 62, 32])) := by
             unfold Hid; show bs _ ++ bs [32, 45, 112, 45, 62, 32] = _; rw [bs_append]
           have c1 : ¬ 9223372036854775807 < (bs (askT l)).size + 6 := by omega
           cases b with
           | true =>
             go_wp2_with fail
             -- a way's end
             refine Met.intro ?_
             go_step
             refine Forgot.at _ _ _ _ _ rfl rfl rfl rfl rfl rfl ?_
             exact ⟨true, fun h => absurd h HL0.out, congrArg Value.string (HAP1.out.trans (by rw [if_neg HL0.out, if_pos rfl])), HA, by rw [E1.out]; exact HBX⟩
           | false =>
             go_wp2_with fail
             -- a way's end
             refine Met.intro ?_
             go_step
             refine Forgot.at _ _ _ _ _ rfl rfl rfl rfl rfl rfl ?_
             exact ⟨false, fun h => rfl, congrArg Value.string (HAP2.out.trans (by rw [if_neg HL0.out, if_neg (by decide)])), HA, by rw [E1.out]; exact HBX⟩
       case rest =>
       -- behind a cut: the names of the slots' values u6 _ _ _ (four)
       intro ff u6 _ _ _ wc hcut
       dsimp only [spread]
       obtain ⟨w3, hw3⟩ : ∃ y : World, y = wc := ⟨_, rfl⟩
       subst hw3
       obtain ⟨b, hb0, rfl, HB3, HBX3⟩ := hcut
       clear HBX HA
       have HB0 := Lib.hid hb0
       obtain ⟨bond, hbond⟩ : ∃ y : ByteArray, y = if l = [] then .empty else ⟨#[112]⟩ := ⟨_, rfl⟩
       rw [← hbond] at HBX3
       have H3 : Hid (l = [] → bond = .empty ∧ b = false) := fun h => ⟨by rw [hbond, if_pos h], hb0 h⟩
       have H4 : Hid (l ≠ [] → bond = ⟨#[112]⟩) := fun h => by rw [hbond, if_neg h]
       obtain ⟨sp, hsp⟩ : ∃ y : List UInt8, y = if l = [] then [] else if b = true then [32, 60, 45, 112, 45, 32] else [32, 45, 112, 45, 62, 32] := ⟨_, rfl⟩
       have HTXT : Hid (bs (askT (l ++ [Stp.mk bond b d []])) = bs (askT l ++ sp) ++ d) := by
         unfold Hid
         rw [short_text (x := Stp.mk bond b d []) rfl H3.out H4.out, ← List.append_assoc, ← bs_append, bs_of, hsp]
       have HSP : Hid (sp.length ≤ 6) := by unfold Hid; rw [hsp]; split; (· exact Nat.zero_le _); split <;> decide
       have HSH2 : Hid (Short (l ++ [Stp.mk bond b d []])) := short_snoc HSH.out HNE.out rfl H3.out H4.out
       rw [← hsp]
       clear hb0 hbond hsp
       have hw1 : w1.heap.size ≤ w3.heap.size := HB3.out.size
       have HB4 := Lib.hid (HB1.out.trans (HB3.out.mono HQL.out))
       have hO3 := HO1.out.below (HB3.out.mono (Nat.le_of_eq HQ.out.symm))
       have x0 := block_cell HBX3.out 0
       have x1 := block_cell HBX3.out 1
       have x2 := block_cell HBX3.out 2
       have x3 := block_cell HBX3.out 3
       have hah : Below w3.heap.size w3 (w3.alloc (.cells #[.string bond, .bool b, .string d, .slice none 0 0] 30)) := (Below.refl _ _).alloc (Nat.le_refl _) _
       have HRA := Lib.hid (hO3.below hah)
       have HNW := Lib.hid (four_new0 w3 (.string bond) (.bool b) (.string d) (.slice none 0 0) 30)
       have HBA := Lib.hid (HB4.out.trans (hah.mono HB4.out.size))
       have hts : (bs (askT l ++ sp)).size ≤ 90 := by rw [bs_size, List.length_append]; have := HSP.out; omega
       clear hO3 hah
       go_wp2_with (first
         | (at_builtin
            refine wpList_append_q _ rfl (.tmp 53) (.tmp 55) _ rfl w.heap.size 30 i0 (.agg #[.string .empty, .bool false, .string .empty, .slice none 0 0]) 4 64 Tryd.underlying24 ei ez ez1 ez2 rfl (by decide) (.slice A5 l.length c5) l.length (l.flatMap Stp.enc0) rfl HRA.out (some ⟨w3.heap.size, 0, none⟩) 1 1 [.string bond, .bool b, .string d, .slice none 0 0] rfl rfl (fun _ => ⟨_, rfl, fun j u' hj => by rw [addr_add, Nat.zero_add]; exact HNW.out j u' hj⟩) (fun u' hu => by simp at hu; rcases hu with rfl | rfl | rfl | rfl <;> rfl) (by go_light; unfold maxLen; omega) (by go_light; omega) HBA.out.size ?_
            intro v7 w7 hown7 hg7 hat7
            have HB7 := Lib.hid (HBA.out.grown hg7 HBA.out.size (fun kk e => (HRA.out.lt kk e).1))
            have HO7 : Hid (Own w7 w.heap.size 30 4 v7 (l ++ [Stp.mk bond b d []]).length ((l ++ [Stp.mk bond b d []]).flatMap Stp.enc0)) := by
              unfold Hid; rw [← flat_snoc, List.length_append]; exact hown7
            have z0 := HNC.out w7 HB7.out
            have c1 : ¬ 9223372036854775807 < (bs (askT l ++ sp)).size + d.size := by omega
            clear hown7 hg7 hat7 x0 x1 x2 x3))
       go_wp2_with fail
       -- a round's end: the relation, the measure
       apply Rounded.at _ _ _ _ _ rfl rfl rfl rfl rfl rfl
       case rel => exact ⟨k + 1, l ++ [Stp.mk bond b d []], by omega, by omega, by go_num, by rw [List.length_append]; exact Nat.add_le_add_right hlk 1, by rw [HTXT.out], HSH2, HB7, HO7⟩
       case measure => simp [intOf]; omega
     · by_cases h1 : k < ns.length
       · have h1' : (k : Int) < (ns.length : Int) := by omega
         have h6' : ¬ (k : Int) < 6 := by omega
         clear h1 hgo
         go_wp2_with fail
         -- a way's end
         refine Met.intro ?_
         go_step
         refine Forgot.at _ _ _ _ _ rfl rfl rfl rfl rfl rfl ?_
         exact ⟨l, by omega, rfl, HSH, HB, HO⟩
       · have h1' : ¬ (k : Int) < (ns.length : Int) := by omega
         clear h1 hgo
         go_wp2_with fail
         -- a way's end
         refine Met.intro ?_
         go_step
         refine Forgot.at _ _ _ _ _ rfl rfl rfl rfl rfl rfl ?_
         exact ⟨l, by omega, rfl, HSH, HB, HO⟩
  case rest =>
  -- behind a cut: the names of the slots' values u5 u6 _ _ (four)
  intro ff u5 u6 _ _ wc hcut
  dsimp only [spread]
  obtain ⟨wo, hwo⟩ : ∃ y : World, y = wc := ⟨_, rfl⟩
  subst hwo
  obtain ⟨l, hl6, rfl, HSH, HB, HO⟩ := hcut
  have hSL := HO.out.stps0 (short_sm HSH.out)
  obtain ⟨A5, c5, rfl, _, hc5⟩ := hSL.form
  unfold maxLen at hc5
  have hx := aprint_any l (.slice A5 l.length c5) wo (HT.out.below HB.out) (HS.out.below HB.out) hSL
  by_cases h0 : l = []
  · have h0b : ((l.length : Int) == 0) = true := by rw [h0]; rfl
    have hE : askE l = 5 := by rw [h0]; rfl
    rw [hE] at hx
    have HER := Lib.hid (errV_some (show (5 : Int) ≠ 0 by decide))
    rw [if_neg (by decide)] at hx
    clear h0 hSL hE
    go_wp2_with fail
    refine hx.mono ?_
    clear hx
    rintro e w6 ⟨rfl, hb6⟩
    have HB6 := Lib.hid (HB.out.trans (hb6.mono HB.out.size))
    have hx := same_any 5 5 w6 (HG.out.below HB6.out)
    rw [show ((5 : Int) == 5) = true from rfl] at hx
    go_wp2_with fail
    refine hx.mono ?_
    clear hx
    rintro e w7 ⟨rfl, hb7⟩
    go_wp2_with fail
    go_ret
    exact ⟨rfl, HB6.out.trans (hb7.mono HB6.out.size)⟩
  · have h0b : ((l.length : Int) == 0) = false := by
      rw [beq_eq_false_iff_ne]
      intro e
      exact h0 (List.length_eq_zero_iff.1 (by omega))
    have hE := short_right HSH.out hl6 h0
    rw [hE, if_pos rfl, errV_zero rfl] at hx
    have hbq : ((bs (askT l)).toList == (bs (askT l)).toList) = true := beq_self_eq_true _
    generalize bs (askT l) = T at *
    clear h0 hSL hE
    go_wp2_with fail
    refine hx.mono ?_
    clear hx
    rintro e w6 ⟨rfl, hb6⟩
    go_wp2_with fail
    go_ret
    exact ⟨rfl, HB.out.trans (hb6.mono HB.out.size)⟩
end Go.Proofs.YtakidgndipnciaaDoor
