/- Contract: the law GraphEnds answers true. -/
import Derived.Test.YtldonhgcifhpgaaEndB
import Derived.Test.YtldonhgcifhpgaaInI
import Derived.Deep.RegionHeld3
namespace Go.Proofs.Ytldonhgcifhpgaa
open Go Go.RowKit

def bA : ByteArray := ⟨#[97]⟩
def bP : ByteArray := ⟨#[112]⟩
def oneG : Grf := ⟨[⟨1, bA, []⟩, ⟨2, bA, []⟩], [⟨bP, 1, 2⟩]⟩
theorem oneG_node : nodeE oneG 2 = 0 := by decide +kernel
theorem oneG_ends : endsR oneG 2 bP true = [1] := by
  unfold endsR
  rw [if_pos oneG_node]
  unfold endsS
  rw [show endsL oneG.ties 2 bP true = [1] by decide +kernel]
  simp [sortI]
theorem oneG_nods {W : World} {b : Nat} {fr : Nat × Nat} (g0 : W.heap[b]? = some (.cells #[.int .i64 1, .string ⟨#[97]⟩, .slice none 0 0, .int .i64 2, .string ⟨#[97]⟩, .slice none 0 0] 72 fr)) : Sl nodL W (.slice (some ⟨b, 0, none⟩) 2 2) oneG.nodes := by
  refine ⟨_, 2, rfl, Nat.le_refl _, by unfold maxLen; omega, fun i d hi => ?_⟩
  have hI1 : I64 1 := ⟨by omega, by omega⟩
  have hI2 : I64 2 := ⟨by omega, by omega⟩
  have hS : Sm bA := by unfold Sm; show 1 ≤ 1048576; omega
  match i, hi with
  | 0, hi =>
    injection hi with hi; subst hi
    refine ⟨_, _, [.int .i64 1, .string bA, .slice none 0 0], rfl, ⟨_, rfl, hI1, hS, Sl.nil 0 (Nat.zero_le _) none⟩, fun j u hj => ?_⟩
    match j, hj with
    | 0, hj => injection hj with hj; subst hj; exact cell_of_row W b 0 _ _ _ g0
    | 1, hj => injection hj with hj; subst hj; exact cell_of_row W b 1 _ _ _ g0
    | 2, hj => injection hj with hj; subst hj; exact cell_of_row W b 2 _ _ _ g0
  | 1, hi =>
    injection hi with hi; subst hi
    refine ⟨_, _, [.int .i64 2, .string bA, .slice none 0 0], rfl, ⟨_, rfl, hI2, hS, Sl.nil 0 (Nat.zero_le _) none⟩, fun j u hj => ?_⟩
    match j, hj with
    | 0, hj => injection hj with hj; subst hj; exact cell_of_row W b 3 _ _ _ g0
    | 1, hj => injection hj with hj; subst hj; exact cell_of_row W b 4 _ _ _ g0
    | 2, hj => injection hj with hj; subst hj; exact cell_of_row W b 5 _ _ _ g0
theorem oneG_ties {W : World} {b : Nat} {fr : Nat × Nat} (g0 : W.heap[b]? = some (.cells #[.string ⟨#[112]⟩, .int .i64 1, .int .i64 2] 74 fr)) : Sl tieL W (.slice (some ⟨b, 0, none⟩) 1 1) oneG.ties :=
  sl_block (ok := Tie.ok) Tie.enc_len oneG.ties (fun x hx => by
    simp [oneG] at hx
    subst hx
    exact ⟨by unfold Sm; show 1 ≤ 1048576; omega, ⟨by show _ ≤ (1 : Int); omega, by show (1 : Int) ≤ _; omega⟩, ⟨by show _ ≤ (2 : Int); omega, by show (2 : Int) ≤ _; omega⟩⟩) 1 (Nat.le_refl _) (by unfold maxLen; omega) g0
def nnI (g : Grf) (x : Int) : Bool := !(idsN g.nodes).contains x
theorem nodeE_nn {g : Grf} (h : grfE g = 0) (x : Int) : nodeE g x = if nnI g x then 5 else 0 := by
  unfold nodeE nnI
  rw [if_pos h, ids_has (grf_ok h).2.2.1]
  cases hc : (idsN g.nodes).contains x with
  | true => simp [List.contains_iff_mem.1 hc]
  | false =>
    have : x ∉ idsN g.nodes := fun hm => by rw [List.contains_iff_mem.2 hm] at hc; cases hc
    simp [this]
theorem countP_snoc {l : List Int} {j : Nat} {x : Int} (hx : l[j]? = some x) (f : Int → Bool) : (l.take (j + 1)).countP f = (l.take j).countP f + (if f x then 1 else 0) := by
  rw [List.take_add_one, hx, List.countP_append]
  simp [List.countP_cons]
theorem endsS_has {g : Grf} {id x : Int} {bond : ByteArray} {back : Bool} (hx : x ∈ endsS g id bond back) : ((endsS g x bond (!back)).any fun y => y == id) = true := by
  have h1 := (sortI_perm _).mem_iff.1 hx
  have h2 := endsL_mem h1
  exact List.any_eq_true.2 ⟨id, (sortI_perm _).mem_iff.2 h2, by simp⟩
theorem endsS_cnt (g : Grf) (id : Int) (bond : ByteArray) (back : Bool) (f : Int → Bool) : (endsS g id bond back).countP f = (endsL g.ties id bond back).countP f := (sortI_perm _).countP_eq f
theorem endsS_len (g : Grf) (id : Int) (bond : ByteArray) (back : Bool) : (endsS g id bond back).length = (endsL g.ties id bond back).countP (fun _ => true) ∧ (endsS g id bond back).length ≤ g.ties.length := by
  unfold endsS
  rw [sortI_len]
  refine ⟨by simp, endsL_len _ _ _ _⟩
set_option maxRecDepth 100000 in
set_option maxHeartbeats 16000000 in
theorem graphEnds_any (g : Grf) (bond : ByteArray) (vn vt : Value) (w : World) (hG : GrfR w vn vt g) (_hs : Sm bond) :
    Calls Try.prog 6 #[.agg #[vn, vt], .string bond] w fun e w' => e = .returned (.bool true) ∧ Below w.heap.size w w' := by
  obtain ⟨An, cn, rfl, _, _⟩ := hG.1.form
  obtain ⟨At, ct, rfl, _, _⟩ := hG.2.form
  have hb0 : Below w.heap.size w (w.alloc (.cells #[.slice An g.nodes.length cn, .slice At g.ties.length ct] 70)) := (Below.refl _ _).alloc (Nat.le_refl _) _
  obtain ⟨x0, x1⟩ := cell_box2 w (.slice An g.nodes.length cn) (.slice At g.ties.length ct) 70
  generalize hW0 : w.alloc (.cells #[.slice An g.nodes.length cn, .slice At g.ties.length ct] 70) = W0 at *
  have HG := Lib.hid (hG.below hb0)
  have hw0 := hb0.size
  clear hG
  go_enter Try.func6, Try.ntmps6
  go_upto_region 2 with fail
  clear hW0
  obtain ⟨W3, hW3⟩ : ∃ W3, W3 = ((W0.alloc (.cells #[.int .i64 1, .string ⟨#[97]⟩, .slice none 0 0, .int .i64 2, .string ⟨#[97]⟩, .slice none 0 0] 72)).alloc (.cells #[.string ⟨#[112]⟩, .int .i64 1, .int .i64 2] 74)).alloc (.cells #[.slice (some ⟨W0.heap.size, 0, none⟩) 2 2, .slice (some ⟨W0.heap.size + 1, 0, none⟩) 1 1] 70) := ⟨_, rfl⟩
  have hb3 : Below W0.heap.size W0 W3 := by rw [hW3]; exact (((Below.refl _ _).alloc (Nat.le_refl _) _).alloc (by simp) _).alloc (by simp; omega) _
  have g0 : W3.heap[W0.heap.size]? = some (.cells #[.int .i64 1, .string ⟨#[97]⟩, .slice none 0 0, .int .i64 2, .string ⟨#[97]⟩, .slice none 0 0] 72 (0, 0)) := by
    rw [hW3, Below.heap_alloc _ _ _ (by simp; omega), Below.heap_alloc _ _ _ (by simp)]; exact heap_alloc_new _ _
  have g1 : W3.heap[W0.heap.size + 1]? = some (.cells #[.string ⟨#[112]⟩, .int .i64 1, .int .i64 2] 74 (0, 0)) := by
    rw [hW3, Below.heap_alloc _ _ _ (by simp)]
    have := heap_alloc_new (W0.alloc (.cells #[.int .i64 1, .string ⟨#[97]⟩, .slice none 0 0, .int .i64 2, .string ⟨#[97]⟩, .slice none 0 0] 72)) (.cells #[.string ⟨#[112]⟩, .int .i64 1, .int .i64 2] 74); simpa using this
  have g2 : W3.heap[W0.heap.size + 1 + 1]? = some (.cells #[.slice (some ⟨W0.heap.size, 0, none⟩) 2 2, .slice (some ⟨W0.heap.size + 1, 0, none⟩) 1 1] 70 (0, 0)) := by
    have := heap_alloc_new ((W0.alloc (.cells #[.int .i64 1, .string ⟨#[97]⟩, .slice none 0 0, .int .i64 2, .string ⟨#[97]⟩, .slice none 0 0] 72)).alloc (.cells #[.string ⟨#[112]⟩, .int .i64 1, .int .i64 2] 74)) (.cells #[.slice (some ⟨W0.heap.size, 0, none⟩) 2 2, .slice (some ⟨W0.heap.size + 1, 0, none⟩) 1 1] 70); rw [hW3]; simpa using this
  have p0 := block_cell g2 0
  have p1 := block_cell g2 1
  have hfact := gin_any oneG 2 bP _ _ W3 ⟨oneG_nods g0, oneG_ties g1⟩
  rw [oneG_node, oneG_ends] at hfact
  unfold RetE at hfact
  rw [errV_zero rfl] at hfact
  unfold bP at hfact
  rw [← hW3]
  clear hW3 g0 g1 g2
  go_wp2_with fail
  refine hfact.mono ?_
  clear hfact
  rintro e w1 ⟨u, rfl, hu, hb1⟩
  obtain ⟨A1, n1, hv1, _, _⟩ := hu.form
  have hv1 : u = .slice A1 1 n1 := hv1
  subst hv1
  obtain ⟨b1, o1, rfl, _, c0⟩ := int_at hu (k := 0) (d := 1) rfl
  have hb1' := hb3.trans (hb1.mono hb3.size)
  have y0 := cell_below hb1' x0
  have y1 := cell_below hb1' x1
  have HB1 := Lib.hid (hb0.trans (hb1'.mono hw0))
  have hck := grfCheck_any g _ _ w1 (HG.out.below hb1')
  have HG1 := Lib.hid (HG.out.below hb1')
  rw [Nat.add_zero] at c0
  clear x0 x1 p0 p1 hb1 hb1' hb3 hu HG
  go_wp2_with fail
  refine hck.mono ?_
  clear hck
  rintro e w2 ⟨rfl, hb2⟩
  have x0 := cell_below hb2 y0
  have x1 := cell_below hb2 y1
  have HB2 := Lib.hid (HB1.out.trans (hb2.mono HB1.out.size))
  have HG2 := Lib.hid (HG1.out.below hb2)
  clear y0 y1 hb2 HB1 HG1 hb0 hw0 c0
  by_cases hE : grfE g = 0
  case neg =>
    rw [errV_some hE]
    generalize grfE g = z at *
    go_wp2_with fail
    go_ret
    exact ⟨rfl, HB2.out⟩
  rw [errV_zero hE]
  have HE := Lib.hid hE
  obtain ⟨hln, hlt, hch, _⟩ := grf_ok hE
  have HCH := Lib.hid hch
  clear hE hch
  have HI : Hid (∀ k, cntT g.ties bond false ((idsN g.nodes).take k) (fun _ => true) ≤ 120 ∧ cntT g.ties bond true ((idsN g.nodes).take k) (fun _ => true) ≤ 120 ∧ cntT g.ties bond false ((idsN g.nodes).take k) (nnI g) ≤ 120 ∧ cntT g.ties bond true ((idsN g.nodes).take k) (nnI g) ≤ 120) := fun k =>
    ⟨Nat.le_trans (cntT_le _ _ _ _ _) hlt, Nat.le_trans (cntT_le _ _ _ _ _) hlt, Nat.le_trans (cntT_le _ _ _ _ _) hlt, Nat.le_trans (cntT_le _ _ _ _ _) hlt⟩
  go_wp2_with fail
  go_loopw [8, 9, 10, 11] (fun vo vi vl i wr => ∃ k : Nat, k ≤ g.nodes.length ∧ i = .int .i64 k ∧ vo = .int .i64 (cntT g.ties bond false ((idsN g.nodes).take k) (fun _ => true) : Nat) ∧ vi = .int .i64 (cntT g.ties bond true ((idsN g.nodes).take k) (fun _ => true) : Nat) ∧
    vl = .int .i64 ((cntT g.ties bond false ((idsN g.nodes).take k) (nnI g) : Int) - (cntT g.ties bond true ((idsN g.nodes).take k) (nnI g) : Nat)) ∧ Below w2.heap.size w2 wr) (fun _ _ _ i _ => g.nodes.length - (intOf i).toNat)
  case atStart => exact ⟨0, Nat.zero_le _, rfl, by rw [List.take_zero, cntT_nil]; rfl, by rw [List.take_zero, cntT_nil]; rfl, by rw [List.take_zero, cntT_nil, cntT_nil]; rfl, Below.refl _ _⟩
  case round =>
    obtain ⟨k, hk, rfl, rfl, rfl, rfl, hbr⟩ := hrel
    have y0 := cell_below hbr x0
    have y1 := cell_below hbr x1
    have hBr := HB2.out.trans (hbr.mono HB2.out.size)
    by_cases hltk : k < g.nodes.length
    · obtain ⟨n, hn⟩ : ∃ n, g.nodes[k]? = some n := ⟨_, List.getElem?_eq_getElem hltk⟩
      have hltk' : (k : Int) < (g.nodes.length : Int) := by omega
      obtain ⟨b, o, rfl, un, _, _, _, yk, _, _⟩ := nod_at (HG2.out.below hbr).1 hn
      have hmem : n.id ∈ idsN g.nodes := List.mem_map.2 ⟨n, List.mem_of_getElem? hn, rfl⟩
      have h0 : nodeE g n.id = 0 := by rw [nodeE_nn HE.out]; unfold nnI; rw [List.contains_iff_mem.2 hmem]; rfl
      have HST : Hid (∀ f, cntT g.ties bond false ((idsN g.nodes).take (k + 1)) f = cntT g.ties bond false ((idsN g.nodes).take k) f + (endsS g n.id bond false).countP f ∧ cntT g.ties bond true ((idsN g.nodes).take (k + 1)) f = cntT g.ties bond true ((idsN g.nodes).take k) f + (endsS g n.id bond true).countP f) := fun f => by
        rw [take_snoc_ids hn, cntT_step _ _ _ _ _ _ (ids_nodup HCH.out hn), cntT_step _ _ _ _ _ _ (ids_nodup HCH.out hn), endsS_cnt, endsS_cnt]
        exact ⟨rfl, rfl⟩
      obtain ⟨i1, i2, i3, i4⟩ := HI.out k
      obtain ⟨l1, l2⟩ := endsS_len g n.id bond false
      obtain ⟨l3, l4⟩ := endsS_len g n.id bond true
      have HTO : Hid (cntT g.ties bond false ((idsN g.nodes).take (k + 1)) (fun _ => true) = cntT g.ties bond false ((idsN g.nodes).take k) (fun _ => true) + (endsS g n.id bond false).length) := by unfold Hid; rw [(HST.out _).1, endsS_cnt, l1]
      have HTI : Hid (cntT g.ties bond true ((idsN g.nodes).take (k + 1)) (fun _ => true) = cntT g.ties bond true ((idsN g.nodes).take k) (fun _ => true) + (endsS g n.id bond true).length) := by unfold Hid; rw [(HST.out _).2, endsS_cnt, l3]
      have HNF : Hid (cntT g.ties bond false ((idsN g.nodes).take (k + 1)) (nnI g) = cntT g.ties bond false ((idsN g.nodes).take k) (nnI g) + (endsS g n.id bond false).countP (nnI g)) := (HST.out _).1
      have HNT : Hid (cntT g.ties bond true ((idsN g.nodes).take (k + 1)) (nnI g) = cntT g.ties bond true ((idsN g.nodes).take k) (nnI g) + (endsS g n.id bond true).countP (nnI g)) := (HST.out _).2
      have HXH : Hid (∀ x ∈ endsS g n.id bond false, ((endsS g x bond true).any fun y => y == n.id) = true) := fun x hx => endsS_has hx
      have HYH : Hid (∀ x ∈ endsS g n.id bond true, ((endsS g x bond false).any fun y => y == n.id) = true) := fun x hx => endsS_has hx
      have hout := gout_any g n.id bond _ _ wr.drew ((HG2.out.below hbr).below (Below.refl _ _).drew)
      have hin := fun W (hW : Below wr.heap.size wr W) => gin_any g n.id bond _ _ W ((HG2.out.below hbr).below hW)
      have hrf : endsR g n.id bond false = endsS g n.id bond false := by unfold endsR; rw [if_pos h0]
      have hrt : endsR g n.id bond true = endsS g n.id bond true := by unfold endsR; rw [if_pos h0]
      rw [h0, hrf] at hout
      rw [h0, hrt] at hin
      unfold RetE at hout hin
      rw [errV_zero rfl] at hout hin
      clear h0 hrf hrt HST hmem l1 l3
      generalize endsS g n.id bond false = xs at *
      generalize endsS g n.id bond true = ys at *
      generalize cntT g.ties bond false ((idsN g.nodes).take k) (fun _ => true) = O at *
      generalize cntT g.ties bond true ((idsN g.nodes).take k) (fun _ => true) = N at *
      generalize cntT g.ties bond false ((idsN g.nodes).take k) (nnI g) = LF at *
      generalize cntT g.ties bond true ((idsN g.nodes).take k) (nnI g) = LT at *
      have hbd : Below wr.heap.size wr wr.drew := (Below.refl _ _).drew
      have wO : IntKind.i64.wrap ((O : Int) + (xs.length : Int)) = ((O + xs.length : Nat) : Int) := by rw [IntWalk.i64_in _ (by omega)]; omega
      have wI : IntKind.i64.wrap ((N : Int) + (ys.length : Int)) = ((N + ys.length : Nat) : Int) := by rw [IntWalk.i64_in _ (by omega)]; omega
      obtain ⟨L, hL⟩ : ∃ L : Int, L = (LF : Int) - (LT : Int) := ⟨_, rfl⟩
      have hL1 : L ≤ 120 := by omega
      have hL2 : -120 ≤ L := by omega
      have HLL := Lib.hid hL
      rw [← hL]
      clear hL i1 i2 i3 i4 hn
      go_wp2_with fail
      have hkeep := And.intro (cell_below hbd y0) (And.intro (cell_below hbd y1) (cell_below hbd yk))
      go_region_held3 (fun w' => w'.cell? ⟨w.heap.size, 0, none⟩ = some (.slice (some ⟨b, o, none⟩) g.nodes.length cn) ∧ w'.cell? ⟨w.heap.size, 1, none⟩ = some (.slice At g.ties.length ct) ∧ w'.cell? ⟨b, o + k * 3, none⟩ = some (.int .i64 n.id))
        (first
          | exact hkeep
          | go_keep)
        (first
          | (go_at_call 22
             refine hout.mono ?_
             rintro e w3 ⟨u3, rfl, hu3, hb3⟩
             obtain ⟨A3, c3, rfl, _, _⟩ := hu3.form
             have hb3' := hbd.trans (hb3.mono hbd.size)
             have hkeep := And.intro (cell_below hb3' y0) (And.intro (cell_below hb3' y1) (cell_below hb3' yk))))
      have hb3d : Below w3.heap.size w3 w3.drew := (Below.refl _ _).drew
      have hb3e := hb3'.trans (hb3d.mono hb3'.size)
      have q0 := cell_below hb3' y0
      have q1 := cell_below hb3' y1
      have qk := cell_below hb3' yk
      have hin := hin _ hb3e
      clear hout hb3 y0 y1 yk hkeep
      go_wp2_with fail
      have hkeep := And.intro (cell_below hb3d q0) (And.intro (cell_below hb3d q1) (cell_below hb3d qk))
      go_region_held3 (fun w' => w'.cell? ⟨w.heap.size, 0, none⟩ = some (.slice (some ⟨b, o, none⟩) g.nodes.length cn) ∧ w'.cell? ⟨w.heap.size, 1, none⟩ = some (.slice At g.ties.length ct) ∧ w'.cell? ⟨b, o + k * 3, none⟩ = some (.int .i64 n.id))
        (first
          | exact hkeep
          | go_keep)
        (first
          | (go_at_call 20
             refine hin.mono ?_
             rintro e w4 ⟨u4, rfl, hu4, hb4⟩
             obtain ⟨A4, c4, rfl, _, _⟩ := hu4.form
             have hb4' := hb3d.trans (hb4.mono hb3d.size)
             have hkeep := And.intro (cell_below hb4' q0) (And.intro (cell_below hb4' q1) (cell_below hb4' qk))))
      have z0 := cell_below hb4' q0
      have z1 := cell_below hb4' q1
      have zk := cell_below hb4' qk
      have HX := Lib.hid (hu3.below hb4')
      have HY := Lib.hid hu4
      have hB4 := hbr.trans ((hb3'.trans (hb4'.mono hb3'.size)).mono hbr.size)
      have HB4 := Lib.hid (HB2.out.trans (hB4.mono HB2.out.size))
      have HG4 := Lib.hid (HG2.out.below hB4)
      have HBW := Lib.hid hB4
      clear hin hb3' hb4 hb4' hb3d hb3e q0 q1 qk hkeep hu3 hu4 hBr hbr hB4 hbd x0 x1
      go_wp2_with fail
      go_loopw [10, 16] (fun vl jv wr => ∃ j : Nat, j ≤ xs.length ∧ jv = .int .i64 j ∧ vl = .int .i64 (L + ((xs.take j).countP (nnI g) : Nat)) ∧ Below w4.heap.size w4 wr) (fun _ jv _ => xs.length - (intOf jv).toNat)
      case atStart => exact ⟨0, Nat.zero_le _, rfl, by simp, Below.refl _ _⟩
      case round =>
        -- xs: x; gin_any: the call's contract; graph.In: the call; true: back of the call; +: sign; L: what was lost ahead; HX: HX; HXH: HH
        obtain ⟨j, hj, rfl, rfl, hbr⟩ := hrel
        have y0 := cell_below hbr z0
        have y1 := cell_below hbr z1
        have yk := cell_below hbr zk
        have hBr := HB4.out.trans (hbr.mono HB4.out.size)
        by_cases hltj : j < xs.length
        · obtain ⟨e0, he0⟩ : ∃ e0, xs[j]? = some e0 := ⟨_, List.getElem?_eq_getElem hltj⟩
          have hltj' : (j : Int) < (xs.length : Int) := by omega
          have hcl : (xs.take j).countP (nnI g) ≤ 120 := by
            have h1 : (xs.take j).countP (nnI g) ≤ (xs.take j).length := List.countP_le_length
            rw [List.length_take] at h1
            omega
          have HST := Lib.hid (countP_snoc he0 (nnI g))
          obtain ⟨bx, ox, rfl, _, yx⟩ := int_at (HX.out.below hbr) he0
          have HM : Hid ((endsS g e0 bond true).any (fun y => y == n.id) = true) := HXH.out e0 (List.mem_of_getElem? he0)
          have hin := gin_any g e0 bond _ _ wr.drew ((HG4.out.below hbr).below (Below.refl _ _).drew)
          have hbd : Below wr.heap.size wr wr.drew := (Below.refl _ _).drew
          generalize (xs.take j).countP (nnI g) = c at *
          have hcl' : (c : Int) ≤ 120 := by omega
          have hw1 : IntKind.i64.wrap (L + (c : Int) + 1) = L + (c : Int) + 1 := IntWalk.i64_in _ (by omega)
          clear he0 hcl
          cases hnn : nnI g e0 with
          | false =>
            have h0 : nodeE g e0 = 0 := by rw [nodeE_nn HE.out, hnn]; rfl
            have h1 : endsR g e0 bond true = endsS g e0 bond true := by unfold endsR; rw [if_pos h0]
            rw [h0, h1] at hin
            unfold RetE at hin
            rw [errV_zero rfl] at hin
            have HST2 : Hid ((xs.take (j + 1)).countP (nnI g) = c) := by unfold Hid; rw [HST.out, hnn]; rfl
            generalize endsS g e0 bond true = bl at *
            clear hnn h0 h1 HST
            go_wp2_with fail
            have hkeep := And.intro (cell_below hbd y0) (And.intro (cell_below hbd y1) (cell_below hbd yx))
            go_region_held3 (fun w' => w'.cell? ⟨w.heap.size, 0, none⟩ = some (.slice (some ⟨b, o, none⟩) g.nodes.length cn) ∧ w'.cell? ⟨w.heap.size, 1, none⟩ = some (.slice At g.ties.length ct) ∧ w'.cell? ⟨bx, ox + j, none⟩ = some (.int .i64 e0))
              (first
                | exact hkeep
                | go_keep)
              (first
                | (go_at_call 20
                   refine hin.mono ?_
                   rintro e w5 ⟨u5, rfl, hu5, hb5⟩
                   obtain ⟨A5, c5, rfl, _, _⟩ := hu5.form
                   have hb5' := hbd.trans (hb5.mono hbd.size)
                   have hkeep := And.intro (cell_below hb5' y0) (And.intro (cell_below hb5' y1) (cell_below hb5' yx))))
            have q0 := cell_below hb5' y0
            have qk := cell_below hb5' yk
            have hhas := in2_any bl n.id _ w5 hu5
            rw [HM.out] at hhas
            have hB5 := hbr.trans (hb5'.mono hbr.size)
            clear hu5 hb5 hkeep y0 y1 yk yx hbr
            go_wp2_with fail
            refine hhas.mono ?_
            clear hhas
            rintro e w6 ⟨rfl, rfl⟩
            go_wp2_with fail
            go_roundw
            case rel => exact ⟨j + 1, by omega, by go_num, by rw [HST2.out], hB5⟩
            case measure => simp [intOf]; omega
          | true =>
            have h0 : nodeE g e0 = 5 := by rw [nodeE_nn HE.out, hnn]; rfl
            have h1 : endsR g e0 bond true = [] := by unfold endsR; rw [if_neg (by omega)]
            rw [h0, h1] at hin
            unfold RetE at hin
            rw [errV_some (by omega)] at hin
            have HST2 : Hid ((xs.take (j + 1)).countP (nnI g) = c + 1) := by unfold Hid; rw [HST.out, hnn]; rfl
            clear hnn h0 h1 HST HM
            go_wp2_with fail
            have hkeep := And.intro (cell_below hbd y0) (And.intro (cell_below hbd y1) (cell_below hbd yx))
            go_region_held3 (fun w' => w'.cell? ⟨w.heap.size, 0, none⟩ = some (.slice (some ⟨b, o, none⟩) g.nodes.length cn) ∧ w'.cell? ⟨w.heap.size, 1, none⟩ = some (.slice At g.ties.length ct) ∧ w'.cell? ⟨bx, ox + j, none⟩ = some (.int .i64 e0))
              (first
                | exact hkeep
                | go_keep)
              (first
                | (go_at_call 20
                   refine hin.mono ?_
                   rintro e w5 ⟨u5, rfl, hu5, hb5⟩
                   obtain ⟨A5, c5, hv5, _, _⟩ := hu5.form
                   have hv5 : u5 = .slice A5 0 c5 := hv5
                   subst hv5
                   have hb5' := hbd.trans (hb5.mono hbd.size)
                   have hkeep := And.intro (cell_below hb5' y0) (And.intro (cell_below hb5' y1) (cell_below hb5' yx))))
            have q0 := cell_below hb5' y0
            have qk := cell_below hb5' yk
            have hhas := in2_any [] n.id _ w5 hu5
            have hhas : Calls Try.prog 23 #[.slice A5 0 c5, .int .i64 n.id] w5 fun e w' => e = .returned (.bool false) ∧ w5 = w' := hhas
            have hB5 := hbr.trans (hb5'.mono hbr.size)
            clear hu5 hb5 hkeep y0 y1 yk yx hbr
            go_wp2_with fail
            refine hhas.mono ?_
            clear hhas
            rintro e w6 ⟨rfl, rfl⟩
            go_wp2_with fail
            go_roundw
            case rel => exact ⟨j + 1, by omega, by go_num, by rw [HST2.out]; congr 1; omega, hB5⟩
            case measure => simp [intOf]; omega
        · obtain rfl : j = xs.length := by omega
          have hcx : xs.countP (nnI g) ≤ xs.length := List.countP_le_length
          rw [List.take_length]
          obtain ⟨L2, hLe⟩ : ∃ L2 : Int, L2 = L + ((xs.countP (nnI g) : Nat) : Int) := ⟨_, rfl⟩
          have hM1 : L2 ≤ 240 := by omega
          have hM2 : -120 ≤ L2 := by omega
          rw [← hLe]
          have HLM := Lib.hid hLe
          clear y0 y1 yk hBr hLe hcx
          go_wp2_with fail
          go_loopw [10, 20] (fun vl jv wr => ∃ j : Nat, j ≤ ys.length ∧ jv = .int .i64 j ∧ vl = .int .i64 (L2 - ((ys.take j).countP (nnI g) : Nat)) ∧ Below w4.heap.size w4 wr) (fun _ jv _ => ys.length - (intOf jv).toNat)
          case atStart => exact ⟨0, Nat.zero_le _, rfl, by simp, hbr⟩
          case round =>
            clear hbr
            -- ys: x; gout_any: the call's contract; graph.Out: the call; false: back of the call; -: sign; L2: what was lost ahead; HY: HX; HYH: HH
            obtain ⟨j, hj, rfl, rfl, hbr⟩ := hrel
            have y0 := cell_below hbr z0
            have y1 := cell_below hbr z1
            have yk := cell_below hbr zk
            have hBr := HB4.out.trans (hbr.mono HB4.out.size)
            by_cases hltj : j < ys.length
            · obtain ⟨e0, he0⟩ : ∃ e0, ys[j]? = some e0 := ⟨_, List.getElem?_eq_getElem hltj⟩
              have hltj' : (j : Int) < (ys.length : Int) := by omega
              have hcl : (ys.take j).countP (nnI g) ≤ 120 := by
                have h1 : (ys.take j).countP (nnI g) ≤ (ys.take j).length := List.countP_le_length
                rw [List.length_take] at h1
                omega
              have HST := Lib.hid (countP_snoc he0 (nnI g))
              obtain ⟨bx, ox, rfl, _, yx⟩ := int_at (HY.out.below hbr) he0
              have HM : Hid ((endsS g e0 bond false).any (fun y => y == n.id) = true) := HYH.out e0 (List.mem_of_getElem? he0)
              have hin := gout_any g e0 bond _ _ wr.drew ((HG4.out.below hbr).below (Below.refl _ _).drew)
              have hbd : Below wr.heap.size wr wr.drew := (Below.refl _ _).drew
              generalize (ys.take j).countP (nnI g) = c at *
              have hcl' : (c : Int) ≤ 120 := by omega
              have hw1 : IntKind.i64.wrap (L2 - (c : Int) - 1) = L2 - (c : Int) - 1 := IntWalk.i64_in _ (by omega)
              clear he0 hcl
              cases hnn : nnI g e0 with
              | false =>
                have h0 : nodeE g e0 = 0 := by rw [nodeE_nn HE.out, hnn]; rfl
                have h1 : endsR g e0 bond false = endsS g e0 bond false := by unfold endsR; rw [if_pos h0]
                rw [h0, h1] at hin
                unfold RetE at hin
                rw [errV_zero rfl] at hin
                have HST2 : Hid ((ys.take (j + 1)).countP (nnI g) = c) := by unfold Hid; rw [HST.out, hnn]; rfl
                generalize endsS g e0 bond false = bl at *
                clear hnn h0 h1 HST
                go_wp2_with fail
                have hkeep := And.intro (cell_below hbd y0) (And.intro (cell_below hbd y1) (cell_below hbd yx))
                go_region_held3 (fun w' => w'.cell? ⟨w.heap.size, 0, none⟩ = some (.slice (some ⟨b, o, none⟩) g.nodes.length cn) ∧ w'.cell? ⟨w.heap.size, 1, none⟩ = some (.slice At g.ties.length ct) ∧ w'.cell? ⟨bx, ox + j, none⟩ = some (.int .i64 e0))
                  (first
                    | exact hkeep
                    | go_keep)
                  (first
                    | (go_at_call 22
                       refine hin.mono ?_
                       rintro e w5 ⟨u5, rfl, hu5, hb5⟩
                       obtain ⟨A5, c5, rfl, _, _⟩ := hu5.form
                       have hb5' := hbd.trans (hb5.mono hbd.size)
                       have hkeep := And.intro (cell_below hb5' y0) (And.intro (cell_below hb5' y1) (cell_below hb5' yx))))
                have q0 := cell_below hb5' y0
                have qk := cell_below hb5' yk
                have hhas := in2_any bl n.id _ w5 hu5
                rw [HM.out] at hhas
                have hB5 := hbr.trans (hb5'.mono hbr.size)
                clear hu5 hb5 hkeep y0 y1 yk yx hbr
                go_wp2_with fail
                refine hhas.mono ?_
                clear hhas
                rintro e w6 ⟨rfl, rfl⟩
                go_wp2_with fail
                go_roundw
                case rel => exact ⟨j + 1, by omega, by go_num, by rw [HST2.out], hB5⟩
                case measure => simp [intOf]; omega
              | true =>
                have h0 : nodeE g e0 = 5 := by rw [nodeE_nn HE.out, hnn]; rfl
                have h1 : endsR g e0 bond false = [] := by unfold endsR; rw [if_neg (by omega)]
                rw [h0, h1] at hin
                unfold RetE at hin
                rw [errV_some (by omega)] at hin
                have HST2 : Hid ((ys.take (j + 1)).countP (nnI g) = c + 1) := by unfold Hid; rw [HST.out, hnn]; rfl
                clear hnn h0 h1 HST HM
                go_wp2_with fail
                have hkeep := And.intro (cell_below hbd y0) (And.intro (cell_below hbd y1) (cell_below hbd yx))
                go_region_held3 (fun w' => w'.cell? ⟨w.heap.size, 0, none⟩ = some (.slice (some ⟨b, o, none⟩) g.nodes.length cn) ∧ w'.cell? ⟨w.heap.size, 1, none⟩ = some (.slice At g.ties.length ct) ∧ w'.cell? ⟨bx, ox + j, none⟩ = some (.int .i64 e0))
                  (first
                    | exact hkeep
                    | go_keep)
                  (first
                    | (go_at_call 22
                       refine hin.mono ?_
                       rintro e w5 ⟨u5, rfl, hu5, hb5⟩
                       obtain ⟨A5, c5, hv5, _, _⟩ := hu5.form
                       have hv5 : u5 = .slice A5 0 c5 := hv5
                       subst hv5
                       have hb5' := hbd.trans (hb5.mono hbd.size)
                       have hkeep := And.intro (cell_below hb5' y0) (And.intro (cell_below hb5' y1) (cell_below hb5' yx))))
                have q0 := cell_below hb5' y0
                have qk := cell_below hb5' yk
                have hhas := in2_any [] n.id _ w5 hu5
                have hhas : Calls Try.prog 23 #[.slice A5 0 c5, .int .i64 n.id] w5 fun e w' => e = .returned (.bool false) ∧ w5 = w' := hhas
                have hB5 := hbr.trans (hb5'.mono hbr.size)
                clear hu5 hb5 hkeep y0 y1 yk yx hbr
                go_wp2_with fail
                refine hhas.mono ?_
                clear hhas
                rintro e w6 ⟨rfl, rfl⟩
                go_wp2_with fail
                go_roundw
                case rel => exact ⟨j + 1, by omega, by go_num, by rw [HST2.out]; congr 1; omega, hB5⟩
                case measure => simp [intOf]; omega
            · obtain rfl : j = ys.length := by omega
              rw [List.take_length]
              clear y0 y1 yk hBr
              go_wp2_with fail
              go_roundw
              case rel => exact ⟨k + 1, by omega, by go_num, by rw [HTO.out]; congr 1, by rw [HTI.out]; congr 1, by rw [HNF.out, HNT.out]; congr 1; have h1 := HLL.out; have h2 := HLM.out; omega, HBW.out.trans (hbr.mono HBW.out.size)⟩
              case measure => simp [intOf]; omega
    · obtain rfl : k = g.nodes.length := by omega
      have e : (idsN g.nodes).take g.nodes.length = idsN g.nodes := by rw [List.take_of_length_le]; simp [idsN]
      obtain ⟨i1, i2, i3, i4⟩ := HI.out g.nodes.length
      have hlaw : (cntT g.ties bond false (idsN g.nodes) (fun _ => true) : Int) - cntT g.ties bond true (idsN g.nodes) (fun _ => true) = cntT g.ties bond false (idsN g.nodes) (nnI g) - cntT g.ties bond true (idsN g.nodes) (nnI g) := ends_law g.ties bond (idsN g.nodes)
      rw [e] at i1 i2 i3 i4 ⊢
      generalize cntT g.ties bond false (idsN g.nodes) (fun _ => true) = O at *
      generalize cntT g.ties bond true (idsN g.nodes) (fun _ => true) = N at *
      generalize cntT g.ties bond false (idsN g.nodes) (nnI g) = LF at *
      generalize cntT g.ties bond true (idsN g.nodes) (nnI g) = LT at *
      have hw1 : IntKind.i64.wrap ((O : Int) - (N : Int)) = (LF : Int) - (LT : Int) := by rw [IntWalk.i64_in _ (by omega)]; exact hlaw
      clear e i1 i2 i3 i4 hlaw HI x0 x1
      go_wp2_with fail
      go_ret
      exact ⟨by simp, hBr⟩
end Go.Proofs.Ytldonhgcifhpgaa
