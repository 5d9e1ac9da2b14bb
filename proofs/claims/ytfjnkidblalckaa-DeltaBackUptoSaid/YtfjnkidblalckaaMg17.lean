/- Parts: DoB, MapB, Chk0, Mi, KinE, KinF, KinG. -/
import Derived.Test.YtfjnkidblalckaaMg16
import Derived.Test.YtfjnkidblalckaaMg07
import Derived.Deep.DeepCutAuto
import Derived.Test.YtfjnkidblalckaaMg02
import Derived.Test.YtfjnkidblalckaaMg04
import Derived.Maps.Keyed
import Derived.Test.YtfjnkidblalckaaMg03
import Derived.Test.YtfjnkidblalckaaMg06
/- Contract: delta.props: what makes of one node's record another one's, op by op. Conditions: both are right. -/
namespace Go.Proofs.Ytfjnkidblalckaa
open Go Go.RowKit



def unsL (a b : Nod) (k : Nat) : List Opr := ((a.props.take k).filter fun p => !rhas b.props p.name).map (fun p => unsetOpr a.id p.name)
def setL (a b : Nod) (k : Nat) : List Opr := ((b.props.take k).filter fun p => decide (p ∉ a.props)).map (setOpr a.id)
theorem ofilt_snoc {D E : Type} (f : D → E) (p : D → Bool) {l : List D} {k : Nat} {d : D} (h : l[k]? = some d) : ((l.take (k + 1)).filter p).map f = ((l.take k).filter p).map f ++ (if p d = true then [f d] else []) := by
  rw [List.take_add_one, h, List.filter_append, List.map_append]
  congr 1
  by_cases hp : p d = true
  · simp [hp]
  · simp [hp]
theorem ofilt_len {D E : Type} (f : D → E) (p : D → Bool) (l : List D) (k : Nat) : (((l.take k).filter p).map f).length ≤ k := by
  rw [List.length_map]
  exact Nat.le_trans (List.length_filter_le _ _) (by rw [List.length_take]; omega)
set_option maxRecDepth 100000 in
set_option maxHeartbeats 16000000 in
theorem props_any (a b : Nod) (va vb : Value) (w : World) (ha : Sl prpL w va a.props) (hb : Sl prpL w vb b.props) (hia : I64 a.id) (hra : recE a.props = 0) (hrb : recE b.props = 0) :
    Calls Try.prog 23 #[.agg #[.int .i64 a.id, .string a.kind, va], .agg #[.int .i64 b.id, .string b.kind, vb]] w fun e w' => ∃ v xs, e = .returned v ∧ OpsW w.heap.size w' v (propsL a b) xs ∧ Below w.heap.size w w' := by
  obtain ⟨i0, ei, ez, ez1, ez2⟩ := info_parts opr_info
  obtain ⟨A1, c1, rfl, _, _⟩ := ha.form
  obtain ⟨A2, c2, rfl, _, _⟩ := hb.form
  obtain ⟨W0, hW0⟩ : ∃ W0, W0 = (w.alloc (.cells #[.int .i64 a.id, .string a.kind, .slice A1 a.props.length c1] 30)).alloc (.cells #[.int .i64 b.id, .string b.kind, .slice A2 b.props.length c2] 30) := ⟨_, rfl⟩
  have hb0 : Below w.heap.size w W0 := by rw [hW0]; exact ((Below.refl _ _).alloc (Nat.le_refl _) _).alloc (by simp) _
  have g0 : W0.heap[w.heap.size]? = some (.cells #[.int .i64 a.id, .string a.kind, .slice A1 a.props.length c1] 30 (0, 0)) := by
    rw [hW0, Below.heap_alloc _ _ _ (by simp)]; exact heap_alloc_new _ _
  have g1 : W0.heap[w.heap.size + 1]? = some (.cells #[.int .i64 b.id, .string b.kind, .slice A2 b.props.length c2] 30 (0, 0)) := by
    have := heap_alloc_new (w.alloc (.cells #[.int .i64 a.id, .string a.kind, .slice A1 a.props.length c1] 30)) (.cells #[.int .i64 b.id, .string b.kind, .slice A2 b.props.length c2] 30); rw [hW0]; simpa using this
  have hW0' := hW0.symm
  have hw0 := hb0.size
  have X0 := Lib.hid (block_cell g0 0)
  have X2 := Lib.hid (block_cell g0 2)
  have Y2 := Lib.hid (block_cell g1 2)
  have HA := Lib.hid (ha.below hb0)
  have HB := Lib.hid (hb.below hb0)
  have hla := (rec_ok hra).1
  have hlb := (rec_ok hrb).1
  have HFA : Hid (∀ nm W, Below W0.heap.size W0 W → Calls Try.prog 43 #[.slice A1 a.props.length c1, .string nm] W fun e w' => e = .returned (.tuple #[.int .i64 (rpos a.props nm), .bool (rhas a.props nm)]) ∧ Below W.heap.size W w') :=
    fun nm W h => rfind_any a.props nm _ W (HA.out.below h) (rec_ok hra).2.2 (by omega)
  have HFB : Hid (∀ nm W, Below W0.heap.size W0 W → Calls Try.prog 43 #[.slice A2 b.props.length c2, .string nm] W fun e w' => e = .returned (.tuple #[.int .i64 (rpos b.props nm), .bool (rhas b.props nm)]) ∧ Below W.heap.size W w') :=
    fun nm W h => rfind_any b.props nm _ W (HB.out.below h) (rec_ok hrb).2.2 (by omega)
  obtain ⟨B, hBe⟩ : ∃ B, B = W0.heap.size := ⟨_, rfl⟩
  clear ha hb hW0 g0 g1
  have x0 := X0.out
  have x2 := X2.out
  have y2 := Y2.out
  go_enter Try.func23, Try.ntmps23
  go_wp2_with fail
  clear hW0' x0 x2 y2
  go_loopw [4, 16] (fun ov i wr => ∃ (k : Nat) (xs : List Value), k ≤ a.props.length ∧ i = .int .i64 k ∧ Below B W0 wr ∧ Hid (OpsW B wr ov (unsL a b k) xs)) (fun _ i _ => a.props.length - (intOf i).toNat)
  case atStart => exact ⟨0, [], Nat.zero_le _, rfl, Below.refl _ _, OpsW.nil (by omega)⟩
  case round =>
    obtain ⟨k, xs, hk, rfl, hbr, HO⟩ := hrel
    have hbr' : Below W0.heap.size W0 wr := by rw [← hBe]; exact hbr
    have x0 := cell_below hbr' X0.out
    have x2 := cell_below hbr' X2.out
    have y2 := cell_below hbr' Y2.out
    by_cases hlt : k < a.props.length
    · obtain ⟨p, hp⟩ : ∃ d, a.props[k]? = some d := ⟨_, List.getElem?_eq_getElem hlt⟩
      have hlt' : (k : Int) < (a.props.length : Int) := by omega
      obtain ⟨gb, o, rfl, hpok, q0, q1, q2, q3⟩ := prp_at (HA.out.below hbr') hp
      have hbk := heap_alloc_new wr (.cells #[.string p.name, .int .i64 p.v.ty, .int .i64 p.v.n, .string p.v.s] 38)
      have ha1 : Below wr.heap.size wr (wr.alloc (.cells #[.string p.name, .int .i64 p.v.ty, .int .i64 p.v.n, .string p.v.s] 38)) := (Below.refl _ _).alloc (Nat.le_refl _) _
      have HST : Hid (unsL a b (k + 1) = unsL a b k ++ (if (!rhas b.props p.name) = true then [unsetOpr a.id p.name] else [])) := ofilt_snoc _ _ hp
      have hll : (unsL a b k).length ≤ k := ofilt_len _ _ _ _
      have HPK := Lib.hid hpok
      clear hp hpok
      go_upto_region 4 with fail
      generalize wr.alloc (.cells #[.string p.name, .int .i64 p.v.ty, .int .i64 p.v.n, .string p.v.s] 38) = wa at *
      have hWa := hbr'.trans (ha1.mono hbr'.size)
      have y2 := cell_below hWa Y2.out
      have z0 := block_cell hbk 0
      have hx := HFB.out p.name wa hWa
      have HOa := Lib.hid (HO.out.below ha1)
      have hBa := hbr.trans (ha1.mono HO.out.b)
      generalize rpos b.props p.name = rp at *
      generalize rhas b.props p.name = rh at *
      clear q0 q1 q2 q3 x0 x2 hbr hbr' HO ha1
      go_wp2_with fail
      refine hx.mono ?_
      clear hx y2
      rintro e w2 ⟨rfl, hb2⟩
      have hW2 := hWa.trans (hb2.mono hWa.size)
      have x0 := cell_below hW2 X0.out
      have z0 := cell_below hb2 z0
      have HO2 := Lib.hid (HOa.out.below hb2)
      have hB2 := hBa.trans (hb2.mono HOa.out.b)
      clear HOa hb2 hWa hBa
      cases rh with
      | true =>
        have HN : Hid (unsL a b (k + 1) = unsL a b k) := by unfold Hid; rw [HST.out]; simp
        clear HST
        go_wp2_with fail
        go_roundw
        case rel => exact ⟨k + 1, xs, by omega, by go_num, hB2, by rw [HN.out]; exact HO2⟩
        case measure => simp [intOf]; omega
      | false =>
        have HN : Hid (unsL a b (k + 1) = unsL a b k ++ [unsetOpr a.id p.name]) := by unfold Hid; rw [HST.out]; simp
        clear HST
        -- an op more: 30, 38: the slots; unsetOpr a.id p.name: the op; .slice none 0 0: its record's value; w2: the world before it is built; unsL a b k: the row of ops; xs: its cells; HO2: the Hid of OpsW there; $9: the bound on the row
        have hoa := (HO2).out.o.alloc (.cells (oprCells (unsetOpr a.id p.name) (.slice none 0 0)) 42)
        have hra := (HO2).out.r.below (Below.alloc (Below.refl _ _) (Nat.le_refl _) (.cells (oprCells (unsetOpr a.id p.name) (.slice none 0 0)) 42))
        have hsb := (HO2).out.b
        obtain ⟨nl, hnl⟩ : ∃ nl, (unsL a b k).length = nl := ⟨_, rfl⟩
        have hnlb : nl ≤ 100000 := by omega
        rw [hnl] at hoa
        have HNL := Lib.hid hnl
        clear hnl
        obtain ⟨Ap, cp, hvp, hpc, hpm⟩ := hoa.form
        subst hvp
        have HNW : Hid (∀ j u, (oprCells (unsetOpr a.id p.name) (.slice none 0 0)).toList[j]? = some u → ((w2).alloc (.cells (oprCells (unsetOpr a.id p.name) (.slice none 0 0)) 42)).cell? ⟨(w2).heap.size, j, none⟩ = some u) := fun j u hj => by
          rw [World.cell?_alloc_at _ _ _ _ rfl]; simpa using hj
        have HOA := Lib.hid hoa
        have HRA := Lib.hid hra
        have HSB : Hid (B ≤ ((w2).alloc (.cells (oprCells (unsetOpr a.id p.name) (.slice none 0 0)) 42)).heap.size) := Nat.le_trans hsb (Below.alloc (Below.refl _ _) (Nat.le_refl _) (.cells (oprCells (unsetOpr a.id p.name) (.slice none 0 0)) 42)).size
        clear hoa hra
        go_wp2_with (first
          | (at_builtin; refine wpList_append_q _ rfl (.tmp 30) (.tmp 38) _ rfl B 42 i0 opr0 11 136 Try.underlying26 ei ez ez1 ez2 rfl (by decide) (.slice Ap nl cp) nl (xs) rfl HOA.out (some ⟨(w2).heap.size, 0, none⟩) 1 1 (oprCells (unsetOpr a.id p.name) (.slice none 0 0)).toList rfl rfl (fun _ => ⟨_, rfl, fun j u hj => by rw [addr_add, Nat.zero_add]; exact HNW.out j u hj⟩) (fun u hu => by simp [oprCells] at hu; rcases hu with rfl | rfl | rfl | rfl | rfl | rfl | rfl | rfl | rfl | rfl | rfl <;> rfl) (by unfold maxLen; omega) (by omega) HSB.out ?_; intro v7 w7 hown7 hg7 hat7))
        -- the op is there: unsetOpr a.id p.name: the op; .slice none 0 0: its record's value; hia (by show (0 : Nat) ≤ 1048576; omega) ⟨HPK.out.1, by show I64 (0 : Int); unfold I64; omega, by show I64 (0 : Int); unfold I64; omega, by show (0 : Nat) ≤ 1048576; omega⟩ ⟨by show (0 : Nat) ≤ 1048576; omega, by show I64 (0 : Int); unfold I64; omega, by show I64 (0 : Int); unfold I64; omega⟩ (OwnP.none _ _): the world before; $4: its record's OwnP (a term over 'B'); $5, $6, $7: the id's, the kind's, the property's, the tie's facts
        have hpush := OpsW.push HNL.out HOA.out HRA.out HSB.out (m := [unsetOpr a.id p.name]) (ys := (oprCells (unsetOpr a.id p.name) (.slice none 0 0)).toList) (OwnOps.one hia (by show (0 : Nat) ≤ 1048576; omega) ⟨HPK.out.1, by show I64 (0 : Int); unfold I64; omega, by show I64 (0 : Int); unfold I64; omega, by show (0 : Nat) ≤ 1048576; omega⟩ ⟨by show (0 : Nat) ≤ 1048576; omega, by show I64 (0 : Int); unfold I64; omega, by show I64 (0 : Int); unfold I64; omega⟩ (OwnP.none _ _)) hown7 hg7
        have hB7 : Below B W0 w7 := (hB2.alloc HO2.out.b _).trans hpush.2.1
        have HO7 : Hid (OpsW B w7 v7 (unsL a b (k + 1)) (xs ++ (oprCells (unsetOpr a.id p.name) (.slice none 0 0)).toList)) := by unfold Hid; rw [HN.out]; exact hpush.1
        clear hpush hg7 hat7 hown7 HOA HRA HNW
        go_roundw
        case rel => exact ⟨k + 1, _, by omega, by go_num, hB7, HO7⟩
        case measure => simp [intOf]; omega
    · obtain rfl : k = a.props.length := by omega
      have HU : Hid (unsL a b a.props.length = (a.props.filter fun p => !rhas b.props p.name).map (fun p => unsetOpr a.id p.name)) := by unfold Hid unsL; rw [List.take_length]
      have hul : (unsL a b a.props.length).length ≤ 8 := Nat.le_trans (ofilt_len _ _ _ _) hla
      have HO1 : Hid (OpsW B wr u4 (unsL a b a.props.length ++ setL a b 0) xs) := by
        have : setL a b 0 = [] := by unfold setL; rw [List.take_zero]; rfl
        unfold Hid; rw [this, List.append_nil]; exact HO.out
      generalize unsL a b a.props.length = ul at *
      clear HO hbr'
      go_wp2_with fail
      clear x0 x2 y2
      go_loopw [4, 44] (fun ov i wr => ∃ (k : Nat) (xs : List Value), k ≤ b.props.length ∧ i = .int .i64 k ∧ Below B W0 wr ∧ Hid (OpsW B wr ov (ul ++ setL a b k) xs)) (fun _ i _ => b.props.length - (intOf i).toNat)
      case atStart => exact ⟨0, xs, Nat.zero_le _, rfl, hbr, HO1⟩
      case round =>
        clear HO1 hbr
        obtain ⟨k, xs, hk, rfl, hbr, HO⟩ := hrel
        have hbr' : Below W0.heap.size W0 wr := by rw [← hBe]; exact hbr
        have x0 := cell_below hbr' X0.out
        have x2 := cell_below hbr' X2.out
        have y2 := cell_below hbr' Y2.out
        by_cases hlt : k < b.props.length
        · obtain ⟨p, hp⟩ : ∃ d, b.props[k]? = some d := ⟨_, List.getElem?_eq_getElem hlt⟩
          have hlt' : (k : Int) < (b.props.length : Int) := by omega
          obtain ⟨gb, o, rfl, hpok, q0, q1, q2, q3⟩ := prp_at (HB.out.below hbr') hp
          have hbk := heap_alloc_new wr (.cells #[.string p.name, .int .i64 p.v.ty, .int .i64 p.v.n, .string p.v.s] 38)
          have ha1 : Below wr.heap.size wr (wr.alloc (.cells #[.string p.name, .int .i64 p.v.ty, .int .i64 p.v.n, .string p.v.s] 38)) := (Below.refl _ _).alloc (Nat.le_refl _) _
          have HST : Hid (setL a b (k + 1) = setL a b k ++ (if decide (p ∉ a.props) = true then [setOpr a.id p] else [])) := ofilt_snoc _ _ hp
          have hll : (setL a b k).length ≤ k := ofilt_len _ _ _ _
          have hll2 : (ul ++ setL a b k).length ≤ 16 := by rw [List.length_append]; omega
          have HPK := Lib.hid hpok
          have HM0 : Hid (rhas a.props p.name = false → decide (p ∉ a.props) = true) := fun h => by
            rw [decide_eq_true_eq]
            intro hm
            rw [(rhas_mem hra p.name).2 ⟨p, hm, rfl⟩] at h; cases h
          have HM1 : Hid (∀ x, a.props[rpos a.props p.name]? = some x → decide (p ∉ a.props) = !decide (x = p)) := fun x hx => by
            by_cases hxp : x = p
            · subst hxp
              have hmem := List.mem_of_getElem? hx
              simp [hmem]
            · have hmem : p ∉ a.props := fun hm => hxp (by have := rpos_of hra hm; rw [hx] at this; exact Option.some.inj this)
              simp [hmem, hxp]
          have HPL : Hid (rhas a.props p.name = true → ∃ x, a.props[rpos a.props p.name]? = some x ∧ rpos a.props p.name < a.props.length) := fun h => by
            obtain ⟨q, hq, hqn⟩ := (rhas_mem hra p.name).1 h
            have := rpos_of hra hq
            rw [hqn] at this
            exact ⟨q, this, (List.getElem?_eq_some_iff.1 this).1⟩
          clear hp hpok
          go_upto_region 11 with fail
          generalize wr.alloc (.cells #[.string p.name, .int .i64 p.v.ty, .int .i64 p.v.n, .string p.v.s] 38) = wa at *
          have hWa := hbr'.trans (ha1.mono hbr'.size)
          have x2 := cell_below hWa X2.out
          have z0 := block_cell hbk 0
          have HBK := Lib.hid hbk
          have hx := HFA.out p.name wa hWa
          have HOa := Lib.hid (HO.out.below ha1)
          have hBa := hbr.trans (ha1.mono HO.out.b)
          generalize rpos a.props p.name = rp at *
          generalize rhas a.props p.name = rh at *
          generalize decide (p ∉ a.props) = nm at *
          clear q0 q1 q2 q3 x0 y2 hbr hbr' HO ha1 hbk
          go_wp2_with fail
          refine hx.mono ?_
          clear hx x2 z0
          rintro e w2 ⟨rfl, hb2⟩
          have hW2 := hWa.trans (hb2.mono hWa.size)
          have x0 := cell_below hW2 X0.out
          have x2 := cell_below hW2 X2.out
          have hbk2 := (hb2.block _ (Array.getElem?_eq_some_iff.1 HBK.out).1).trans HBK.out
          have z0 := block_cell hbk2 0
          have z1 := block_cell hbk2 1
          have z2 := block_cell hbk2 2
          have z3 := block_cell hbk2 3
          have HO2 := Lib.hid (HOa.out.below hb2)
          have hB2 := hBa.trans (hb2.mono HOa.out.b)
          clear HOa hb2 hWa hBa hbk2 HBK
          cases rh with
          | false =>
            have HN : Hid (setL a b (k + 1) = setL a b k ++ [setOpr a.id p]) := by unfold Hid; rw [HST.out, HM0.out rfl]; rfl
            clear HST HM0 HM1 HPL
            go_wp2_with fail
            go_quiet (fail)
            have HO3 := Lib.hid (HO2.out.below (below_drewN (Below.refl w2.heap.size w2) nq))
            have hB3 := below_drewN hB2 nq
            -- an op more: 67, 73: the slots; setOpr a.id p: the op; .slice none 0 0: its record's value; w2.drewN nq: the world before it is built; ul ++ setL a b k: the row of ops; xs: its cells; HO3: the Hid of OpsW there; $9: the bound on the row
            have hoa := (HO3).out.o.alloc (.cells (oprCells (setOpr a.id p) (.slice none 0 0)) 42)
            have hra := (HO3).out.r.below (Below.alloc (Below.refl _ _) (Nat.le_refl _) (.cells (oprCells (setOpr a.id p) (.slice none 0 0)) 42))
            have hsb := (HO3).out.b
            obtain ⟨nl, hnl⟩ : ∃ nl, (ul ++ setL a b k).length = nl := ⟨_, rfl⟩
            have hnlb : nl ≤ 100000 := by omega
            rw [hnl] at hoa
            have HNL := Lib.hid hnl
            clear hnl
            obtain ⟨Ap, cp, hvp, hpc, hpm⟩ := hoa.form
            subst hvp
            have HNW : Hid (∀ j u, (oprCells (setOpr a.id p) (.slice none 0 0)).toList[j]? = some u → ((w2.drewN nq).alloc (.cells (oprCells (setOpr a.id p) (.slice none 0 0)) 42)).cell? ⟨(w2.drewN nq).heap.size, j, none⟩ = some u) := fun j u hj => by
              rw [World.cell?_alloc_at _ _ _ _ rfl]; simpa using hj
            have HOA := Lib.hid hoa
            have HRA := Lib.hid hra
            have HSB : Hid (B ≤ ((w2.drewN nq).alloc (.cells (oprCells (setOpr a.id p) (.slice none 0 0)) 42)).heap.size) := Nat.le_trans hsb (Below.alloc (Below.refl _ _) (Nat.le_refl _) (.cells (oprCells (setOpr a.id p) (.slice none 0 0)) 42)).size
            clear hoa hra
            go_wp2_with (first
              | (at_builtin; refine wpList_append_q _ rfl (.tmp 67) (.tmp 73) _ rfl B 42 i0 opr0 11 136 Try.underlying26 ei ez ez1 ez2 rfl (by decide) (.slice Ap nl cp) nl (xs) rfl HOA.out (some ⟨(w2.drewN nq).heap.size, 0, none⟩) 1 1 (oprCells (setOpr a.id p) (.slice none 0 0)).toList rfl rfl (fun _ => ⟨_, rfl, fun j u hj => by rw [addr_add, Nat.zero_add]; exact HNW.out j u hj⟩) (fun u hu => by simp [oprCells] at hu; rcases hu with rfl | rfl | rfl | rfl | rfl | rfl | rfl | rfl | rfl | rfl | rfl <;> rfl) (by unfold maxLen; omega) (by omega) HSB.out ?_; intro v7 w7 hown7 hg7 hat7))
            -- the op is there: setOpr a.id p: the op; .slice none 0 0: its record's value; hia (by show (0 : Nat) ≤ 1048576; omega) HPK.out ⟨by show (0 : Nat) ≤ 1048576; omega, by show I64 (0 : Int); unfold I64; omega, by show I64 (0 : Int); unfold I64; omega⟩ (OwnP.none _ _): the world before; $4: its record's OwnP (a term over 'B'); $5, $6, $7: the id's, the kind's, the property's, the tie's facts
            have hpush := OpsW.push HNL.out HOA.out HRA.out HSB.out (m := [setOpr a.id p]) (ys := (oprCells (setOpr a.id p) (.slice none 0 0)).toList) (OwnOps.one hia (by show (0 : Nat) ≤ 1048576; omega) HPK.out ⟨by show (0 : Nat) ≤ 1048576; omega, by show I64 (0 : Int); unfold I64; omega, by show I64 (0 : Int); unfold I64; omega⟩ (OwnP.none _ _)) hown7 hg7
            have hB7 : Below B W0 w7 := (hB3.alloc HO3.out.b _).trans hpush.2.1
            have HO7 : Hid (OpsW B w7 v7 (ul ++ setL a b (k + 1)) (xs ++ (oprCells (setOpr a.id p) (.slice none 0 0)).toList)) := by unfold Hid; rw [HN.out, ← List.append_assoc]; exact hpush.1
            clear hpush hg7 hat7 hown7 HOA HRA HNW
            go_roundw
            case rel => exact ⟨k + 1, _, by omega, by go_num, hB7, HO7⟩
            case measure => simp [intOf]; omega
          | true =>
            obtain ⟨x, hx, hrl⟩ := HPL.out rfl
            have hrl' : (rp : Int) < (a.props.length : Int) := by omega
            have hme := HM1.out x hx
            obtain ⟨ga, oa, rfl, _, p0, p1, p2, p3⟩ := prp_at (HA.out.below hW2) hx
            have hneq := prp_neq x p
            have hgd := prp_guard
            clear hx HM0 HM1 HPL
            by_cases hq : x = p
            · have HN : Hid (setL a b (k + 1) = setL a b k) := by unfold Hid; rw [HST.out, hme, decide_eq_true hq]; simp
              rw [decide_eq_true hq] at hneq
              clear HST hq hme
              go_wp2_with fail
              go_quiet (fail)
              go_wp2_with fail
              go_roundw
              case rel => exact ⟨k + 1, xs, by omega, by go_num, below_drewN hB2 _, by rw [HN.out]; exact HO2.out.below (below_drewN (Below.refl _ _) _)⟩
              case measure => simp [intOf]; omega
            · have HN : Hid (setL a b (k + 1) = setL a b k ++ [setOpr a.id p]) := by unfold Hid; rw [HST.out, hme, decide_eq_false hq]; rfl
              rw [decide_eq_false hq] at hneq
              clear HST hq hme
              go_wp2_with fail
              go_quiet (fail)
              clear p0 p1 p2 p3
              have HO3 := Lib.hid (HO2.out.below (below_drewN (Below.refl w2.heap.size w2) nq))
              have hB3 := below_drewN hB2 nq
              -- an op more: 67, 73: the slots; setOpr a.id p: the op; .slice none 0 0: its record's value; w2.drewN nq: the world before it is built; ul ++ setL a b k: the row of ops; xs: its cells; HO3: the Hid of OpsW there; $9: the bound on the row
              have hoa := (HO3).out.o.alloc (.cells (oprCells (setOpr a.id p) (.slice none 0 0)) 42)
              have hra := (HO3).out.r.below (Below.alloc (Below.refl _ _) (Nat.le_refl _) (.cells (oprCells (setOpr a.id p) (.slice none 0 0)) 42))
              have hsb := (HO3).out.b
              obtain ⟨nl, hnl⟩ : ∃ nl, (ul ++ setL a b k).length = nl := ⟨_, rfl⟩
              have hnlb : nl ≤ 100000 := by omega
              rw [hnl] at hoa
              have HNL := Lib.hid hnl
              clear hnl
              obtain ⟨Ap, cp, hvp, hpc, hpm⟩ := hoa.form
              subst hvp
              have HNW : Hid (∀ j u, (oprCells (setOpr a.id p) (.slice none 0 0)).toList[j]? = some u → ((w2.drewN nq).alloc (.cells (oprCells (setOpr a.id p) (.slice none 0 0)) 42)).cell? ⟨(w2.drewN nq).heap.size, j, none⟩ = some u) := fun j u hj => by
                rw [World.cell?_alloc_at _ _ _ _ rfl]; simpa using hj
              have HOA := Lib.hid hoa
              have HRA := Lib.hid hra
              have HSB : Hid (B ≤ ((w2.drewN nq).alloc (.cells (oprCells (setOpr a.id p) (.slice none 0 0)) 42)).heap.size) := Nat.le_trans hsb (Below.alloc (Below.refl _ _) (Nat.le_refl _) (.cells (oprCells (setOpr a.id p) (.slice none 0 0)) 42)).size
              clear hoa hra
              go_wp2_with (first
                | (at_builtin; refine wpList_append_q _ rfl (.tmp 67) (.tmp 73) _ rfl B 42 i0 opr0 11 136 Try.underlying26 ei ez ez1 ez2 rfl (by decide) (.slice Ap nl cp) nl (xs) rfl HOA.out (some ⟨(w2.drewN nq).heap.size, 0, none⟩) 1 1 (oprCells (setOpr a.id p) (.slice none 0 0)).toList rfl rfl (fun _ => ⟨_, rfl, fun j u hj => by rw [addr_add, Nat.zero_add]; exact HNW.out j u hj⟩) (fun u hu => by simp [oprCells] at hu; rcases hu with rfl | rfl | rfl | rfl | rfl | rfl | rfl | rfl | rfl | rfl | rfl <;> rfl) (by unfold maxLen; omega) (by omega) HSB.out ?_; intro v7 w7 hown7 hg7 hat7))
              -- the op is there: setOpr a.id p: the op; .slice none 0 0: its record's value; hia (by show (0 : Nat) ≤ 1048576; omega) HPK.out ⟨by show (0 : Nat) ≤ 1048576; omega, by show I64 (0 : Int); unfold I64; omega, by show I64 (0 : Int); unfold I64; omega⟩ (OwnP.none _ _): the world before; $4: its record's OwnP (a term over 'B'); $5, $6, $7: the id's, the kind's, the property's, the tie's facts
              have hpush := OpsW.push HNL.out HOA.out HRA.out HSB.out (m := [setOpr a.id p]) (ys := (oprCells (setOpr a.id p) (.slice none 0 0)).toList) (OwnOps.one hia (by show (0 : Nat) ≤ 1048576; omega) HPK.out ⟨by show (0 : Nat) ≤ 1048576; omega, by show I64 (0 : Int); unfold I64; omega, by show I64 (0 : Int); unfold I64; omega⟩ (OwnP.none _ _)) hown7 hg7
              have hB7 : Below B W0 w7 := (hB3.alloc HO3.out.b _).trans hpush.2.1
              have HO7 : Hid (OpsW B w7 v7 (ul ++ setL a b (k + 1)) (xs ++ (oprCells (setOpr a.id p) (.slice none 0 0)).toList)) := by unfold Hid; rw [HN.out, ← List.append_assoc]; exact hpush.1
              clear hpush hg7 hat7 hown7 HOA HRA HNW
              go_roundw
              case rel => exact ⟨k + 1, _, by omega, by go_num, hB7, HO7⟩
              case measure => simp [intOf]; omega
        · obtain rfl : k = b.props.length := by omega
          have HE : Hid (propsL a b = ul ++ setL a b b.props.length) := by
            unfold Hid propsL; rw [HU.out]; unfold setL; rw [List.take_length]
          have HX : Hid (Below w.heap.size w wr) := hb0.trans (hbr'.mono hw0)
          obtain ⟨Ap, cp, hvp, _, _⟩ := HO.out.o.form
          subst hvp
          clear x0 x2 y2 hbr'
          go_wp2_with fail
          go_ret
          exact ⟨_, _, rfl, by rw [HE.out]; exact ⟨HO.out.o.mono (by omega), HO.out.r.mono (by omega), Nat.le_trans (by omega) HO.out.b⟩, HX.out⟩
end Go.Proofs.Ytfjnkidblalckaa

/- Plain: a map from ints to bools that the call made, as a set. No condition. -/
namespace Go.Proofs.Ytfjnkidblalckaa
open Go Go.RowKit
open Go.Maps (Keyed)

def IdsIs (D : DataW Unit) (S : Int → Bool) : Prop := Maps.IsMap D ∧ ∀ n : Int, I64 n → D.atKey (.int .i64 n) (.lit (.bool false)) = .lit (.bool (S n))
theorem IdsIs.empty : IdsIs (.map []) (fun _ => false) := ⟨⟨[], rfl⟩, fun _ _ => rfl⟩
theorem IdsIs.put {D : DataW Unit} {S : Int → Bool} (h : IdsIs D S) {x : Int} (hk : WideAt.IsKeyLit (.int .i64 x)) : IdsIs (D.put (.int .i64 x) (.lit (.bool true))) (fun s => S s || decide (x = s)) := by
  refine ⟨h.1.put _ _, fun s hs => ?_⟩
  by_cases e : x = s
  · subst e
    rw [Maps.atKey_put_same h.1 hk]
    simp
  · rw [Maps.atKey_put_other (fun e' => e (by injection e' with _ e'; exact e'.symm)), h.2 s hs]
    simp [e]
theorem wf_i64 {v : Int} (hv : I64 v) : (Lit.int .i64 v).wf = true := by
  obtain ⟨h1, h2⟩ := hv
  have e1 : IntKind.min .i64 = -9223372036854775808 := by decide
  have e2 : IntKind.max .i64 = 9223372036854775807 := by decide
  simp only [Lit.wf, Bool.and_eq_true, decide_eq_true_eq, e1, e2]
  exact ⟨h1, h2⟩
/-- Block b is a map of at most n entries: the set S. -/
def MapB (w : World) (b n : Nat) (S : Int → Bool) : Prop :=
  ∃ D : DataW Unit, w.ownsMap Try.prog 3 (plainElem Try.prog 4) b n D ∧ IdsIs D S
theorem zeroBoolB (w : World) : (zeroValue 4).run Try.prog w = .ok (.bool false) w := by kernel_rfl
theorem idsLaw : Keyed Try.prog 3 := Maps.int_keyed Try.underlying3
theorem MapB.made (w : World) : MapB (w.alloc (.map #[] 0)) w.heap.size 0 (fun _ => false) := ⟨_, World.ownsMap_made w _ _ _, IdsIs.empty⟩
theorem MapB.mono {w : World} {b n n' : Nat} {S : Int → Bool} (h : MapB w b n S) (hn : n ≤ n') : MapB w b n' S := by
  obtain ⟨D, h1, h2⟩ := h
  exact ⟨D, h1.mono hn, h2⟩
theorem MapB.kept {w w' : World} {b n : Nat} {S : Int → Bool} {row : Option Nat} (h : MapB w b n S) (hg : w.grownBy w' row) (hne : some b ≠ row) : MapB w' b n S := by
  obtain ⟨D, h1, h2⟩ := h
  exact ⟨D, h1.kept hg hne, h2⟩
theorem MapB.alloc {w : World} {b n : Nat} {S : Int → Bool} (h : MapB w b n S) (o : Obj) : MapB (w.alloc o) b n S := h.kept (World.grownBy_alloc w o none) (by simp)
theorem MapB.lt {w : World} {b n : Nat} {S : Int → Bool} (h : MapB w b n S) : b < w.heap.size := by
  obtain ⟨D, h1, _⟩ := h
  exact h1.lt
set_option maxRecDepth 100000 in
theorem MapB.look {w : World} {b n : Nat} {S : Int → Bool} (h : MapB w b n S) {x : Int} (hx : I64 x) :
    (Instr.lookup 64 (.map (some b)) (.int .i64 x) false).run Try.prog w = .ok (.bool (S x)) w := by
  obtain ⟨D, h1, h2⟩ := h
  obtain ⟨v, ps, hrun, hv⟩ := h1.lookup idsLaw Try.underlying64 (zeroBoolB w) (plainElem_bool Try.underlying4 false) (Maps.keyOf_int_mk Try.underlying3 (wf_i64 hx))
  obtain ⟨y, rfl, hy⟩ := plainElem_bool_inv Try.underlying4 hv
  rw [h2.2 x hx] at hy
  injection hy with hy _
  injection hy with hy
  injection hy with hy
  rw [hrun, hy]
set_option maxRecDepth 100000 in
theorem MapB.put {w : World} {b n : Nat} {S : Int → Bool} (h : MapB w b n S) (hn : n < maxLen) {x : Int} (hx : I64 x) :
    ∃ w', (Instr.mapUpdate 64 (.map (some b)) (.int .i64 x) (.bool true)).run Try.prog w = .ok () w' ∧ MapB w' b (n + 1) (fun t => S t || decide (x = t)) ∧ w.grownBy w' (some b) := by
  obtain ⟨D, h1, h2⟩ := h
  have hkey := Maps.keyOf_int_mk Try.underlying3 (wf_i64 hx)
  obtain ⟨w', hrun, hm, hg⟩ := h1.update idsLaw Try.underlying64 hn hkey (plainElem_bool (H := Unit) Try.underlying4 true)
  exact ⟨w', hrun, ⟨_, hm, h2.put trivial⟩, hg⟩
theorem MapB.of_block {w w' : World} {b n : Nat} {S : Int → Bool} (h : MapB w b n S) (hb : w'.heap[b]? = w.heap[b]?) : MapB w' b n S := by
  obtain ⟨D, ⟨es, clock, h1, h2⟩, h3⟩ := h
  exact ⟨D, ⟨es, clock, hb.trans h1, h2⟩, h3⟩
theorem MapB.below {w w' : World} {b n : Nat} {S : Int → Bool} (h : MapB w b n S) (hb : Below w.heap.size w w') : MapB w' b n S := h.of_block (hb.block _ h.lt)
theorem MapB.is_map {w : World} {b n : Nat} {S : Int → Bool} (h : MapB w b n S) : ∃ es c, w.heap[b]? = some (.map es c) := by
  obtain ⟨D, ⟨es, clock, h1, _⟩, _⟩ := h
  exact ⟨es, clock, h1⟩
theorem Own.cells_of {w : World} {B : Nat} {e : TypeId} {sz n k : Nat} {v : Value} {xs : List Value} (ho : Own w B e sz v n xs) (h : v.ownBlock = some k) : ∃ c fr, w.heap[k]? = some (.cells c e fr) := by
  rcases ho.2 with ⟨rfl, _⟩ | ⟨g, o, cap, cur, rfl, _, hg, _⟩
  · simp [Value.ownBlock] at h
  · simp [Value.ownBlock] at h
    subst h
    exact ⟨_, _, hg⟩
/-- An append onto an owned row leaves the map as it is. -/
theorem MapB.grown {w w' : World} {b n m B : Nat} {S : Int → Bool} {e : TypeId} {sz : Nat} {v : Value} {xs : List Value} (h : MapB w b n S) (ho : Own w B e sz v m xs) (hg : w.grownBy w' v.ownBlock) : MapB w' b n S := by
  refine h.kept hg fun e' => ?_
  obtain ⟨es, c, h1⟩ := h.is_map
  obtain ⟨c2, fr, h2⟩ := ho.cells_of e'.symm
  rw [h1] at h2; cases h2
/-- What is put into a map leaves all cells as they are. -/
theorem MapB.same {w w' : World} {b n : Nat} {S : Int → Bool} (h : MapB w b n S) (hg : w.grownBy w' (some b)) (T : TypeId) : Same T w w' := fun k c fr hk => by
  refine (hg.block k (Array.getElem?_eq_some_iff.1 hk).1 fun e => ?_).trans hk
  injection e with e
  subst e
  obtain ⟨es, c2, h1⟩ := h.is_map
  rw [h1] at hk; cases hk
end Go.Proofs.Ytfjnkidblalckaa

/- Contract: a checker tells a fault. No condition. -/
namespace Go.Proofs.Ytfjnkidblalckaa
open Go Go.RowKit

structure Flt where
  what : Int
  node : Int
  name : ByteArray
def Flt.enc (d : Flt) : List Value := [.int .i64 d.what, .int .i64 d.node, .string d.name]
def Flt.ok (d : Flt) : Prop := I64 d.what ∧ I64 d.node ∧ Sm d.name
theorem Flt.enc_len (d : Flt) : d.enc.length = 3 := rfl
def fltL : Lay Flt := flatL 3 Flt.ok Flt.enc Flt.enc_len
theorem Own.is_cells {w : World} {B : Nat} {e : TypeId} {sz n k : Nat} {v : Value} {xs : List Value} (ho : Own w B e sz v n xs) (h : v.ownBlock = some k) : ∃ c fr, w.heap[k]? = some (.cells c e fr) := by
  rcases ho.2 with ⟨rfl, _⟩ | ⟨g, o, cap, cur, rfl, _, hg2, _⟩
  · simp [Value.ownBlock] at h
  · simp [Value.ownBlock] at h
    subst h
    exact ⟨_, _, hg2⟩
end Go.Proofs.Ytfjnkidblalckaa

/- Plain: a map from texts to ints that the call made, as a function. No condition. -/
namespace Go.Proofs.Ytfjnkidblalckaa
open Go Go.RowKit
open Go.Maps (Keyed)

theorem plainElem_int_inv {H : Type} {P : Program} {e : TypeId} (he : P.underlying e = some (.int .i64)) {v : Value} {z : DataW H × List MemPlace} (h : plainElem P e v = some z) : ∃ n, v = .int .i64 n ∧ z = (.lit (.int .i64 n), []) := by
  unfold plainElem at h
  rw [he] at h
  cases v <;> simp at h
  obtain ⟨⟨rfl, _⟩, rfl⟩ := h
  exact ⟨_, rfl, rfl⟩
def FunIs (D : DataW Unit) (F : ByteArray → Int) : Prop := Maps.IsMap D ∧ ∀ s : ByteArray, s.size ≤ maxLen → D.atKey (.string s.data.toList) (.lit (.int .i64 0)) = .lit (.int .i64 (F s))
theorem FunIs.empty : FunIs (.map []) (fun _ => 0) := ⟨⟨[], rfl⟩, fun _ _ => rfl⟩
theorem FunIs.put {D : DataW Unit} {F : ByteArray → Int} (h : FunIs D F) {x : ByteArray} (n : Int) (hk : WideAt.IsKeyLit (.string x.data.toList)) : FunIs (D.put (.string x.data.toList) (.lit (.int .i64 n))) (fun s => if x = s then n else F s) := by
  refine ⟨h.1.put _ _, fun s hs => ?_⟩
  by_cases e : x = s
  · subst e
    rw [Maps.atKey_put_same h.1 hk]
    simp
  · rw [Maps.atKey_put_other (lit_ne (fun e' => e e'.symm)), h.2 s hs]
    simp [e]
/-- Block b is a map of at most n entries: the function F. -/
def MapI (w : World) (b n : Nat) (F : ByteArray → Int) : Prop :=
  ∃ D : DataW Unit, w.ownsMap Try.prog 9 (plainElem Try.prog 3) b n D ∧ FunIs D F
theorem zeroInt (w : World) : (zeroValue 3).run Try.prog w = .ok (.int .i64 0) w := by kernel_rfl
theorem MapI.made (w : World) : MapI (w.alloc (.map #[] 0)) w.heap.size 0 (fun _ => 0) := ⟨_, World.ownsMap_made w _ _ _, FunIs.empty⟩
theorem MapI.kept {w w' : World} {b n : Nat} {F : ByteArray → Int} {row : Option Nat} (h : MapI w b n F) (hg : w.grownBy w' row) (hne : some b ≠ row) : MapI w' b n F := by
  obtain ⟨D, h1, h2⟩ := h
  exact ⟨D, h1.kept hg hne, h2⟩
theorem MapI.lt {w : World} {b n : Nat} {F : ByteArray → Int} (h : MapI w b n F) : b < w.heap.size := by
  obtain ⟨D, h1, _⟩ := h
  exact h1.lt
end Go.Proofs.Ytfjnkidblalckaa

/- Contracts: kind.FieldsOf's comparison and its binary search. -/
namespace Go.Proofs.Ytfjnkidblalckaa
open Go.RowKit

def fldV (_ : World) (d : Fld) (u : Value) : Prop := u = .agg #[.string d.name, .int .i64 d.ty, .bool d.must, .bool d.key] ∧ d.ok
end Go.Proofs.Ytfjnkidblalckaa

/- Plain: a kind's fields: all of its kin's, sorted by name; two of one name that are not the same: none. -/
namespace Go.Proofs.Ytfjnkidblalckaa

def fldC (name : ByteArray) (f : Fld) : Int := cmpS f.name name
def fldLt (a b : Fld) : Bool := decide (cmpS a.name b.name < 0)
/-- One more field. -/
def putF (l : List Fld) (f : Fld) : Option (List Fld) :=
  if eqAt (fldC f.name) l (lowI (fldC f.name) l) then (if l[lowI (fldC f.name) l]? = some f then some l else none)
  else some (l.take (lowI (fldC f.name) l) ++ f :: l.drop (lowI (fldC f.name) l))
theorem fldC_mono (name : ByteArray) : ∀ a b, fldLt a b = true → 0 ≤ fldC name a → 0 ≤ fldC name b := by
  intro a b h h1
  unfold fldLt at h
  unfold fldC at h1 ⊢
  simp at h
  by_cases hb : cmpS b.name name < 0
  · have := cmpS_trans h hb
    omega
  · omega
/-- Strictly rising by name. -/
def Rise (l : List Fld) : Prop := l.Pairwise fun a b => cmpS a.name b.name < 0
theorem rise_chain {l : List Fld} (h : Rise l) : chain fldLt l = true := by
  rw [chain_iff]
  intro i a b ha hb
  obtain ⟨h1, rfl⟩ := List.getElem?_eq_some_iff.1 ha
  obtain ⟨h2, rfl⟩ := List.getElem?_eq_some_iff.1 hb
  have := List.pairwise_iff_getElem.1 h i (i + 1) h1 h2 (by omega)
  unfold fldLt; simpa using this
theorem putF_rise {l l' : List Fld} {f : Fld} (h : Rise l) (hp : putF l f = some l') : Rise l' := by
  unfold putF at hp
  have hc := rise_chain h
  generalize hk : lowI (fldC f.name) l = k at hp
  have h1 : ∀ i d, i < k → l[i]? = some d → cmpS d.name f.name < 0 := fun i d hi hd => low_lt (c := fldC f.name) (by rw [hk]; exact hi) hd
  have h2 : ∀ i d, k ≤ i → l[i]? = some d → 0 ≤ cmpS d.name f.name := fun i d hi hd => low_ge (c := fldC f.name) hc (fldC_mono f.name) (by rw [hk]; exact hi) hd
  split at hp
  · split at hp
    · injection hp with e; subst e; exact h
    · cases hp
  · rename_i he
    injection hp with e; subst e
    have h3 : ∀ i d, k ≤ i → l[i]? = some d → 0 < cmpS d.name f.name := by
      intro i d hi hd
      have hge := h2 i d hi hd
      by_cases h0 : cmpS d.name f.name = 0
      · exfalso
        by_cases hik : i = k
        · subst hik
          unfold eqAt at he
          rw [hd] at he
          simp [fldC, h0] at he
        · obtain ⟨hl, rfl⟩ := List.getElem?_eq_some_iff.1 hd
          have hkl : k < l.length := by omega
          have h4 := List.pairwise_iff_getElem.1 h k i hkl hl (by omega)
          have h5 := h2 k l[k] (Nat.le_refl _) (List.getElem?_eq_getElem hkl)
          rw [cmpS_zero] at h0
          rw [h0] at h4
          omega
      · omega
    unfold Rise
    rw [List.pairwise_append]
    refine ⟨h.sublist (List.take_sublist _ _), ?_, ?_⟩
    · rw [List.pairwise_cons]
      refine ⟨fun b hb => ?_, h.sublist (List.drop_sublist _ _)⟩
      obtain ⟨i, hi⟩ := List.mem_iff_getElem?.1 hb
      rw [List.getElem?_drop] at hi
      have := h3 _ _ (by omega) hi
      rw [cmpS_anti]; omega
    · intro a ha b hb
      obtain ⟨i, hi⟩ := List.mem_iff_getElem?.1 ha
      rw [List.getElem?_take] at hi
      split at hi
      · rename_i hik
        have hal := h1 i a hik hi
        rcases List.mem_cons.1 hb with rfl | hb
        · exact hal
        · obtain ⟨j, hj⟩ := List.mem_iff_getElem?.1 hb
          rw [List.getElem?_drop] at hj
          have := h3 _ _ (by omega) hj
          exact cmpS_trans hal (by rw [cmpS_anti]; omega)
      · cases hi
/-- All fields of some kinds, one behind the other. -/
def allF (fs : List Fld) : Option (List Fld) := fs.foldlM putF []
def fieldsOf (l : List Knd) (name : ByteArray) : Option (List Fld) :=
  allF ((kinL l name).flatMap fun s => match l.find? (fun k => decide (k.name = s)) with | some k => k.fields | none => [])
theorem mem_putF {l l' : List Fld} {f : Fld} (hp : putF l f = some l') : ∀ x, x ∈ l' ↔ x ∈ l ∨ x = f := by
  unfold putF at hp
  intro x
  split at hp
  · split at hp
    · rename_i hf
      injection hp with e; subst e
      constructor
      · exact .inl
      · rintro (h | rfl)
        · exact h
        · exact List.mem_of_getElem? hf
    · cases hp
  · injection hp with e; subst e
    generalize lowI (fldC f.name) l = k
    have : x ∈ l ↔ x ∈ l.take k ∨ x ∈ l.drop k := by rw [← List.mem_append, List.take_append_drop]
    rw [this, List.mem_append, List.mem_cons]
    constructor
    · rintro (h | h | h)
      · exact .inl (.inl h)
      · exact .inr h
      · exact .inl (.inr h)
    · rintro ((h | h) | h)
      · exact .inl h
      · exact .inr (.inr h)
      · exact .inr (.inl h)
end Go.Proofs.Ytfjnkidblalckaa

/- Contracts: value.Type, kind.fields. -/
namespace Go.Proofs.Ytfjnkidblalckaa
open Go.RowKit

def tyB (t : Int) : Bool := decide (1 ≤ t ∧ t ≤ 3)
/-- What is wrong with one field, behind another one. -/
def fldE (p : Option Fld) (f : Fld) : Int :=
  if nameE f.name = 0 then (if tyB f.ty then (if f.key && !f.must then 3 else match p with | some q => (if ltS q.name f.name then 0 else 7) | none => 0) else 8) else nameE f.name
def fldsE : Option Fld → List Fld → Int
  | _, [] => 0
  | p, f :: r => if fldE p f = 0 then fldsE (some f) r else fldE p f
theorem prev_succ {D : Type} {l : List D} {k : Nat} {d : D} (h : l[k]? = some d) : prev l (k + 1) = some d := by
  unfold prev; simpa using h
theorem cell_box4 (w : World) (a b c d : Value) (t : TypeId) : (w.alloc (.cells #[a, b, c, d] t)).cell? ⟨w.heap.size, 0, none⟩ = some a ∧ (w.alloc (.cells #[a, b, c, d] t)).cell? ⟨w.heap.size, 1, none⟩ = some b ∧
    (w.alloc (.cells #[a, b, c, d] t)).cell? ⟨w.heap.size, 2, none⟩ = some c ∧ (w.alloc (.cells #[a, b, c, d] t)).cell? ⟨w.heap.size, 3, none⟩ = some d :=
  ⟨by rw [World.cell?_alloc_at _ _ _ _ rfl]; rfl, by rw [World.cell?_alloc_at _ _ _ _ rfl]; rfl, by rw [World.cell?_alloc_at _ _ _ _ rfl]; rfl, by rw [World.cell?_alloc_at _ _ _ _ rfl]; rfl⟩
end Go.Proofs.Ytfjnkidblalckaa
