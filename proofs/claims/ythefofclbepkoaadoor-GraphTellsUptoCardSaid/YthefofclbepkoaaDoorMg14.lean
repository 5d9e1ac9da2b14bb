/- Parts: KinI, KinJ, KinK, KinL, SamA, RefA. -/
import Derived.Test.YthefofclbepkoaaDoorMg13
import Derived.Test.YthefofclbepkoaaDoorMg07
import Derived.Deep.RegionHeld3
import Derived.Test.YthefofclbepkoaaDoorMg11
import Derived.Test.YthefofclbepkoaaDoorMg05
/- Contract: kind.one: what is wrong with one kind, behind those that are right. -/
namespace Go.Proofs.YthefofclbepkoaaDoor
open Go Go.RowKit

theorem Sl.take {D : Type} {L : Lay D} {w : World} {A : Option Addr} {n c : Nat} {l : List D} (h : Sl L w (.slice A n c) l) {k : Nat} (hk : k ≤ l.length) : Sl L w (.slice A k c) (l.take k) := by
  obtain ⟨A', c', hv, h1, h2, h3⟩ := h
  injection hv with hA hn hc
  subst hA; subst hc
  have hl : (l.take k).length = k := by simp; omega
  refine ⟨A, c, by rw [hl], by rw [hl]; omega, h2, fun i d hi => ?_⟩
  rw [List.getElem?_take] at hi
  split at hi
  · exact h3 i d hi
  · cases hi
theorem errV7 : errV 7 = .iface 83 (.int .i64 7) := by simp [errV]
theorem errV4 : errV 4 = .iface 83 (.int .i64 4) := by simp [errV]
theorem errV5 : errV 5 = .iface 83 (.int .i64 5) := by simp [errV]
theorem errV1 : errV 1 = .iface 83 (.int .i64 1) := by simp [errV]
theorem errV0 : errV 0 = .nilIface := by simp [errV]
theorem ofsE_step {l : List Knd} {r : List ByteArray} {j : Nat} {s : ByteArray} (hs : r[j]? = some s) {E : Int} (h : E = ofsE l (r.take j) (r.drop j)) :
    E = if kFind l s < 0 then 5 else if (r.take j).any (fun y => decide (s = y)) then 7 else ofsE l (r.take (j + 1)) (r.drop (j + 1)) := by
  rw [h, drop_cons hs, ofsE, take_step hs]

set_option maxRecDepth 100000 in
set_option maxHeartbeats 8000000 in
theorem one_any (l : List Knd) (k : Knd) (v u1 u2 : Value) (w : World) (hv : Sl kndL w v l) (h1 : Sl strL w u1 k.ofs) (h2 : Sl fldL w u2 k.fields) (hnm : Sm k.name) (hl : l.length ≤ 12) (hofs : ∀ x ∈ l, x.ofs.length ≤ 4) (hfl : ∀ x ∈ l, x.fields.length ≤ 8) :
    Calls Tryd.prog 123 #[v, .agg #[.string k.name, u1, u2]] w fun e w' => e = .returned (errV (oneE l k)) ∧ Below w.heap.size w w' := by
  obtain ⟨A, c, rfl, _, hcA⟩ := hv.form
  obtain ⟨A1, c1, rfl, _, hc1⟩ := h1.form
  obtain ⟨A2, c2, rfl, _, hc2⟩ := h2.form
  unfold maxLen at hc1 hc2 hcA
  obtain ⟨z0, z1, z2⟩ := cell_box3 w (.string k.name) (.slice A1 k.ofs.length c1) (.slice A2 k.fields.length c2) 42
  have hb0 : Below w.heap.size w (w.alloc (.cells #[.string k.name, .slice A1 k.ofs.length c1, .slice A2 k.fields.length c2] 42)) := (Below.refl _ _).alloc (Nat.le_refl _) _
  have HOF := Lib.hid hofs
  have HFL := Lib.hid hfl
  clear hofs hfl
  go_enter Tryd.func123, Tryd.ntmps123
  go_wp2_with fail
  refine (name_any k.name _ hnm).mono ?_
  rintro e w1 ⟨rfl, hb1⟩
  have hB1 := hb0.trans (hb1.mono hb0.size)
  have p0 := cell_below hb1 z0
  have p1 := cell_below hb1 z1
  have p2 := cell_below hb1 z2
  generalize w.alloc (.cells #[.string k.name, .slice A1 k.ofs.length c1, .slice A2 k.fields.length c2] 42) = W at *
  clear z0 z1 z2
  by_cases hn : nameE k.name = 0
  case neg =>
    have HE : Hid (errV (oneE l k) = .iface 83 (.int .i64 (nameE k.name))) := by unfold Hid oneE; rw [if_neg hn, errV_some hn]
    rw [errV_some hn]
    clear hn
    go_wp2_with fail
    go_ret
    exact ⟨by rw [HE.out]; rfl, hB1⟩
  have HE1 : Hid (oneE l k = if 0 ≤ kFind l k.name then 7 else if 4 < k.ofs.length then 4 else if 8 < k.fields.length then 4 else if ofsE l [] k.ofs = 0 then if fldsE none k.fields = 0 then sumE (fieldsOf (l ++ [k]) k.name) else fldsE none k.fields else ofsE l [] k.ofs) := by
    unfold Hid oneE; rw [if_pos hn]
  rw [errV_zero hn]
  clear hn
  go_wp2_with fail
  refine (kFind_any l k.name _ _ (hv.below hB1)).mono ?_
  rintro e w2 ⟨rfl, hb2⟩
  have hB2 := hB1.trans (hb2.mono hB1.size)
  have q0 := cell_below hb2 p0
  have q1 := cell_below hb2 p1
  have q2 := cell_below hb2 p2
  clear p0 p1 p2 hb1 hB1
  generalize kFind l k.name = z at *
  by_cases hz : 0 ≤ z
  case pos =>
    have HE : Hid (errV (oneE l k) = .iface 83 (.int .i64 7)) := by unfold Hid; rw [HE1.out, if_pos hz, errV7]
    clear HE1
    go_wp2_with fail
    go_ret
    exact ⟨by rw [HE.out]; rfl, hB2⟩
  have hz' : z < 0 := by omega
  have HE2 : Hid (oneE l k = if 4 < k.ofs.length then 4 else if 8 < k.fields.length then 4 else if ofsE l [] k.ofs = 0 then if fldsE none k.fields = 0 then sumE (fieldsOf (l ++ [k]) k.name) else fldsE none k.fields else ofsE l [] k.ofs) := by
    unfold Hid; rw [HE1.out, if_neg hz]
  clear HE1 hz
  by_cases h4 : 4 < k.ofs.length
  case pos =>
    have HE : Hid (errV (oneE l k) = .iface 83 (.int .i64 4)) := by unfold Hid; rw [HE2.out, if_pos h4, errV4]
    have h4' : (4 : Int) < (k.ofs.length : Int) := by omega
    clear HE2
    go_wp2_with fail
    go_ret
    exact ⟨by rw [HE.out]; rfl, hB2⟩
  have h4' : (k.ofs.length : Int) ≤ 4 := by omega
  by_cases h8 : 8 < k.fields.length
  case pos =>
    have HE : Hid (errV (oneE l k) = .iface 83 (.int .i64 4)) := by unfold Hid; rw [HE2.out, if_neg h4, if_pos h8, errV4]
    have h8' : (8 : Int) < (k.fields.length : Int) := by omega
    clear HE2
    go_wp2_with fail
    go_ret
    exact ⟨by rw [HE.out]; rfl, hB2⟩
  have h8' : (k.fields.length : Int) ≤ 8 := by omega
  have HE3 : Hid (oneE l k = if ofsE l [] k.ofs = 0 then if fldsE none k.fields = 0 then sumE (fieldsOf (l ++ [k]) k.name) else fldsE none k.fields else ofsE l [] k.ofs) := by
    unfold Hid; rw [HE2.out, if_neg h4, if_neg h8]
  clear HE2
  go_wp2_with fail
  go_loopw [39] (fun i wr => ∃ j : Nat, j ≤ k.ofs.length ∧ i = .int .i64 j ∧ Below w2.heap.size w2 wr ∧ Hid (ofsE l [] k.ofs = ofsE l (k.ofs.take j) (k.ofs.drop j))) (fun i _ => k.ofs.length - (intOf i).toNat)
  case atStart => exact ⟨0, Nat.zero_le _, rfl, Below.refl _ _, rfl⟩
  case round =>
    obtain ⟨j, hj, rfl, hbr, HR⟩ := hrel
    have hBr := hB2.trans (hbr.mono hB2.size)
    have r0 := cell_below hbr q0
    have r1 := cell_below hbr q1
    have r2 := cell_below hbr q2
    clear q0 q1 q2 hb2 hB2
    by_cases hlt : j < k.ofs.length
    · obtain ⟨s, hs⟩ : ∃ s, k.ofs[j]? = some s := ⟨_, List.getElem?_eq_getElem hlt⟩
      obtain ⟨bs, os, rfl, hss, x0⟩ := str_at (h1.below hBr) hs
      have HS := Lib.hid (ofsE_step hs HR.out)
      have hlt' : (j : Int) < (k.ofs.length : Int) := by omega
      have htk := h1.take hj
      clear hs HR
      go_wp2_with fail
      refine (kFind_any l s _ _ (hv.below hBr)).mono ?_
      rintro e w3 ⟨rfl, hb3⟩
      have hB3 := hBr.trans (hb3.mono hBr.size)
      have s0 := cell_below hb3 r0
      have s1 := cell_below hb3 r1
      have s2 := cell_below hb3 r2
      clear r0 r1 r2 x0
      generalize kFind l s = z2 at *
      by_cases hz2 : z2 < 0
      · have HE : Hid (errV (oneE l k) = .iface 83 (.int .i64 5)) := by unfold Hid; rw [HE3.out, HS.out, if_pos hz2, if_neg (by omega), errV5]
        clear HE3 HS
        go_wp2_with fail
        go_ret
        exact ⟨by rw [HE.out]; rfl, hB3⟩
      · have hz3 : 0 ≤ z2 := by omega
        have HS2 : Hid (ofsE l [] k.ofs = if (k.ofs.take j).any (fun y => decide (s = y)) then 7 else ofsE l (k.ofs.take (j + 1)) (k.ofs.drop (j + 1))) := by unfold Hid; rw [HS.out, if_neg hz2]
        have hj' : (j : Int) ≤ (c1 : Int) := by omega
        clear HS hz2
        go_wp2_with fail
        refine (containsStr_any _ s _ _ (htk.below hB3)).mono ?_
        rintro e w4 ⟨rfl, rfl⟩
        cases hany : (k.ofs.take j).any (fun y => decide (s = y)) with
        | true =>
          have HE : Hid (errV (oneE l k) = .iface 83 (.int .i64 7)) := by unfold Hid; rw [HE3.out, HS2.out, hany, if_pos rfl, if_neg (by omega), errV7]
          clear HE3 HS2 hany
          go_wp2_with fail
          go_ret
          exact ⟨by rw [HE.out]; rfl, hB3⟩
        | false =>
          have HN : Hid (ofsE l [] k.ofs = ofsE l (k.ofs.take (j + 1)) (k.ofs.drop (j + 1))) := by unfold Hid; rw [HS2.out, hany]; simp
          clear HE3 HS2 hany
          go_wp2_with fail
          go_roundw
          case rel => exact ⟨j + 1, by omega, by go_num, hbr.trans (hb3.mono hbr.size), HN⟩
          case measure => simp [intOf]; omega
    · obtain rfl : j = k.ofs.length := by omega
      have HO : Hid (ofsE l [] k.ofs = 0) := by unfold Hid; rw [HR.out, List.drop_length]; rfl
      have HE4 : Hid (oneE l k = if fldsE none k.fields = 0 then sumE (fieldsOf (l ++ [k]) k.name) else fldsE none k.fields) := by unfold Hid; rw [HE3.out, if_pos HO.out]
      clear HE3 HO HR
      go_wp2_with fail
      refine (flds_any k.fields _ _ (h2.below hBr)).mono ?_
      rintro e w3 ⟨rfl, hb3⟩
      have hB3 := hBr.trans (hb3.mono hBr.size)
      have s0 := cell_below hb3 r0
      have s1 := cell_below hb3 r1
      have s2 := cell_below hb3 r2
      clear r0 r1 r2
      by_cases hf : fldsE none k.fields = 0
      case neg =>
        have HE : Hid (errV (oneE l k) = .iface 83 (.int .i64 (fldsE none k.fields))) := by unfold Hid; rw [HE4.out, if_neg hf, errV_some hf]
        rw [errV_some hf]
        clear hf HE4
        go_wp2_with fail
        go_ret
        exact ⟨by rw [HE.out]; rfl, hB3⟩
      have HE5 : Hid (oneE l k = sumE (fieldsOf (l ++ [k]) k.name)) := by unfold Hid; rw [HE4.out, if_pos hf]
      rw [errV_zero hf]
      clear hf HE4
      have hv3 := hv.below hB3
      have hbs : w.heap.size < w3.heap.size := World.block_lt_of_cell? _ _ s0
      obtain ⟨i0, ei, ez, ez1, ez2⟩ := info_parts clone_knds_info
      go_wp2_with fail
      go_region_held3 (fun w' => w'.cell? ⟨w.heap.size, 0, none⟩ = some (.string k.name) ∧ w'.cell? ⟨w.heap.size, 1, none⟩ = some (.slice A1 k.ofs.length c1) ∧ w'.cell? ⟨w.heap.size, 2, none⟩ = some (.slice A2 k.fields.length c2))
        (first
          | exact hkeep
          | go_keep)
        (first
          | (go_at_call 139
             refine (clone_knds (l := l) (hv3.below (Below.refl _ _).drew) (by omega)).mono ?_
             rintro e w4 ⟨cv, xs, rfl, hown, hrow, hb4⟩
             have hkeep := And.intro (cell_below hb4 s0) (And.intro (cell_below hb4 s1) (cell_below hb4 s2))
             have hordA : True := trivial)
          | (go_at_call 139
             refine (clone_knds (l := l) (hv3.below ((Below.refl _ _).drew.alloc (Nat.le_refl _) _)) (by omega)).mono ?_
             rintro e w4 ⟨cv, xs, rfl, hown, hrow, hb4⟩
             have hkeep := And.intro (cell_below hb4 (cell_below ((Below.refl _ _).alloc (Nat.le_refl _) _) s0)) (And.intro (cell_below hb4 (cell_below ((Below.refl _ _).alloc (Nat.le_refl _) _) s1)) (cell_below hb4 (cell_below ((Below.refl _ _).alloc (Nat.le_refl _) _) s2)))
             have hordB : True := trivial)
          | (have _t := hordA
             refine wp_append_q _ (.tmp 66) (.tmp 68) 22 rfl w3.heap.size 42 i0 (.agg #[.string .empty, .slice none 0 0, .slice none 0 0]) 3 64 Tryd.underlying22 ei ez ez1 ez2 rfl (by decide) cv l.length xs rfl (hown.alloc _) (some ⟨w4.heap.size, 0, none⟩) 1 1 [.string k.name, .slice A1 k.ofs.length c1, .slice A2 k.fields.length c2] rfl rfl
               (fun _ => ⟨_, rfl, fun j u hj => by rw [addr_add, Nat.zero_add, World.cell?_alloc_at _ _ _ _ rfl]; simpa using hj⟩) (fun u hu => by simp at hu; rcases hu with rfl | rfl | rfl <;> rfl) (by unfold maxLen; omega) (by omega) (by have := hb4.size; simp at this ⊢; omega) ?_
             intro v7 w7 hown7 hg7 hat7
             have hbX := (hb4.alloc hb4.size _).grown hg7 (by have := hb4.size; simp at this ⊢; omega) (fun kk e => (hown.lt kk e).1)
             have hb7 : Below w3.heap.size w3 w7 := (Below.refl _ _).drew.trans hbX
             have hrow7 := hrow.below hbX
             have hkeep := And.intro (cell_below hb7 s0) (And.intro (cell_below hb7 s1) (cell_below hb7 s2))
             clear hordA)
          | (have _t := hordB
             refine wp_append_q _ (.tmp 66) (.tmp 68) 22 rfl w3.heap.size 42 i0 (.agg #[.string .empty, .slice none 0 0, .slice none 0 0]) 3 64 Tryd.underlying22 ei ez ez1 ez2 rfl (by decide) cv l.length xs rfl (hown.mono (by simp)) (some ⟨w3.heap.size, 0, none⟩) 1 1 [.string k.name, .slice A1 k.ofs.length c1, .slice A2 k.fields.length c2] rfl rfl
               (fun _ => ⟨_, rfl, fun j u hj => by rw [addr_add, Nat.zero_add]; exact cell_below hb4 (by show (w3.alloc _).cell? _ = _; rw [World.cell?_alloc_at _ _ _ _ rfl]; simpa using hj)⟩) (fun u hu => by simp at hu; rcases hu with rfl | rfl | rfl <;> rfl) (by unfold maxLen; omega) (by omega) (by have := hb4.size; simp at this ⊢; omega) ?_
             intro v7 w7 hown7 hg7 hat7
             have hbX := hb4.grown hg7 hb4.size (fun kk e => (hown.lt kk e).1)
             have hb7 : Below w3.heap.size w3 w7 := ((Below.refl _ _).alloc (Nat.le_refl _) _).drew.trans (hbX.mono (by simp))
             have hrow7 := hrow.below hbX
             have hkeep := And.intro (cell_below hb7 s0) (And.intro (cell_below hb7 s1) (cell_below hb7 s2))
             clear hordB))
      all_goals
        have hB7 := hB3.trans (hb7.mono hB3.size)
        have hsl7 : Sl kndL w7 v7 (l ++ [k]) := by
          have hr7 : Row kndL w7 (l ++ [k]) (xs ++ [.string k.name, .slice A1 k.ofs.length c1, .slice A2 k.fields.length c2]) :=
            hrow7.snoc ⟨_, _, rfl, hnm, h1.below hB7, h2.below hB7⟩
          exact Own.row (L := kndL) (by rw [List.length_append]; exact hown7) hr7
        obtain ⟨t0, t1, t2⟩ := hkeep
        have hfo := fieldsOf_any (l ++ [k]) k.name v7 w7 hsl7 hnm (by simp; omega) (fun x hx => by
            rcases List.mem_append.1 hx with h | h
            · have := HOF.out x h; omega
            · simp at h; subst h; omega) (fun x hx => by
            rcases List.mem_append.1 hx with h | h
            · exact HFL.out x h
            · simp at h; subst h; omega)
        clear hg7 hat7 hown7 hown hrow hrow7 hbX
        generalize l ++ [k] = l7 at *
        obtain ⟨A7, c7, rfl, _, _⟩ := hsl7.form
        clear hsl7
        go_wp2_with fail
        refine hfo.mono ?_
        clear hfo
        rintro e w8 ⟨fv, rfl, hfs, hb8⟩
        have hB8 := hB7.trans (hb8.mono hB7.size)
        obtain ⟨Af, cf, rfl, _, _⟩ := hfs.form
        have hf2 := hfs
        cases hF : fieldsOf l7 k.name with
        | none =>
          have HE : Hid (errV (oneE l k) = .iface 83 (.int .i64 7)) := by unfold Hid; rw [HE5.out, hF]; simp [sumE, errV]
          clear HE5 hF hfs hf2
          simp only [Option.isSome, Option.getD]
          go_wp2_with fail
          go_ret
          exact ⟨by rw [HE.out]; rfl, hB8⟩
        | some fs =>
          simp only [Option.isSome, Option.getD]
          by_cases h9 : 8 < fs.length
          · have HE : Hid (errV (oneE l k) = .iface 83 (.int .i64 4)) := by unfold Hid; rw [HE5.out, hF]; simp [sumE, h9, errV]
            have h9' : (8 : Int) < (fs.length : Int) := by omega
            clear HE5 hF hfs hf2
            go_wp2_with fail
            go_ret
            exact ⟨by rw [HE.out]; rfl, hB8⟩
          · have HE : Hid (errV (oneE l k) = .nilIface) := by unfold Hid; rw [HE5.out, hF]; simp [sumE, h9, errV]
            have h9' : (fs.length : Int) ≤ 8 := by omega
            clear HE5 hF hfs hf2
            go_wp2_with fail
            go_ret
            exact ⟨by rw [HE.out]; rfl, hB8⟩
end Go.Proofs.YthefofclbepkoaaDoor

/- Contracts: kind.Check, kind.ready, kind.Kin, kind.IsKin, kind.Is, kind.Fields, kind.Under. -/
namespace Go.Proofs.YthefofclbepkoaaDoor
open Go Go.RowKit

theorem kindsE_step {l : List Knd} {j : Nat} {k : Knd} (hk : l[j]? = some k) {E : ByteArray × Int} (h : E = kindsE (l.take j) (l.drop j)) :
    E = if oneE (l.take j) k = 0 then kindsE (l.take (j + 1)) (l.drop (j + 1)) else (k.name, oneE (l.take j) k) := by
  rw [h, drop_cons hk, kindsE, take_step hk]
def CheckR (l : List Knd) (w : World) (e : Ending) (w' : World) : Prop := e = .returned (.tuple #[.string (checkE l).1, errV (checkE l).2]) ∧ Below w.heap.size w w'
theorem oneE_ofl {l : List Knd} {k : Knd} (h : oneE l k = 0) : k.ofs.length ≤ 4 ∧ k.fields.length ≤ 8 := ⟨(oneE_zero h).ofl, (oneE_zero h).fll⟩

set_option maxRecDepth 100000 in
set_option maxHeartbeats 4000000 in
theorem kcheck_any (l : List Knd) (v : Value) (w : World) (hv : Sl kndL w v l) : Calls Tryd.prog 104 #[v] w (CheckR l w) := by
  obtain ⟨A, c, rfl, hlc, hcA⟩ := hv.form
  unfold maxLen at hcA
  have hlm : (l.length : Int) ≤ 9223372036854775807 := by omega
  by_cases h12 : 12 < l.length
  · have HE : Hid (checkE l = (.empty, 4)) := by unfold Hid checkE; rw [if_pos h12]
    have h12' : (12 : Int) < (l.length : Int) := by omega
    clear hv
    go_enter Tryd.func104, Tryd.ntmps104
    go_wp2_with fail
    go_ret2
    exact ⟨by rw [HE.out, errV4]; rfl, Below.refl _ _⟩
  have h12' : (l.length : Int) ≤ 12 := by omega
  have HE0 : Hid (checkE l = kindsE [] l) := by unfold Hid checkE; rw [if_neg h12]
  go_enter Tryd.func104, Tryd.ntmps104
  go_wp2_with fail
  go_loopw [13] (fun i wr => ∃ j : Nat, j ≤ l.length ∧ i = .int .i64 j ∧ Below w.heap.size w wr ∧ Hid (kindsE [] l = kindsE (l.take j) (l.drop j)) ∧ Hid (∀ x ∈ l.take j, x.ofs.length ≤ 4 ∧ x.fields.length ≤ 8)) (fun i _ => l.length - (intOf i).toNat)
  case atStart => exact ⟨0, Nat.zero_le _, rfl, Below.refl _ _, rfl, fun x hx => by simp at hx⟩
  case round =>
    obtain ⟨j, hj, rfl, hbr, HR, HS⟩ := hrel
    by_cases hlt : j < l.length
    · obtain ⟨k, hk⟩ : ∃ k, l[j]? = some k := ⟨_, List.getElem?_eq_getElem hlt⟩
      obtain ⟨b, o, rfl, u, x, hnm, hso, hsf, c0, c1, c2⟩ := knd_at (hv.below hbr) hk
      obtain ⟨A1, q1, rfl, _, _⟩ := hso.form
      obtain ⟨A2, q2, rfl, _, _⟩ := hsf.form
      obtain ⟨z0, z1, z2⟩ := cell_box3 wr (.string k.name) (.slice A1 k.ofs.length q1) (.slice A2 k.fields.length q2) 42
      have hbb : Below wr.heap.size wr (wr.alloc (.cells #[.string k.name, .slice A1 k.ofs.length q1, .slice A2 k.fields.length q2] 42)) := (Below.refl _ _).alloc (Nat.le_refl _) _
      have hlt' : (j : Int) < (l.length : Int) := by omega
      have hjc : (j : Int) ≤ (c : Int) := by omega
      have hlk : (l.take j).length ≤ 12 := by simp; omega
      have HV : Hid (Sl kndL (wr.alloc (.cells #[.string k.name, .slice A1 k.ofs.length q1, .slice A2 k.fields.length q2] 42)) (.slice (some ⟨b, o, none⟩) j c) (l.take j)) := (Sl.take ((hv.below hbr).below hbb) hj)
      have HSO := Lib.hid (hso.below hbb)
      have HSF := Lib.hid (hsf.below hbb)
      have HK := Lib.hid (kindsE_step hk HR.out)
      have HT := Lib.hid (take_step hk)
      clear hk HR hso hsf
      go_wp2_with fail
      refine wp_mid_k 4 _ rfl rfl (by kernel_rfl) (by kernel_rfl) ?_
      simp only [List.take_succ_cons, List.take_zero, List.drop_succ_cons, List.drop_zero]
      repeat (go_big_quiet_step (fail))
      refine wpQuiet_nil ?_
      intro _ hw'
      obtain ⟨nq, hw''⟩ := hw'
      subst hw''
      intro K hK
      have hone := one_any (l.take j) k _ _ _ _ (HV.out.below (below_drewN (Below.refl _ _) nq)) (HSO.out.below (below_drewN (Below.refl _ _) nq)) (HSF.out.below (below_drewN (Below.refl _ _) nq)) hnm hlk (fun x hx => (HS.out x hx).1) (fun x hx => (HS.out x hx).2)
      have hbN : Below w.heap.size w ((wr.alloc (.cells #[.string k.name, .slice A1 k.ofs.length q1, .slice A2 k.fields.length q2] 42)).drewN nq) := below_drewN (hbr.alloc hbr.size _) nq
      have y0 : ((wr.alloc (.cells #[.string k.name, .slice A1 k.ofs.length q1, .slice A2 k.fields.length q2] 42)).drewN nq).cell? ⟨wr.heap.size, 0, none⟩ = some (.string k.name) := z0
      go_wp2_with fail
      refine hone.mono ?_
      clear hone
      rintro e w3 ⟨rfl, hb3⟩
      have hB3 := hbN.trans (hb3.mono hbN.size)
      have x0 := cell_below hb3 y0
      clear y0 z0 z1 z2 hb3 hbN
      by_cases he : oneE (l.take j) k = 0
      · have HN : Hid (kindsE [] l = kindsE (l.take (j + 1)) (l.drop (j + 1))) := by unfold Hid; rw [HK.out, if_pos he]
        have HS2 : Hid (∀ x ∈ l.take (j + 1), x.ofs.length ≤ 4 ∧ x.fields.length ≤ 8) := by
          intro x hx
          rw [HT.out] at hx
          rcases List.mem_append.1 hx with h | h
          · exact HS.out x h
          · simp at h; subst h; exact oneE_ofl he
        rw [errV_zero he]
        clear he HK
        refine hK _ _ ?_
        repeat (go_big_quiet_step (fail))
        refine wpQuiet_nil ?_
        intro _ hw'
        obtain ⟨nq2, hw''⟩ := hw'
        subst hw''
        go_wp2_with fail
        go_roundw
        case rel => exact ⟨j + 1, by omega, by go_num, below_drewN hB3 _, HN, HS2⟩
        case measure => simp [intOf]; omega
      · have HE : Hid (checkE l = (k.name, oneE (l.take j) k)) := by unfold Hid; rw [HE0.out, HK.out, if_neg he]
        have HV : Hid (errV (oneE (l.take j) k) = .iface 83 (.int .i64 (oneE (l.take j) k))) := errV_some he
        rw [errV_some he]
        clear he HK
        refine hK _ _ ?_
        repeat (go_big_quiet_step (fail))
        refine wpQuiet_nil ?_
        intro _ hw'
        obtain ⟨nq2, hw''⟩ := hw'
        subst hw''
        go_wp2_with fail
        go_ret2
        exact ⟨by rw [HE.out, HV.out]; rfl, below_drewN hB3 _⟩
    · obtain rfl : j = l.length := by omega
      have HE : Hid (checkE l = (.empty, 0)) := by unfold Hid; rw [HE0.out, HR.out, List.drop_length]; rfl
      clear hv
      go_wp2_with fail
      go_ret2
      exact ⟨by rw [HE.out, errV0]; rfl, hbr⟩
end Go.Proofs.YthefofclbepkoaaDoor

/- Contracts: kind.ready, kind.Kin, kind.IsKin, kind.Is, kind.Fields. -/
namespace Go.Proofs.YthefofclbepkoaaDoor
open Go Go.RowKit

/-- A list and an error. -/
def RetL {D : Type} (L : Lay D) (l : List D) (err : Int) (w : World) (e : Ending) (w' : World) : Prop := ∃ v, e = .returned (.tuple #[v, errV err]) ∧ Sl L w' v l ∧ Below w.heap.size w w'

def strV (_ : World) (d : ByteArray) (u : Value) : Prop := u = .string d ∧ Sm d
def readyE (l : List Knd) (names : List ByteArray) : Int := if (checkE l).2 = 0 then (if names.any (fun s => decide (kFind l s < 0)) then 5 else 0) else (checkE l).2
theorem readyE_zero {l : List Knd} {names : List ByteArray} (h : readyE l names = 0) : Right l ∧ ∀ s ∈ names, 0 ≤ kFind l s := by
  unfold readyE at h
  split at h
  · rename_i h0
    split at h
    · omega
    · rename_i h1
      refine ⟨checkE_zero h0, fun s hs => ?_⟩
      rcases Int.lt_or_le (kFind l s) 0 with h2 | h2
      · exact absurd (List.any_eq_true.2 ⟨s, hs, decide_eq_true h2⟩) h1
      · exact h2
  · rename_i h0; exact absurd h h0
def isKinB (l : List Knd) (a b : ByteArray) : Bool := (kinL l a).any fun y => decide (b = y)
def kinR (l : List Knd) (name : ByteArray) : List ByteArray := if readyE l [name] = 0 then kinL l name else []
def fieldsR (l : List Knd) (name : ByteArray) : List Fld := if readyE l [name] = 0 then (fieldsOf l name).getD [] else []
def isR (l : List Knd) (a b : ByteArray) : Bool := if readyE l [a, b] = 0 then isKinB l a b else false
end Go.Proofs.YthefofclbepkoaaDoor

/- Contract: kind.Under: all that come of a kind. -/
namespace Go.Proofs.YthefofclbepkoaaDoor
open Go Go.RowKit

def underL (l : List Knd) (name : ByteArray) : List ByteArray := (l.filter fun k => isKinB l k.name name).map (·.name)
def underR (l : List Knd) (name : ByteArray) : List ByteArray := if readyE l [name] = 0 then underL l name else []
theorem under_step {l : List Knd} {name : ByteArray} {k : Nat} {d : Knd} (hd : l[k]? = some d) {r u : List ByteArray} (h : u = r ++ ((l.drop k).filter fun k => isKinB l k.name name).map (·.name)) :
    u = (r ++ if isKinB l d.name name then [d.name] else []) ++ ((l.drop (k + 1)).filter fun k => isKinB l k.name name).map (·.name) := by
  rw [h, drop_cons hd, List.filter_cons]
  cases isKinB l d.name name <;> simp
end Go.Proofs.YthefofclbepkoaaDoor

/- Contracts: kinsame.Texts, kinsame.Fields. No condition. -/
namespace Go.Proofs.YthefofclbepkoaaDoor
open Go Go.RowKit


theorem drewN_step {w wr : World} (h : ∃ m, wr = w.drewN m) (n : Nat) : ∃ m, wr.drewN n = w.drewN m := by
  obtain ⟨m, rfl⟩ := h
  exact ⟨m + n, World.drewN_drewN ..⟩
/-- Two lists, place by place. -/
theorem lists_eq {D : Type} [DecidableEq D] {a b : List D} (hl : a.length = b.length) (h : ∀ j x y, j < a.length → a[j]? = some x → b[j]? = some y → x = y) : a = b := by
  apply List.ext_getElem? 
  intro i
  by_cases hi : i < a.length
  · have h1 := List.getElem?_eq_getElem hi
    have h2 : b[i]? = some b[i] := List.getElem?_eq_getElem (by omega)
    rw [h1, h2, h i _ _ hi h1 h2]
  · rw [List.getElem?_eq_none (by omega), List.getElem?_eq_none (by omega)]
set_option maxHeartbeats 1000000 in
theorem texts_any_q (a b : List ByteArray) (va vb : Value) (w : World) (ha : Sl strL w va a) (hb : Sl strL w vb b) : Calls Tryd.prog 12 #[va, vb] w fun e w' => e = .returned (.bool (decide (a = b))) ∧ ∃ m, w' = w.drewN m := by
  obtain ⟨A, c, rfl, _, hcm⟩ := ha.form
  obtain ⟨B, d, rfl, _, hdm⟩ := hb.form
  unfold maxLen at hcm hdm
  by_cases hl : a.length = b.length
  case neg =>
    have HE : Hid (decide (a = b) = false) := decide_eq_false fun e => hl (by rw [e])
    have hl' : decide ((a.length : Int) = (b.length : Int)) = false := decide_eq_false (by omega)
    have hl2 : ((a.length : Int) == (b.length : Int)) = false := by rw [beq_eq_false_iff_ne]; omega
    clear ha hb hl
    go_enter Tryd.func12, Tryd.ntmps12
    go_wp2_with fail
    go_ret
    exact ⟨by rw [HE.out]; rfl, 0, rfl⟩
  have HL := Lib.hid hl
  have hlb : a.length ≤ b.length := by omega
  rw [← hl]
  clear hl
  go_enter Tryd.func12, Tryd.ntmps12
  go_wp2_with fail
  go_loopw [5] (fun i wr => ∃ k : Nat, k ≤ a.length ∧ i = .int .i64 k ∧ Below w.heap.size w wr ∧ Hid (∃ m, wr = w.drewN m) ∧ Hid (∀ j x y, j < k → a[j]? = some x → b[j]? = some y → x = y)) (fun i _ => a.length - (intOf i).toNat)
  case atStart => exact ⟨0, Nat.zero_le _, rfl, Below.refl _ _, ⟨0, rfl⟩, fun j x y hj => absurd hj (Nat.not_lt_zero _)⟩
  case round =>
    obtain ⟨k, hk, rfl, hbr, HM, HA⟩ := hrel
    by_cases hlt : k < a.length
    · obtain ⟨x, hx⟩ : ∃ d, a[k]? = some d := ⟨_, List.getElem?_eq_getElem hlt⟩
      obtain ⟨y, hy⟩ : ∃ d, b[k]? = some d := ⟨_, List.getElem?_eq_getElem (by omega)⟩
      have hlt' : (k : Int) < (a.length : Int) := by omega
      obtain ⟨b1, o1, rfl, _, x0⟩ := str_at (ha.below hbr) hx
      obtain ⟨b2, o2, rfl, _, y0⟩ := str_at (hb.below hbr) hy
      have HX := Lib.hid hx
      have HY := Lib.hid hy
      clear hx hy
      by_cases hq : x = y
      · have HS : Hid (∀ j x y, j < k + 1 → a[j]? = some x → b[j]? = some y → x = y) := fun j p q hj hp hq2 => by
          by_cases hjk : j = k
          · subst hjk
            have e1 := HX.out.symm.trans hp
            have e2 := HY.out.symm.trans hq2
            injection e1 with e1; injection e2 with e2
            rw [← e1, ← e2]; exact hq
          · exact HA.out j p q (by omega) hp hq2
        subst hq
        clear ha hb
        go_wp2_with fail
        go_quiet (fail)
        go_wp2_with fail
        go_roundw
        case rel => exact ⟨k + 1, by omega, by go_num, below_drewN hbr _, drewN_step HM.out nq, HS⟩
        case measure => simp [intOf]; omega
      · have HE : Hid (decide (a = b) = false) := decide_eq_false fun e => by
          have e1 := HX.out
          rw [e, HY.out] at e1
          injection e1 with e1
          exact hq e1.symm
        have hqb : (x.toList == y.toList) = false := by rw [bytes_beq]; exact decide_eq_false hq
        have hqc : ¬ x.toList = y.toList := by rw [bytes_eq]; exact hq
        clear ha hb hq
        go_wp2_with fail
        go_quiet (fail)
        go_wp2_with fail
        go_ret
        exact ⟨by rw [HE.out]; rfl, drewN_step HM.out nq⟩
    · obtain rfl : k = a.length := by omega
      have HE : Hid (decide (a = b) = true) := decide_eq_true (lists_eq HL.out HA.out)
      clear ha hb
      go_wp2_with fail
      go_ret
      exact ⟨by rw [HE.out]; rfl, HM.out⟩
theorem texts_any (a b : List ByteArray) (va vb : Value) (w : World) (ha : Sl strL w va a) (hb : Sl strL w vb b) : Calls Tryd.prog 12 #[va, vb] w fun e w' => e = .returned (.bool (decide (a = b))) ∧ Below w.heap.size w w' :=
  (texts_any_q a b va vb w ha hb).mono fun _ _ ⟨h, m, hm⟩ => ⟨h, by rw [hm]; exact below_drewN (Below.refl _ _) m⟩
end Go.Proofs.YthefofclbepkoaaDoor

/- Contracts of the references: kinref1.Name, kinref1.Kind, kinsame.Texts, kinsame.Fields. -/
namespace Go.Proofs.YthefofclbepkoaaDoor
open Go Go.RowKit

theorem bytes_at (s : ByteArray) (k : Nat) (h : k < s.size) : s.data.toList[k]? = some s[k] := by
  rw [List.getElem?_eq_getElem (by simpa using h)]; rfl
set_option maxHeartbeats 1000000 in
theorem rname_any (s : ByteArray) (w : World) (hs : Sm s) : Calls Tryd.prog 69 #[.string s] w fun e w' => e = .returned (.int .i64 (nameE s)) ∧ w = w' := by
  unfold Sm at hs
  by_cases h0 : s.toList.isEmpty = true
  · have HE : Hid (nameE s = 2) := by unfold Hid nameE; rw [if_pos h0]
    have h1 : s.toList = [] := by simpa using h0
    clear h0
    go_enter Tryd.func69, Tryd.ntmps69
    go_wp2_with fail
    go_ret
    exact ⟨by rw [HE.out]; rfl, rfl⟩
  have h1 : s.toList.isEmpty = false := by simpa using h0
  have h2 : ¬ s.toList = [] := by intro e; rw [e] at h1; simp at h1
  by_cases h8 : 8 < s.size
  · have HE : Hid (nameE s = 2) := by unfold Hid nameE; rw [if_neg h0, if_pos h8]
    have h8' : (8 : Int) < (s.size : Int) := by omega
    clear h0
    go_enter Tryd.func69, Tryd.ntmps69
    go_wp2_with fail
    go_ret
    exact ⟨by rw [HE.out]; rfl, rfl⟩
  have h8' : (s.size : Int) ≤ 8 := by omega
  have HE0 : Hid (nameE s = if s.data.toList.any nameC then 2 else 0) := by unfold Hid nameE; rw [if_neg h0, if_neg h8]
  clear h0
  go_enter Tryd.func69, Tryd.ntmps69
  go_wp2_with fail
  go_loop [3] (fun i => ∃ k : Nat, k ≤ s.size ∧ i = .int .i64 k ∧ Hid (∀ j x, j < k → s.data.toList[j]? = some x → nameC x = false)) (fun i => s.size - (intOf i).toNat)
  case atStart => exact ⟨0, Nat.zero_le _, rfl, fun j x hj => absurd hj (Nat.not_lt_zero _)⟩
  case round =>
    obtain ⟨k, hk, rfl, HA⟩ := hrel
    by_cases hlt : k < s.size
    · have hlt' : (k : Int) < (s.size : Int) := by omega
      have HB := Lib.hid (bytes_at s k hlt)
      by_cases hlo : (s[k].toNat : Int) < 97
      · have HE : Hid (nameE s = 2) := by
          unfold Hid; rw [HE0.out, if_pos]
          exact List.any_eq_true.2 ⟨_, List.mem_of_getElem? HB.out, by unfold nameC; rw [decide_eq_true hlo]; rfl⟩
        clear HE0
        go_wp2_with fail
        go_ret
        exact ⟨by rw [HE.out]; rfl, rfl⟩
      · have hlo' : (97 : Int) ≤ (s[k].toNat : Int) := by omega
        by_cases hhi : (122 : Int) < (s[k].toNat : Int)
        · have HE : Hid (nameE s = 2) := by
            unfold Hid; rw [HE0.out, if_pos]
            exact List.any_eq_true.2 ⟨_, List.mem_of_getElem? HB.out, by unfold nameC; rw [decide_eq_true hhi]; simp⟩
          clear HE0
          go_wp2_with fail
          go_ret
          exact ⟨by rw [HE.out]; rfl, rfl⟩
        · have hhi' : (s[k].toNat : Int) ≤ 122 := by omega
          have HS : Hid (∀ j x, j < k + 1 → s.data.toList[j]? = some x → nameC x = false) := miss_step HA.out HB.out (by unfold nameC; rw [decide_eq_false hlo, decide_eq_false hhi]; rfl)
          clear hlo hhi HE0
          go_wp2_with fail
          go_round
          case rel => exact ⟨k + 1, by omega, by go_num, HS⟩
          case measure => simp [intOf]; omega
    · obtain rfl : k = s.size := by omega
      have HE : Hid (nameE s = 0) := by
        unfold Hid; rw [HE0.out, if_neg]
        intro h
        obtain ⟨x, hx, hc⟩ := List.any_eq_true.1 h
        obtain ⟨j, hj⟩ := List.mem_iff_getElem?.1 hx
        have := HA.out j x (by have := (List.getElem?_eq_some_iff.1 hj).1; simpa using this) hj
        rw [this] at hc; cases hc
      clear HE0
      go_wp2_with fail
      go_ret
      exact ⟨by rw [HE.out]; rfl, rfl⟩

set_option maxHeartbeats 1000000 in
theorem rkind_any (l : List Knd) (name : ByteArray) (v : Value) (w : World) (hv : Sl kndL w v l) : Calls Tryd.prog 30 #[v, .string name] w fun e w' => e = .returned (.int .i64 (kFind l name)) ∧ w = w' := by
  obtain ⟨A, c, rfl, hlc, hcm⟩ := hv.form
  unfold maxLen at hcm
  go_enter Tryd.func30, Tryd.ntmps30
  go_wp2_with fail
  go_loop [5] (fun i => ∃ k : Nat, k ≤ l.length ∧ i = .int .i64 k ∧ Hid (∀ j x, j < k → l[j]? = some x → decide (x.name = name) = false)) (fun i => l.length - (intOf i).toNat)
  case atStart => exact ⟨0, Nat.zero_le _, rfl, fun j x hj => absurd hj (Nat.not_lt_zero _)⟩
  case round =>
    obtain ⟨k, hk, rfl, HA⟩ := hrel
    by_cases hlt : k < l.length
    · obtain ⟨d, hd⟩ : ∃ d, l[k]? = some d := ⟨_, List.getElem?_eq_getElem hlt⟩
      obtain ⟨b, o, rfl, u, x, _, _, _, c0, _, _⟩ := knd_at hv hd
      have HD : Hid (l[k]? = some d) := hd
      clear hd hv
      by_cases hq0 : d.name = name
      · have hq : decide (d.name = name) = true := decide_eq_true hq0
        have HE : Hid (kFind l name = k) := by unfold Hid kFind; exact idxI_hit (p := fun k : Knd => decide (k.name = name)) HA.out HD.out hq
        clear hq
        subst hq0
        go_wp2_with fail
        go_ret
        exact ⟨by rw [HE.out]; rfl, rfl⟩
      · have hq : decide (d.name = name) = false := decide_eq_false hq0
        have hqb : (d.name.toList == name.toList) = false := by rw [bytes_beq]; exact hq
        have HS : Hid (∀ j y, j < k + 1 → l[j]? = some y → decide (y.name = name) = false) := miss_step (p := fun k : Knd => decide (k.name = name)) HA.out HD.out hq
        go_wp2_with fail
        go_round
        case rel => exact ⟨k + 1, by omega, by go_num, HS⟩
        case measure => simp [intOf]; omega
    · have hkl : k = l.length := by omega
      subst hkl
      have HE : Hid (kFind l name = -1) := by unfold Hid kFind; exact idxI_miss (p := fun k : Knd => decide (k.name = name)) HA.out
      clear hv
      go_wp2_with fail
      go_ret
      exact ⟨by rw [HE.out]; rfl, rfl⟩
end Go.Proofs.YthefofclbepkoaaDoor
