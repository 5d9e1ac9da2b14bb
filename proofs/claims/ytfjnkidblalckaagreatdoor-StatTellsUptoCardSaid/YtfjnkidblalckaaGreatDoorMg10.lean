/- Parts: KinI, KinJ, DelA, SchA. -/
import Derived.Test.YtfjnkidblalckaaGreatDoorMg09
import Derived.Deep.RegionHeld3
import Derived.Test.YtfjnkidblalckaaGreatDoorMg04
import Derived.Test.YtfjnkidblalckaaGreatDoorMg08
import Derived.Test.YtfjnkidblalckaaGreatDoorMg03
import Derived.Maps.AppendAt
/- Contract: kind.one: what is wrong with one kind, behind those that are right. -/
namespace Go.Proofs.YtfjnkidblalckaaGreatDoor
open Go Go.RowKit

theorem Sl.take {D : Type} {L : Lay D} {w : World} {A : Option Addr} {n c : Nat} {l : List D} (h : Sl L w (.slice A n c) l) {k : Nat} (hk : k ≤ l.length) : Sl L w (.slice A k c) (l.take k) := by
  obtain ⟨A', c', hv, h1, h2, h3⟩ := h
  injection hv with hA hn hc
  subst hA; subst hc
  have hl : (l.take k).length = k := by simp; omega
  refine ⟨A, c, by rw [hl], by rw [hl]; omega, h2, fun i d hi => ?_⟩
  rw [List.getElem?_take] at hi
  split at hi
  · exact h3 i d hi
  · cases hi
theorem errV7 : errV 7 = .iface 62 (.int .i64 7) := by simp [errV]
theorem errV4 : errV 4 = .iface 62 (.int .i64 4) := by simp [errV]
theorem errV5 : errV 5 = .iface 62 (.int .i64 5) := by simp [errV]
theorem errV1 : errV 1 = .iface 62 (.int .i64 1) := by simp [errV]
theorem errV0 : errV 0 = .nilIface := by simp [errV]
theorem ofsE_step {l : List Knd} {r : List ByteArray} {j : Nat} {s : ByteArray} (hs : r[j]? = some s) {E : Int} (h : E = ofsE l (r.take j) (r.drop j)) :
    E = if kFind l s < 0 then 5 else if (r.take j).any (fun y => decide (s = y)) then 7 else ofsE l (r.take (j + 1)) (r.drop (j + 1)) := by
  rw [h, drop_cons hs, ofsE, take_step hs]

set_option maxRecDepth 100000 in
set_option maxHeartbeats 8000000 in
theorem one_any (l : List Knd) (k : Knd) (v u1 u2 : Value) (w : World) (hv : Sl kndL w v l) (h1 : Sl strL w u1 k.ofs) (h2 : Sl fldL w u2 k.fields) (hnm : Sm k.name) (hl : l.length ≤ 12) (hofs : ∀ x ∈ l, x.ofs.length ≤ 4) (hfl : ∀ x ∈ l, x.fields.length ≤ 8) :
    Calls Tryz.prog 70 #[v, .agg #[.string k.name, u1, u2]] w fun e w' => e = .returned (errV (oneE l k)) ∧ Below w.heap.size w w' := by
  obtain ⟨A, c, rfl, _, hcA⟩ := hv.form
  obtain ⟨A1, c1, rfl, _, hc1⟩ := h1.form
  obtain ⟨A2, c2, rfl, _, hc2⟩ := h2.form
  unfold maxLen at hc1 hc2 hcA
  obtain ⟨z0, z1, z2⟩ := cell_box3 w (.string k.name) (.slice A1 k.ofs.length c1) (.slice A2 k.fields.length c2) 39
  have hb0 : Below w.heap.size w (w.alloc (.cells #[.string k.name, .slice A1 k.ofs.length c1, .slice A2 k.fields.length c2] 39)) := (Below.refl _ _).alloc (Nat.le_refl _) _
  have HOF := Lib.hid hofs
  have HFL := Lib.hid hfl
  clear hofs hfl
  go_enter Tryz.func70, Tryz.ntmps70
  go_wp2_with fail
  refine (name_any k.name _ hnm).mono ?_
  rintro e w1 ⟨rfl, hb1⟩
  have hB1 := hb0.trans (hb1.mono hb0.size)
  have p0 := cell_below hb1 z0
  have p1 := cell_below hb1 z1
  have p2 := cell_below hb1 z2
  generalize w.alloc (.cells #[.string k.name, .slice A1 k.ofs.length c1, .slice A2 k.fields.length c2] 39) = W at *
  clear z0 z1 z2
  by_cases hn : nameE k.name = 0
  case neg =>
    have HE : Hid (errV (oneE l k) = .iface 62 (.int .i64 (nameE k.name))) := by unfold Hid oneE; rw [if_neg hn, errV_some hn]
    rw [errV_some hn]
    clear hn
    go_wp2_with fail
    go_ret
    exact ⟨by rw [HE.out]; rfl, hB1⟩
  have HE1 : Hid (oneE l k = if 0 ≤ kFind l k.name then 7 else if 4 < k.ofs.length then 4 else if 8 < k.fields.length then 4 else if ofsE l [] k.ofs = 0 then if fldsE none k.fields = 0 then sumE (fieldsOf (l ++ [k]) k.name) else fldsE none k.fields else ofsE l [] k.ofs) := by
    unfold Hid oneE; rw [if_pos hn]
  rw [errV_zero hn]
  clear hn
  go_wp2_with fail
  refine (kFind_any l k.name _ _ (hv.below hB1)).mono ?_
  rintro e w2 ⟨rfl, hb2⟩
  have hB2 := hB1.trans (hb2.mono hB1.size)
  have q0 := cell_below hb2 p0
  have q1 := cell_below hb2 p1
  have q2 := cell_below hb2 p2
  clear p0 p1 p2 hb1 hB1
  generalize kFind l k.name = z at *
  by_cases hz : 0 ≤ z
  case pos =>
    have HE : Hid (errV (oneE l k) = .iface 62 (.int .i64 7)) := by unfold Hid; rw [HE1.out, if_pos hz, errV7]
    clear HE1
    go_wp2_with fail
    go_ret
    exact ⟨by rw [HE.out]; rfl, hB2⟩
  have hz' : z < 0 := by omega
  have HE2 : Hid (oneE l k = if 4 < k.ofs.length then 4 else if 8 < k.fields.length then 4 else if ofsE l [] k.ofs = 0 then if fldsE none k.fields = 0 then sumE (fieldsOf (l ++ [k]) k.name) else fldsE none k.fields else ofsE l [] k.ofs) := by
    unfold Hid; rw [HE1.out, if_neg hz]
  clear HE1 hz
  by_cases h4 : 4 < k.ofs.length
  case pos =>
    have HE : Hid (errV (oneE l k) = .iface 62 (.int .i64 4)) := by unfold Hid; rw [HE2.out, if_pos h4, errV4]
    have h4' : (4 : Int) < (k.ofs.length : Int) := by omega
    clear HE2
    go_wp2_with fail
    go_ret
    exact ⟨by rw [HE.out]; rfl, hB2⟩
  have h4' : (k.ofs.length : Int) ≤ 4 := by omega
  by_cases h8 : 8 < k.fields.length
  case pos =>
    have HE : Hid (errV (oneE l k) = .iface 62 (.int .i64 4)) := by unfold Hid; rw [HE2.out, if_neg h4, if_pos h8, errV4]
    have h8' : (8 : Int) < (k.fields.length : Int) := by omega
    clear HE2
    go_wp2_with fail
    go_ret
    exact ⟨by rw [HE.out]; rfl, hB2⟩
  have h8' : (k.fields.length : Int) ≤ 8 := by omega
  have HE3 : Hid (oneE l k = if ofsE l [] k.ofs = 0 then if fldsE none k.fields = 0 then sumE (fieldsOf (l ++ [k]) k.name) else fldsE none k.fields else ofsE l [] k.ofs) := by
    unfold Hid; rw [HE2.out, if_neg h4, if_neg h8]
  clear HE2
  go_wp2_with fail
  go_loopw [39] (fun i wr => ∃ j : Nat, j ≤ k.ofs.length ∧ i = .int .i64 j ∧ Below w2.heap.size w2 wr ∧ Hid (ofsE l [] k.ofs = ofsE l (k.ofs.take j) (k.ofs.drop j))) (fun i _ => k.ofs.length - (intOf i).toNat)
  case atStart => exact ⟨0, Nat.zero_le _, rfl, Below.refl _ _, rfl⟩
  case round =>
    obtain ⟨j, hj, rfl, hbr, HR⟩ := hrel
    have hBr := hB2.trans (hbr.mono hB2.size)
    have r0 := cell_below hbr q0
    have r1 := cell_below hbr q1
    have r2 := cell_below hbr q2
    clear q0 q1 q2 hb2 hB2
    by_cases hlt : j < k.ofs.length
    · obtain ⟨s, hs⟩ : ∃ s, k.ofs[j]? = some s := ⟨_, List.getElem?_eq_getElem hlt⟩
      obtain ⟨bs, os, rfl, hss, x0⟩ := str_at (h1.below hBr) hs
      have HS := Lib.hid (ofsE_step hs HR.out)
      have hlt' : (j : Int) < (k.ofs.length : Int) := by omega
      have htk := h1.take hj
      clear hs HR
      go_wp2_with fail
      refine (kFind_any l s _ _ (hv.below hBr)).mono ?_
      rintro e w3 ⟨rfl, hb3⟩
      have hB3 := hBr.trans (hb3.mono hBr.size)
      have s0 := cell_below hb3 r0
      have s1 := cell_below hb3 r1
      have s2 := cell_below hb3 r2
      clear r0 r1 r2 x0
      generalize kFind l s = z2 at *
      by_cases hz2 : z2 < 0
      · have HE : Hid (errV (oneE l k) = .iface 62 (.int .i64 5)) := by unfold Hid; rw [HE3.out, HS.out, if_pos hz2, if_neg (by omega), errV5]
        clear HE3 HS
        go_wp2_with fail
        go_ret
        exact ⟨by rw [HE.out]; rfl, hB3⟩
      · have hz3 : 0 ≤ z2 := by omega
        have HS2 : Hid (ofsE l [] k.ofs = if (k.ofs.take j).any (fun y => decide (s = y)) then 7 else ofsE l (k.ofs.take (j + 1)) (k.ofs.drop (j + 1))) := by unfold Hid; rw [HS.out, if_neg hz2]
        have hj' : (j : Int) ≤ (c1 : Int) := by omega
        clear HS hz2
        go_wp2_with fail
        refine (containsStr_any _ s _ _ (htk.below hB3)).mono ?_
        rintro e w4 ⟨rfl, rfl⟩
        cases hany : (k.ofs.take j).any (fun y => decide (s = y)) with
        | true =>
          have HE : Hid (errV (oneE l k) = .iface 62 (.int .i64 7)) := by unfold Hid; rw [HE3.out, HS2.out, hany, if_pos rfl, if_neg (by omega), errV7]
          clear HE3 HS2 hany
          go_wp2_with fail
          go_ret
          exact ⟨by rw [HE.out]; rfl, hB3⟩
        | false =>
          have HN : Hid (ofsE l [] k.ofs = ofsE l (k.ofs.take (j + 1)) (k.ofs.drop (j + 1))) := by unfold Hid; rw [HS2.out, hany]; simp
          clear HE3 HS2 hany
          go_wp2_with fail
          go_roundw
          case rel => exact ⟨j + 1, by omega, by go_num, hbr.trans (hb3.mono hbr.size), HN⟩
          case measure => simp [intOf]; omega
    · obtain rfl : j = k.ofs.length := by omega
      have HO : Hid (ofsE l [] k.ofs = 0) := by unfold Hid; rw [HR.out, List.drop_length]; rfl
      have HE4 : Hid (oneE l k = if fldsE none k.fields = 0 then sumE (fieldsOf (l ++ [k]) k.name) else fldsE none k.fields) := by unfold Hid; rw [HE3.out, if_pos HO.out]
      clear HE3 HO HR
      go_wp2_with fail
      refine (flds_any k.fields _ _ (h2.below hBr)).mono ?_
      rintro e w3 ⟨rfl, hb3⟩
      have hB3 := hBr.trans (hb3.mono hBr.size)
      have s0 := cell_below hb3 r0
      have s1 := cell_below hb3 r1
      have s2 := cell_below hb3 r2
      clear r0 r1 r2
      by_cases hf : fldsE none k.fields = 0
      case neg =>
        have HE : Hid (errV (oneE l k) = .iface 62 (.int .i64 (fldsE none k.fields))) := by unfold Hid; rw [HE4.out, if_neg hf, errV_some hf]
        rw [errV_some hf]
        clear hf HE4
        go_wp2_with fail
        go_ret
        exact ⟨by rw [HE.out]; rfl, hB3⟩
      have HE5 : Hid (oneE l k = sumE (fieldsOf (l ++ [k]) k.name)) := by unfold Hid; rw [HE4.out, if_pos hf]
      rw [errV_zero hf]
      clear hf HE4
      have hv3 := hv.below hB3
      have hbs : w.heap.size < w3.heap.size := World.block_lt_of_cell? _ _ s0
      obtain ⟨i0, ei, ez, ez1, ez2⟩ := info_parts clone_knds_info
      go_wp2_with fail
      go_region_held3 (fun w' => w'.cell? ⟨w.heap.size, 0, none⟩ = some (.string k.name) ∧ w'.cell? ⟨w.heap.size, 1, none⟩ = some (.slice A1 k.ofs.length c1) ∧ w'.cell? ⟨w.heap.size, 2, none⟩ = some (.slice A2 k.fields.length c2))
        (first
          | exact hkeep
          | go_keep)
        (first
          | (go_at_call 79
             refine (clone_knds (l := l) (hv3.below (Below.refl _ _).drew) (by omega)).mono ?_
             rintro e w4 ⟨cv, xs, rfl, hown, hrow, hb4⟩
             have hkeep := And.intro (cell_below hb4 s0) (And.intro (cell_below hb4 s1) (cell_below hb4 s2))
             have hordA : True := trivial)
          | (go_at_call 79
             refine (clone_knds (l := l) (hv3.below ((Below.refl _ _).drew.alloc (Nat.le_refl _) _)) (by omega)).mono ?_
             rintro e w4 ⟨cv, xs, rfl, hown, hrow, hb4⟩
             have hkeep := And.intro (cell_below hb4 (cell_below ((Below.refl _ _).alloc (Nat.le_refl _) _) s0)) (And.intro (cell_below hb4 (cell_below ((Below.refl _ _).alloc (Nat.le_refl _) _) s1)) (cell_below hb4 (cell_below ((Below.refl _ _).alloc (Nat.le_refl _) _) s2)))
             have hordB : True := trivial)
          | (have _t := hordA
             refine wp_append_q _ (.tmp 66) (.tmp 68) 22 rfl w3.heap.size 39 i0 (.agg #[.string .empty, .slice none 0 0, .slice none 0 0]) 3 64 Tryz.underlying22 ei ez ez1 ez2 rfl (by decide) cv l.length xs rfl (hown.alloc _) (some ⟨w4.heap.size, 0, none⟩) 1 1 [.string k.name, .slice A1 k.ofs.length c1, .slice A2 k.fields.length c2] rfl rfl
               (fun _ => ⟨_, rfl, fun j u hj => by rw [addr_add, Nat.zero_add, World.cell?_alloc_at _ _ _ _ rfl]; simpa using hj⟩) (fun u hu => by simp at hu; rcases hu with rfl | rfl | rfl <;> rfl) (by unfold maxLen; omega) (by omega) (by have := hb4.size; simp at this ⊢; omega) ?_
             intro v7 w7 hown7 hg7 hat7
             have hbX := (hb4.alloc hb4.size _).grown hg7 (by have := hb4.size; simp at this ⊢; omega) (fun kk e => (hown.lt kk e).1)
             have hb7 : Below w3.heap.size w3 w7 := (Below.refl _ _).drew.trans hbX
             have hrow7 := hrow.below hbX
             have hkeep := And.intro (cell_below hb7 s0) (And.intro (cell_below hb7 s1) (cell_below hb7 s2))
             clear hordA)
          | (have _t := hordB
             refine wp_append_q _ (.tmp 66) (.tmp 68) 22 rfl w3.heap.size 39 i0 (.agg #[.string .empty, .slice none 0 0, .slice none 0 0]) 3 64 Tryz.underlying22 ei ez ez1 ez2 rfl (by decide) cv l.length xs rfl (hown.mono (by simp)) (some ⟨w3.heap.size, 0, none⟩) 1 1 [.string k.name, .slice A1 k.ofs.length c1, .slice A2 k.fields.length c2] rfl rfl
               (fun _ => ⟨_, rfl, fun j u hj => by rw [addr_add, Nat.zero_add]; exact cell_below hb4 (by show (w3.alloc _).cell? _ = _; rw [World.cell?_alloc_at _ _ _ _ rfl]; simpa using hj)⟩) (fun u hu => by simp at hu; rcases hu with rfl | rfl | rfl <;> rfl) (by unfold maxLen; omega) (by omega) (by have := hb4.size; simp at this ⊢; omega) ?_
             intro v7 w7 hown7 hg7 hat7
             have hbX := hb4.grown hg7 hb4.size (fun kk e => (hown.lt kk e).1)
             have hb7 : Below w3.heap.size w3 w7 := ((Below.refl _ _).alloc (Nat.le_refl _) _).drew.trans (hbX.mono (by simp))
             have hrow7 := hrow.below hbX
             have hkeep := And.intro (cell_below hb7 s0) (And.intro (cell_below hb7 s1) (cell_below hb7 s2))
             clear hordB))
      all_goals
        have hB7 := hB3.trans (hb7.mono hB3.size)
        have hsl7 : Sl kndL w7 v7 (l ++ [k]) := by
          have hr7 : Row kndL w7 (l ++ [k]) (xs ++ [.string k.name, .slice A1 k.ofs.length c1, .slice A2 k.fields.length c2]) :=
            hrow7.snoc ⟨_, _, rfl, hnm, h1.below hB7, h2.below hB7⟩
          exact Own.row (L := kndL) (by rw [List.length_append]; exact hown7) hr7
        obtain ⟨t0, t1, t2⟩ := hkeep
        have hfo := fieldsOf_any (l ++ [k]) k.name v7 w7 hsl7 hnm (by simp; omega) (fun x hx => by
            rcases List.mem_append.1 hx with h | h
            · have := HOF.out x h; omega
            · simp at h; subst h; omega) (fun x hx => by
            rcases List.mem_append.1 hx with h | h
            · exact HFL.out x h
            · simp at h; subst h; omega)
        clear hg7 hat7 hown7 hown hrow hrow7 hbX
        generalize l ++ [k] = l7 at *
        obtain ⟨A7, c7, rfl, _, _⟩ := hsl7.form
        clear hsl7
        go_wp2_with fail
        refine hfo.mono ?_
        clear hfo
        rintro e w8 ⟨fv, rfl, hfs, hb8⟩
        have hB8 := hB7.trans (hb8.mono hB7.size)
        obtain ⟨Af, cf, rfl, _, _⟩ := hfs.form
        have hf2 := hfs
        cases hF : fieldsOf l7 k.name with
        | none =>
          have HE : Hid (errV (oneE l k) = .iface 62 (.int .i64 7)) := by unfold Hid; rw [HE5.out, hF]; simp [sumE, errV]
          clear HE5 hF hfs hf2
          simp only [Option.isSome, Option.getD]
          go_wp2_with fail
          go_ret
          exact ⟨by rw [HE.out]; rfl, hB8⟩
        | some fs =>
          simp only [Option.isSome, Option.getD]
          by_cases h9 : 8 < fs.length
          · have HE : Hid (errV (oneE l k) = .iface 62 (.int .i64 4)) := by unfold Hid; rw [HE5.out, hF]; simp [sumE, h9, errV]
            have h9' : (8 : Int) < (fs.length : Int) := by omega
            clear HE5 hF hfs hf2
            go_wp2_with fail
            go_ret
            exact ⟨by rw [HE.out]; rfl, hB8⟩
          · have HE : Hid (errV (oneE l k) = .nilIface) := by unfold Hid; rw [HE5.out, hF]; simp [sumE, h9, errV]
            have h9' : (fs.length : Int) ≤ 8 := by omega
            clear HE5 hF hfs hf2
            go_wp2_with fail
            go_ret
            exact ⟨by rw [HE.out]; rfl, hB8⟩
end Go.Proofs.YtfjnkidblalckaaGreatDoor

/- Contracts: kind.Check, kind.ready, kind.Kin, kind.IsKin, kind.Is, kind.Fields, kind.Under. -/
namespace Go.Proofs.YtfjnkidblalckaaGreatDoor
open Go Go.RowKit

theorem kindsE_step {l : List Knd} {j : Nat} {k : Knd} (hk : l[j]? = some k) {E : ByteArray × Int} (h : E = kindsE (l.take j) (l.drop j)) :
    E = if oneE (l.take j) k = 0 then kindsE (l.take (j + 1)) (l.drop (j + 1)) else (k.name, oneE (l.take j) k) := by
  rw [h, drop_cons hk, kindsE, take_step hk]
def CheckR (l : List Knd) (w : World) (e : Ending) (w' : World) : Prop := e = .returned (.tuple #[.string (checkE l).1, errV (checkE l).2]) ∧ Below w.heap.size w w'
theorem oneE_ofl {l : List Knd} {k : Knd} (h : oneE l k = 0) : k.ofs.length ≤ 4 ∧ k.fields.length ≤ 8 := ⟨(oneE_zero h).ofl, (oneE_zero h).fll⟩

set_option maxRecDepth 100000 in
set_option maxHeartbeats 4000000 in
theorem kcheck_any (l : List Knd) (v : Value) (w : World) (hv : Sl kndL w v l) : Calls Tryz.prog 58 #[v] w (CheckR l w) := by
  obtain ⟨A, c, rfl, hlc, hcA⟩ := hv.form
  unfold maxLen at hcA
  have hlm : (l.length : Int) ≤ 9223372036854775807 := by omega
  by_cases h12 : 12 < l.length
  · have HE : Hid (checkE l = (.empty, 4)) := by unfold Hid checkE; rw [if_pos h12]
    have h12' : (12 : Int) < (l.length : Int) := by omega
    clear hv
    go_enter Tryz.func58, Tryz.ntmps58
    go_wp2_with fail
    go_ret2
    exact ⟨by rw [HE.out, errV4]; rfl, Below.refl _ _⟩
  have h12' : (l.length : Int) ≤ 12 := by omega
  have HE0 : Hid (checkE l = kindsE [] l) := by unfold Hid checkE; rw [if_neg h12]
  go_enter Tryz.func58, Tryz.ntmps58
  go_wp2_with fail
  go_loopw [13] (fun i wr => ∃ j : Nat, j ≤ l.length ∧ i = .int .i64 j ∧ Below w.heap.size w wr ∧ Hid (kindsE [] l = kindsE (l.take j) (l.drop j)) ∧ Hid (∀ x ∈ l.take j, x.ofs.length ≤ 4 ∧ x.fields.length ≤ 8)) (fun i _ => l.length - (intOf i).toNat)
  case atStart => exact ⟨0, Nat.zero_le _, rfl, Below.refl _ _, rfl, fun x hx => by simp at hx⟩
  case round =>
    obtain ⟨j, hj, rfl, hbr, HR, HS⟩ := hrel
    by_cases hlt : j < l.length
    · obtain ⟨k, hk⟩ : ∃ k, l[j]? = some k := ⟨_, List.getElem?_eq_getElem hlt⟩
      obtain ⟨b, o, rfl, u, x, hnm, hso, hsf, c0, c1, c2⟩ := knd_at (hv.below hbr) hk
      obtain ⟨A1, q1, rfl, _, _⟩ := hso.form
      obtain ⟨A2, q2, rfl, _, _⟩ := hsf.form
      obtain ⟨z0, z1, z2⟩ := cell_box3 wr (.string k.name) (.slice A1 k.ofs.length q1) (.slice A2 k.fields.length q2) 39
      have hbb : Below wr.heap.size wr (wr.alloc (.cells #[.string k.name, .slice A1 k.ofs.length q1, .slice A2 k.fields.length q2] 39)) := (Below.refl _ _).alloc (Nat.le_refl _) _
      have hlt' : (j : Int) < (l.length : Int) := by omega
      have hjc : (j : Int) ≤ (c : Int) := by omega
      have hlk : (l.take j).length ≤ 12 := by simp; omega
      have HV : Hid (Sl kndL (wr.alloc (.cells #[.string k.name, .slice A1 k.ofs.length q1, .slice A2 k.fields.length q2] 39)) (.slice (some ⟨b, o, none⟩) j c) (l.take j)) := (Sl.take ((hv.below hbr).below hbb) hj)
      have HSO := Lib.hid (hso.below hbb)
      have HSF := Lib.hid (hsf.below hbb)
      have HK := Lib.hid (kindsE_step hk HR.out)
      have HT := Lib.hid (take_step hk)
      clear hk HR hso hsf
      go_wp2_with fail
      refine wp_mid_k 4 _ rfl rfl (by kernel_rfl) (by kernel_rfl) ?_
      simp only [List.take_succ_cons, List.take_zero, List.drop_succ_cons, List.drop_zero]
      repeat (go_big_quiet_step (fail))
      refine wpQuiet_nil ?_
      intro _ hw'
      obtain ⟨nq, hw''⟩ := hw'
      subst hw''
      intro K hK
      have hone := one_any (l.take j) k _ _ _ _ (HV.out.below (below_drewN (Below.refl _ _) nq)) (HSO.out.below (below_drewN (Below.refl _ _) nq)) (HSF.out.below (below_drewN (Below.refl _ _) nq)) hnm hlk (fun x hx => (HS.out x hx).1) (fun x hx => (HS.out x hx).2)
      have hbN : Below w.heap.size w ((wr.alloc (.cells #[.string k.name, .slice A1 k.ofs.length q1, .slice A2 k.fields.length q2] 39)).drewN nq) := below_drewN (hbr.alloc hbr.size _) nq
      have y0 : ((wr.alloc (.cells #[.string k.name, .slice A1 k.ofs.length q1, .slice A2 k.fields.length q2] 39)).drewN nq).cell? ⟨wr.heap.size, 0, none⟩ = some (.string k.name) := z0
      go_wp2_with fail
      refine hone.mono ?_
      clear hone
      rintro e w3 ⟨rfl, hb3⟩
      have hB3 := hbN.trans (hb3.mono hbN.size)
      have x0 := cell_below hb3 y0
      clear y0 z0 z1 z2 hb3 hbN
      by_cases he : oneE (l.take j) k = 0
      · have HN : Hid (kindsE [] l = kindsE (l.take (j + 1)) (l.drop (j + 1))) := by unfold Hid; rw [HK.out, if_pos he]
        have HS2 : Hid (∀ x ∈ l.take (j + 1), x.ofs.length ≤ 4 ∧ x.fields.length ≤ 8) := by
          intro x hx
          rw [HT.out] at hx
          rcases List.mem_append.1 hx with h | h
          · exact HS.out x h
          · simp at h; subst h; exact oneE_ofl he
        rw [errV_zero he]
        clear he HK
        refine hK _ _ ?_
        repeat (go_big_quiet_step (fail))
        refine wpQuiet_nil ?_
        intro _ hw'
        obtain ⟨nq2, hw''⟩ := hw'
        subst hw''
        go_wp2_with fail
        go_roundw
        case rel => exact ⟨j + 1, by omega, by go_num, below_drewN hB3 _, HN, HS2⟩
        case measure => simp [intOf]; omega
      · have HE : Hid (checkE l = (k.name, oneE (l.take j) k)) := by unfold Hid; rw [HE0.out, HK.out, if_neg he]
        have HV : Hid (errV (oneE (l.take j) k) = .iface 62 (.int .i64 (oneE (l.take j) k))) := errV_some he
        rw [errV_some he]
        clear he HK
        refine hK _ _ ?_
        repeat (go_big_quiet_step (fail))
        refine wpQuiet_nil ?_
        intro _ hw'
        obtain ⟨nq2, hw''⟩ := hw'
        subst hw''
        go_wp2_with fail
        go_ret2
        exact ⟨by rw [HE.out, HV.out]; rfl, below_drewN hB3 _⟩
    · obtain rfl : j = l.length := by omega
      have HE : Hid (checkE l = (.empty, 0)) := by unfold Hid; rw [HE0.out, HR.out, List.drop_length]; rfl
      clear hv
      go_wp2_with fail
      go_ret2
      exact ⟨by rw [HE.out, errV0]; rfl, hbr⟩
end Go.Proofs.YtfjnkidblalckaaGreatDoor

/- Plain laws of the model: a struct stored into an owned row; clear; what slices.DeleteFunc has kept so far. No condition. -/
namespace Go.Proofs.YtfjnkidblalckaaGreatDoor
open Go Go.RowKit

/-! ### Lists -/
/-- The cells from k on are these. -/
def setAll {α : Type} : List α → Nat → List α → List α
  | xs, _, [] => xs
  | xs, k, c :: cs => setAll (xs.set k c) (k + 1) cs
theorem setAll_append {α : Type} (P : List α) : ∀ (cs R : List α) (k : Nat), setAll (P ++ R) (P.length + k) cs = P ++ setAll R k cs
  | [], _, _ => rfl
  | c :: cs, R, k => by
    rw [setAll, setAll, List.set_append_right _ _ (by omega), Nat.add_sub_cancel_left, Nat.add_assoc]
    exact setAll_append P cs _ _
theorem setAll_head {α : Type} : ∀ (cs P R : List α), P.length = cs.length → setAll (P ++ R) 0 cs = cs ++ R
  | [], P, R, h => by
    have e : P = [] := List.eq_nil_of_length_eq_zero (by simpa using h)
    subst e; rfl
  | c :: cs, a :: P, R, h => by
    show setAll (c :: (P ++ R)) (0 + 1) cs = _
    have := setAll_append [c] cs (P ++ R) 0
    simp only [List.singleton_append, List.length_singleton] at this
    rw [show (0 : Nat) + 1 = 1 + 0 by omega, this, setAll_head cs P R (by simpa using h)]
    rfl
  | c :: cs, [], R, h => by simp at h
section
variable {D : Type} {n : Nat} {enc : D → List Value}
theorem flat_set (hn : ∀ d, (enc d).length = n) : ∀ (l : List D) (i : Nat) (d : D), i < l.length → setAll (l.flatMap enc) (i * n) (enc d) = (l.set i d).flatMap enc
  | a :: l, 0, d, _ => by
    rw [List.flatMap_cons, Nat.zero_mul, List.set_cons_zero, List.flatMap_cons]
    exact setAll_head _ _ _ (by rw [hn, hn])
  | a :: l, i + 1, d, h => by
    rw [List.flatMap_cons, List.set_cons_succ, List.flatMap_cons, ← flat_set hn l i d (by simpa using h), ← setAll_append]
    congr 1
    rw [hn, Nat.add_mul]; omega
end

/-! ### What is kept -/
structure Kept {D : Type} (p : D → Bool) (l dk : List D) (j i : Nat) : Prop where
  len : dk.length = l.length
  lt : i < j
  le : j ≤ l.length
  low : dk.take i = (l.take j).filter (fun x => !p x)
  high : dk.drop j = l.drop j
theorem filter_all {D : Type} {p : D → Bool} {l : List D} (h : ∀ j x, j < l.length → l[j]? = some x → p x = false) : l.filter (fun x => !p x) = l := by
  rw [List.filter_eq_self]
  intro x hx
  obtain ⟨i, hi⟩ := List.mem_iff_getElem?.1 hx
  rw [h i x (List.getElem?_eq_some_iff.1 hi).1 hi]; rfl
theorem take_snoc {D : Type} {l : List D} {j : Nat} {d : D} (h : l[j]? = some d) : l.take (j + 1) = l.take j ++ [d] := by
  rw [List.take_add_one, h]; rfl
theorem Kept.start {D : Type} {p : D → Bool} {l : List D} {k : Nat} {d : D} (h : l[k]? = some d) (hd : p d = true) (hm : ∀ j x, j < k → l[j]? = some x → p x = false) : Kept p l l (k + 1) k := by
  have hk := (List.getElem?_eq_some_iff.1 h).1
  refine ⟨rfl, by omega, by omega, ?_, rfl⟩
  rw [take_snoc h, List.filter_append]
  have e : [d].filter (fun x => !p x) = [] := by simp [hd]
  rw [e, List.append_nil, filter_all]
  intro j x hj hx
  rw [List.getElem?_take] at hx
  split at hx
  · exact hm j x (by assumption) hx
  · cases hx
theorem Kept.at {D : Type} {p : D → Bool} {l dk : List D} {j i : Nat} (h : Kept p l dk j i) (_hj : j < l.length) : dk[j]? = l[j]? := by
  have := congrArg (fun x => x[0]?) h.high
  simpa using this
theorem Kept.skip {D : Type} {p : D → Bool} {l dk : List D} {j i : Nat} {d : D} (h : Kept p l dk j i) (hd : l[j]? = some d) (hp : p d = true) : Kept p l dk (j + 1) i := by
  have hjl := (List.getElem?_eq_some_iff.1 hd).1
  refine ⟨h.len, by have := h.lt; omega, by omega, ?_, ?_⟩
  · rw [take_snoc hd, List.filter_append, h.low]; simp [hp]
  · have := congrArg (List.drop 1) h.high
    simpa using this
theorem Kept.keep {D : Type} {p : D → Bool} {l dk : List D} {j i : Nat} {d : D} (h : Kept p l dk j i) (hd : l[j]? = some d) (hp : p d = false) : Kept p l (dk.set i d) (j + 1) (i + 1) := by
  have hj := (List.getElem?_eq_some_iff.1 hd).1
  have hlt := h.lt
  have hl := h.len
  refine ⟨by rw [List.length_set]; exact hl, by omega, by omega, ?_, ?_⟩
  · rw [take_snoc hd, List.filter_append, ← h.low, take_snoc (l := dk.set i d) (j := i) (d := d) (by rw [List.getElem?_set]; simp; omega), List.take_set_of_le (Nat.le_refl _)]
    simp [hp]
  · rw [List.drop_set_of_lt (by omega)]
    have := congrArg (List.drop 1) h.high
    simpa using this
theorem Kept.done {D : Type} {p : D → Bool} {l dk : List D} {i : Nat} (h : Kept p l dk l.length i) : dk.take i = l.filter (fun x => !p x) ∧ (l.filter (fun x => !p x)).length = i := by
  have e := h.low
  rw [List.take_length] at e
  refine ⟨e, ?_⟩
  rw [← e, List.length_take]
  have := h.lt; have := h.len; omega
theorem idxI_cases {D : Type} (p : D → Bool) (l : List D) : (idxI p l = -1 ∧ l.filter (fun x => !p x) = l) ∨ ∃ (k : Nat) (d : D), idxI p l = k ∧ l[k]? = some d ∧ Kept p l l (k + 1) k := by
  unfold idxI
  cases h : l.findIdx? p with
  | none =>
    left
    refine ⟨rfl, filter_all fun j x _ hx => ?_⟩
    have := List.findIdx?_eq_none_iff.1 h x (List.mem_of_getElem? hx)
    simpa using this
  | some k =>
    right
    rw [List.findIdx?_eq_some_iff_getElem] at h
    obtain ⟨hk, hp, hm⟩ := h
    refine ⟨k, l[k], rfl, List.getElem?_eq_getElem hk, Kept.start (List.getElem?_eq_getElem hk) hp fun j x hj hx => ?_⟩
    obtain ⟨hjl, rfl⟩ := List.getElem?_eq_some_iff.1 hx
    simpa using hm j hj

/-! ### The model: clear -/
theorem grownBy_setRow {w : World} {g : Nat} {xs : Array Value} : w.grownBy (w.setRow g xs) (some g) :=
  ⟨rfl, rfl, rfl, by simp, fun k _ hk => setRow_other w g k _ (fun e => hk (by rw [e]))⟩
theorem grownBy_setCell_q (W : World) (p : Addr) (v : Value) : W.grownBy (W.setCell p v) (some p.block) :=
  ⟨rfl, rfl, rfl, by simp [World.setCell], fun k _ hk => Below.heap_setCell _ _ _ _ (fun e => hk (by rw [e]))⟩
theorem grownBy_below {w w' : World} (h : Below w.heap.size w w') (row : Option Nat) : w.grownBy w' row := ⟨h.os, h.tape, h.output, h.size, fun k hk _ => h.block k hk⟩
section
variable {P : Program}
theorem run_clear_q (w : World) (t ty e te : TypeId) (i0 : TypeInfo) (z : Value) (size : Nat) (ht : P.underlying t = some (.slice e)) (hi : P.info? e = some i0) (hz : i0.zero = some z) (hzs : z.cells.size = size) (h1 : ∀ u ∈ z.cells, u.oneCell' = true)
    (g o n c : Nat) (cur : Array Value) (hg : w.heap[g]? = some (.cells cur te (0, 0))) (hn : 0 < n) (hs : 0 < size) (hfit : o + n * size ≤ cur.size) :
    (Builtin.clear_ #[t] ty #[.slice (some ⟨g, o, none⟩) n c]).run P w = .ok (.tuple #[]) (w.setRow g (lay cur.toList o (Builtin.zeroCells z.cells n).toList).toArray) := by
  have hzl : (Builtin.zeroCells z.cells n).toList.length = n * size := by rw [Array.length_toList, size_zeroCells, hzs]
  have hone : ∀ u ∈ (Builtin.zeroCells z.cells n).toList, u.oneCell' = true := by
    intro u hu
    simp only [Builtin.zeroCells, Array.toList_map, List.mem_map] at hu
    obtain ⟨k, _, rfl⟩ := hu
    have hlt : k % z.cells.size < z.cells.size := Nat.mod_lt _ (by omega)
    rw [getElem!_pos z.cells _ hlt]
    exact h1 _ (Array.getElem_mem hlt)
  have hst := run_storeCells_at P g o te (Builtin.zeroCells z.cells n).toList 0 cur w hg (by rw [hzl]; omega) hone
  obtain ⟨m, rfl⟩ : ∃ m, n = m + 1 := ⟨n - 1, by omega⟩
  unfold lay
  simp [Builtin.clear_, run_underlying ht, zeroValue, typeInfo, hi, hz, hst]
theorem Own.clear {w : World} {B : Nat} {e : TypeId} {g o n c i : Nat} {xs : List Value} (t : TypeId) (i0 : TypeInfo) (z : Value) (size : Nat) (ht : P.underlying t = some (.slice e)) (hi : P.info? e = some i0) (hz : i0.zero = some z) (hzs : z.cells.size = size) (h1' : z.cells.all (fun u => u.oneCell') = true) (hs : 0 < size)
    (h : Own w B e size (.slice (some ⟨g, o, none⟩) n c) n xs) (hin : i < n) :
    ∃ w', (∀ ty c', (Builtin.clear_ #[t] ty #[.slice (some ⟨g, o + i * size, none⟩) (n - i) c']).run P w = .ok (.tuple #[]) w') ∧ Own w' B e size (.slice (some ⟨g, o, none⟩) i c) i (xs.take (i * size)) ∧ w.grownBy w' (some g) := by
  have h1 : ∀ u ∈ z.cells, u.oneCell' = true := fun u hu => Array.all_eq_true_iff_forall_mem.1 h1' u hu
  rcases h.2 with ⟨h0, _⟩ | ⟨g', o', cap, cur, hv, hb, hg, h2, h3, h4, h5⟩
  · cases h0
  · injection hv with e1 _ e3
    injection e1 with e1
    injection e1 with e1 e2
    subst e1; subst e2; subst e3
    have hni : (n - i) * size + i * size = n * size := by rw [← Nat.add_mul]; congr 1; omega
    have hnc : n * size ≤ c * size := Nat.mul_le_mul_right _ h2
    have hic : i * size ≤ n * size := Nat.mul_le_mul_right _ (by omega)
    have hzl : (Builtin.zeroCells z.cells (n - i)).toList.length = (n - i) * size := by rw [Array.length_toList, size_zeroCells, hzs]
    refine ⟨_, fun ty c' => run_clear_q w t ty e e i0 z size ht hi hz hzs h1 g (o + i * size) (n - i) c' cur hg (by omega) hs (by omega), ⟨by rw [List.length_take, h.1]; omega, .inr ⟨g, o, c, _, rfl, hb, setRow_heap w g cur _ e _ hg, by omega, h3, ?_, ?_⟩⟩, grownBy_setRow⟩
    · rw [List.size_toArray, lay_length (by rw [hzl, Array.length_toList]; omega), Array.length_toList]; omega
    · show ((lay cur.toList (o + i * size) _).drop o).take (i * size) = _
      unfold lay
      rw [List.append_assoc, List.drop_append_of_le_length (by rw [List.length_take, Array.length_toList]; omega), List.take_append_of_le_length (by rw [List.length_drop, List.length_take, Array.length_toList]; omega), ← h5, List.take_take, Nat.min_eq_left hic, List.drop_take, List.take_take]
      congr 1
      omega
theorem wpList_clear_q (w : World) {ops : Array Oper} {rest : List Oper} {o : Oper} {a : Act} {Q : Exit → Act → World → Prop} (hgd : o.guard = none) (s : Operand) (t : TypeId)
    (ho : o.op = .call { callee := .builtin .clear, args := #[s], argTypes := #[t] }) (v : Value) (hs : a.eval s = v) {v' : Value} {w' : World}
    (hr : (Builtin.clear_ #[t] o.type #[v]).run P w = .ok v' w') (h : wpList P ops Q rest (a.put o.dst v') w') : wpList P ops Q (o :: rest) a w := by
  refine wpList_plain hgd fun _ hK => ?_
  unfold Oper.wp execOp
  simp only [ho, resolve, invoke, builtin, Sem.run_bind, Sem.run_pure, Result.andThen_ok, List.map_toArray, List.map_cons, List.map_nil, hs, hr]
  exact hK _ _ h
end
/-- The first k of it. -/
theorem Own.first {w : World} {B : Nat} {e : TypeId} {sz g o n c : Nat} {xs : List Value} (h : Own w B e sz (.slice (some ⟨g, o, none⟩) n c) n xs) {k : Nat} (hk : k ≤ n) : Own w B e sz (.slice (some ⟨g, o, none⟩) k c) k (xs.take (k * sz)) := by
  rcases h.2 with ⟨h0, _⟩ | ⟨g', o', cap, cur, hv, hb, hg, h2, h3, h4, h5⟩
  · cases h0
  · injection hv with e1 _ e3
    injection e1 with e1
    injection e1 with e1 e2
    subst e1; subst e2; subst e3
    have hic : k * sz ≤ n * sz := Nat.mul_le_mul_right _ hk
    refine ⟨by rw [List.length_take, h.1]; omega, .inr ⟨g, o, c, cur, rfl, hb, hg, by omega, h3, h4, ?_⟩⟩
    rw [← h5, List.take_take, Nat.min_eq_left hic]
/-- A predicate that answers p in whatever world agrees below B. -/
def PredO {D : Type} (P : Program) (g : Nat) (caps : Array Value) (V : D → Value → Prop) (p : D → Bool) (B : Nat) (w : World) : Prop :=
  ∀ x u wx, Below B w wx → V x u → Calls P g (#[u] ++ caps) wx (fun e w' => e = .returned (.bool (p x)) ∧ Below wx.heap.size wx w')
/-- A predicate that answers p in whatever world agrees but for one block. -/
def PredG {D : Type} (P : Program) (g : Nat) (caps : Array Value) (V : D → Value → Prop) (p : D → Bool) (row : Option Nat) (w : World) : Prop :=
  ∀ x u wx, w.grownBy wx row → V x u → Calls P g (#[u] ++ caps) wx (fun e w' => e = .returned (.bool (p x)) ∧ Below wx.heap.size wx w')
end Go.Proofs.YtfjnkidblalckaaGreatDoor

/- Contracts: schema.find, schema.Find, schema.bond, schema.Check, schema.Right. -/
namespace Go.Proofs.YtfjnkidblalckaaGreatDoor
open Go Go.RowKit



def bndAg (d : Bnd) : Value := .agg #[.string d.name, .string d.src, .string d.dst, .int .i64 d.mn, .int .i64 d.mx]
def bndV (_ : World) (d : Bnd) (u : Value) : Prop := u = .agg #[.string d.name, .string d.src, .string d.dst, .int .i64 d.mn, .int .i64 d.mx]
set_option maxHeartbeats 400000 in
theorem idx_bnds (g : Nat) (caps : Array Value) (eg : ∀ args w, (callFunc g args).run Tryz.prog w = .ok (.enter g args) w) (p : Bnd → Bool) (l : List (Bnd)) (v : Value) (w : World) (hv : Sl bndL w v l)
    (hp : PredB Tryz.prog g caps bndV p w) :
    Calls Tryz.prog 81 #[v, .func (.func g) #[] caps] w fun e w' => e = .returned (.int .i64 (idxI p l)) ∧ Below w.heap.size w w' := by
  obtain ⟨A, c, rfl, hlc, hcm⟩ := hv.form
  unfold maxLen at hcm
  go_enter Tryz.func81, Tryz.ntmps81
  go_wp2_with fail
  go_loopw [8] (fun i wr => ∃ k : Nat, k ≤ l.length ∧ i = .int .i64 k ∧ Below w.heap.size w wr ∧ Hid (∀ j x, j < k → l[j]? = some x → p x = false)) (fun i _ => l.length - (intOf i).toNat)
  case atStart => exact ⟨0, Nat.zero_le _, rfl, Below.refl _ _, fun j x hj => absurd hj (Nat.not_lt_zero _)⟩
  case round =>
    obtain ⟨k, hk, rfl, hb, HA⟩ := hrel
    by_cases hlt : k < l.length
    · obtain ⟨d, hd⟩ : ∃ d, l[k]? = some d := ⟨_, List.getElem?_eq_getElem hlt⟩
      obtain ⟨b, o, rfl, hok, c0, c1, c2, c3, c4⟩ := bnd_at (hv.below hb) hd
      have hcall := hp d (.agg #[.string d.name, .string d.src, .string d.dst, .int .i64 d.mn, .int .i64 d.mx]) wr hb rfl
      have HD : Hid (l[k]? = some d) := hd
      clear hd hp hv
      cases hq : p d with
      | true =>
        rw [hq] at hcall
        have HQ : Hid (p d = true) := hq
        clear hq
        go_wp2_with (go_at_fn g; refine hcall.mono ?_; rintro e w' ⟨rfl, hb2⟩)
        go_ret
        exact ⟨ret_int (idxI_hit HA.out HD.out HQ.out).symm, hb.trans (hb2.mono hb.size)⟩
      | false =>
        rw [hq] at hcall
        have HQ : Hid (p d = false) := hq
        clear hq
        go_wp2_with (go_at_fn g; refine hcall.mono ?_; rintro e w' ⟨rfl, hb2⟩)
        go_roundw
        case rel => exact ⟨k + 1, by omega, by go_num, hb.trans (hb2.mono hb.size), miss_step HA.out HD.out HQ.out⟩
        case measure => simp [intOf]; omega
    · have hkl : k = l.length := by omega
      subst hkl
      clear hp hv
      go_wp2_with fail
      go_ret
      exact ⟨ret_int (idxI_miss HA.out).symm, hb⟩
theorem bFind1_any (d : Bnd) (name : ByteArray) (u : Value) (bk : Nat) (w : World) (hu : bndV w d u) (hc : w.cell? ⟨bk, 0, none⟩ = some (.string name)) :
    Calls Tryz.prog 82 #[u, .pointer (some ⟨bk, 0, none⟩)] w fun e w' => e = .returned (.bool (decide (d.name = name))) ∧ Below w.heap.size w w' := by
  obtain rfl : u = _ := hu
  have hlt := World.block_lt_of_cell? _ _ hc
  by_cases hq : d.name = name
  · have hd : decide (d.name = name) = true := decide_eq_true hq
    rw [hd]
    have hqb : (d.name.toList == name.toList) = true := by rw [bytes_beq]; exact hd
    clear hq hd
    go_enter Tryz.func82, Tryz.ntmps82
    go_wp2_with fail
    go_ret
    exact ⟨rfl, (Below.refl _ _).alloc (Nat.le_refl _) _⟩
  · have hd : decide (d.name = name) = false := decide_eq_false hq
    rw [hd]
    have hqb : (d.name.toList == name.toList) = false := by rw [bytes_beq]; exact hd
    clear hq hd
    go_enter Tryz.func82, Tryz.ntmps82
    go_wp2_with fail
    go_ret
    exact ⟨rfl, (Below.refl _ _).alloc (Nat.le_refl _) _⟩
/-- Where a bond of a name is. -/
def bFind (l : List Bnd) (name : ByteArray) : Int := idxI (fun b => decide (b.name = name)) l
theorem bFind_any (l : List Bnd) (name : ByteArray) (v : Value) (w : World) (hv : Sl bndL w v l) :
    Calls Tryz.prog 71 #[v, .string name] w fun e w' => e = .returned (.int .i64 (bFind l name)) ∧ Below w.heap.size w w' := by
  have hb0 : Below w.heap.size w (w.alloc (.cells #[.string name] 9)) := (Below.refl _ _).alloc (Nat.le_refl _) _
  have h1 := idx_bnds 82 #[.pointer (some ⟨w.heap.size, 0, none⟩)] (by intro args w; kernel_rfl) (fun k => decide (k.name = name)) l v _ (hv.below hb0)
    (fun d u wx hx hu => bFind1_any d name u w.heap.size wx hu (cell_below hx (by rw [World.cell?_alloc_at _ _ _ _ rfl]; rfl)))
  obtain ⟨A, c, rfl, _, _⟩ := hv.form
  clear hv
  go_enter Tryz.func71, Tryz.ntmps71
  go_wp2_with fail
  refine h1.mono ?_
  rintro e w2 ⟨rfl, hb2⟩
  go_wp2_with fail
  go_ret
  exact ⟨rfl, hb0.trans (hb2.mono (by simp))⟩
def rngB (b : Bnd) : Prop := b.mn < 0 ∨ 20 < b.mn ∨ (b.mx ≠ -1 ∧ (b.mx < b.mn ∨ 20 < b.mx))
instance (b : Bnd) : Decidable (rngB b) := by unfold rngB; infer_instance
/-- What is wrong with a bond, behind those that are right. -/
def bndE (ks : List Knd) (p : List Bnd) (b : Bnd) : Int :=
  if nameE b.name = 0 then (if 0 ≤ bFind p b.name then 7 else if kFind ks b.src < 0 ∨ kFind ks b.dst < 0 then 5 else if rngB b then 1 else 0) else nameE b.name
def bndsE (ks : List Knd) : List Bnd → List Bnd → ByteArray × Int
  | _, [] => (.empty, 0)
  | p, b :: r => if bndE ks p b = 0 then bndsE ks (p ++ [b]) r else (b.name, bndE ks p b)
/-- The fault of a schema, and with whom. -/
def scmE (s : Scm) : ByteArray × Int := if (checkE s.kinds).2 = 0 then (if 12 < s.bonds.length then (.empty, 4) else bndsE s.kinds [] s.bonds) else checkE s.kinds
theorem cell_box5 (w : World) (a b c d e : Value) (t : TypeId) : (w.alloc (.cells #[a, b, c, d, e] t)).cell? ⟨w.heap.size, 0, none⟩ = some a ∧ (w.alloc (.cells #[a, b, c, d, e] t)).cell? ⟨w.heap.size, 1, none⟩ = some b ∧
    (w.alloc (.cells #[a, b, c, d, e] t)).cell? ⟨w.heap.size, 2, none⟩ = some c ∧ (w.alloc (.cells #[a, b, c, d, e] t)).cell? ⟨w.heap.size, 3, none⟩ = some d ∧ (w.alloc (.cells #[a, b, c, d, e] t)).cell? ⟨w.heap.size, 4, none⟩ = some e :=
  ⟨by rw [World.cell?_alloc_at _ _ _ _ rfl]; rfl, by rw [World.cell?_alloc_at _ _ _ _ rfl]; rfl, by rw [World.cell?_alloc_at _ _ _ _ rfl]; rfl, by rw [World.cell?_alloc_at _ _ _ _ rfl]; rfl, by rw [World.cell?_alloc_at _ _ _ _ rfl]; rfl⟩
set_option maxRecDepth 100000 in
set_option maxHeartbeats 8000000 in
theorem bond_any (s : Scm) (i : Nat) (d : Bnd) (vk vb : Value) (w : World) (hv : ScmR w vk vb s) (hd : s.bonds[i]? = some d) :
    Calls Tryz.prog 59 #[.agg #[vk, vb], .int .i64 i] w fun e w' => e = .returned (errV (bndE s.kinds (s.bonds.take i) d)) ∧ Below w.heap.size w w' := by
  obtain ⟨Ak, ck, rfl, _, _⟩ := hv.1.form
  obtain ⟨Ab, cb, rfl, hlc, hcm⟩ := hv.2.form
  obtain ⟨b, o, rfl, hok, c0, c1, c2, c3, c4⟩ := bnd_at hv.2 hd
  have hil := (List.getElem?_eq_some_iff.1 hd).1
  have hb0 : Below w.heap.size w (w.alloc (.cells #[.slice Ak s.kinds.length ck, .slice (some ⟨b, o, none⟩) s.bonds.length cb] 25)) := (Below.refl _ _).alloc (Nat.le_refl _) _
  obtain ⟨x0, x1⟩ := cell_box2 w (.slice Ak s.kinds.length ck) (.slice (some ⟨b, o, none⟩) s.bonds.length cb) 25
  have HV0 := Lib.hid (show ScmR _ _ _ s from ⟨hv.1.below hb0, hv.2.below hb0⟩)
  have d0 := cell_below hb0 c0
  have d1 := cell_below hb0 c1
  have d2 := cell_below hb0 c2
  have d3 := cell_below hb0 c3
  have d4 := cell_below hb0 c4
  have HE : Hid (bndE s.kinds (s.bonds.take i) d = if nameE d.name = 0 then (if 0 ≤ bFind (s.bonds.take i) d.name then 7 else if kFind s.kinds d.src < 0 ∨ kFind s.kinds d.dst < 0 then 5 else if rngB d then 1 else 0) else nameE d.name) := rfl
  have hw0 := hb0.size
  have hil' : (i : Int) < (s.bonds.length : Int) := by omega
  clear hv c0 c1 c2 c3 c4 hd
  have hsz0 : (w.alloc (.cells #[.slice Ak s.kinds.length ck, .slice (some ⟨b, o, none⟩) s.bonds.length cb] 25)).heap.size = w.heap.size + 1 := by simp
  go_enter Tryz.func59, Tryz.ntmps59
  go_wp2_with fail
  generalize w.alloc (.cells #[.slice Ak s.kinds.length ck, .slice (some ⟨b, o, none⟩) s.bonds.length cb] 25) = w0 at *
  have hb1 : Below w0.heap.size w0 (w0.alloc (.cells #[.string d.name, .string d.src, .string d.dst, .int .i64 d.mn, .int .i64 d.mx] 43)) := (Below.refl _ _).alloc (Nat.le_refl _) _
  obtain ⟨z0, z1, z2, z3, z4⟩ := cell_box5 w0 (.string d.name) (.string d.src) (.string d.dst) (.int .i64 d.mn) (.int .i64 d.mx) 43
  rw [hsz0] at z0 z1 z2 z3 z4
  have x0 := cell_below hb1 x0
  have x1 := cell_below hb1 x1
  have hw1 := hb1.size
  generalize w0.alloc (.cells #[.string d.name, .string d.src, .string d.dst, .int .i64 d.mn, .int .i64 d.mx] 43) = w1 at *
  refine (name_any d.name w1 hok.1).mono ?_
  rintro e w2 ⟨rfl, hb2⟩
  have hb02 := hb1.trans (hb2.mono hw1)
  have hB2 := hb0.trans (hb02.mono hw0)
  have HV2 := Lib.hid (show ScmR w2 _ _ s from ⟨HV0.out.1.below hb02, HV0.out.2.below hb02⟩)
  have x0 := cell_below hb2 x0
  have x1 := cell_below hb2 x1
  have z0 := cell_below hb2 z0
  have z1 := cell_below hb2 z1
  have z2 := cell_below hb2 z2
  have z3 := cell_below hb2 z3
  have z4 := cell_below hb2 z4
  have hw2 := hB2.size
  clear d0 d1 d2 d3 d4 hb02 hb2 hb1
  by_cases he : nameE d.name = 0
  case neg =>
    have HF : Hid (errV (bndE s.kinds (s.bonds.take i) d) = .iface 62 (.int .i64 (nameE d.name))) := by unfold Hid; rw [HE.out, if_neg he]; exact errV_some he
    rw [errV_some he]
    clear he HE
    go_wp2_with fail
    go_ret
    exact ⟨by rw [HF.out]; rfl, hB2⟩
  have HE2 : Hid (bndE s.kinds (s.bonds.take i) d = if 0 ≤ bFind (s.bonds.take i) d.name then 7 else if kFind s.kinds d.src < 0 ∨ kFind s.kinds d.dst < 0 then 5 else if rngB d then 1 else 0) := by unfold Hid; rw [HE.out, if_pos he]
  rw [errV_zero he]
  have hic : (i : Int) ≤ (cb : Int) := by omega
  clear he HE
  go_wp2_with fail
  refine wp_mid_k 6 _ rfl rfl (by kernel_rfl) (by kernel_rfl) ?_
  simp only [List.take_succ_cons, List.take_zero, List.drop_succ_cons, List.drop_zero]
  repeat (go_big_quiet_step (fail))
  refine wpQuiet_nil ?_
  intro _ hw'
  obtain ⟨nq, hw''⟩ := hw'
  subst hw''
  intro K hK
  have hf := bFind_any (s.bonds.take i) d.name (.slice (some ⟨b, o, none⟩) i cb) (w2.drewN nq) ((Sl.take HV2.out.2 (by omega)).below (below_drewN (Below.refl _ _) nq))
  generalize bFind (s.bonds.take i) d.name = q at *
  go_wp2_with fail
  refine hf.mono ?_
  clear hf
  rintro e w3 ⟨rfl, hb3⟩
  have hB3' := (below_drewN (Below.refl w2.heap.size w2) nq).trans hb3
  have x0 := cell_below hB3' x0
  have x1 := cell_below hB3' x1
  have z0 := cell_below hB3' z0
  have z1 := cell_below hB3' z1
  have z2 := cell_below hB3' z2
  have z3 := cell_below hB3' z3
  have z4 := cell_below hB3' z4
  have HV3 := Lib.hid (show Sl kndL w3 _ s.kinds from HV2.out.1.below hB3')
  have hB3 := hB2.trans (hB3'.mono hw2)
  clear hb3 hB3' HV2 hB2
  refine hK _ _ ?_
  repeat (go_big_quiet_step (fail))
  refine wpQuiet_nil ?_
  intro _ hw'
  obtain ⟨nq2, hw''⟩ := hw'
  subst hw''
  clear hK
  by_cases hq : 0 ≤ q
  · have HF : Hid (bndE s.kinds (s.bonds.take i) d = 7) := by unfold Hid; rw [HE2.out, if_pos hq]
    clear HE2
    go_wp2_with fail
    go_ret
    exact ⟨by rw [HF.out]; rfl, below_drewN hB3 _⟩
  have hq' : q < 0 := by omega
  have HE3 : Hid (bndE s.kinds (s.bonds.take i) d = if kFind s.kinds d.src < 0 ∨ kFind s.kinds d.dst < 0 then 5 else if rngB d then 1 else 0) := by unfold Hid; rw [HE2.out, if_neg hq]
  have hB4 := below_drewN hB3 nq2
  have HV4 := Lib.hid (HV3.out.below (below_drewN (Below.refl w3.heap.size w3) nq2))
  have hk1 := kFind_any s.kinds d.src _ _ HV4.out
  clear HE2 hq HV3 hB3
  have hdw := below_drewN (Below.refl w3.heap.size w3) nq2
  have x0 := cell_below hdw x0
  have x1 := cell_below hdw x1
  have z0 := cell_below hdw z0
  have z1 := cell_below hdw z1
  have z2 := cell_below hdw z2
  have z3 := cell_below hdw z3
  have z4 := cell_below hdw z4
  clear hdw
  generalize w3.drewN nq2 = w4 at *
  generalize kFind s.kinds d.src = a at *
  go_wp2_with fail
  refine hk1.mono ?_
  clear hk1
  rintro e w5 ⟨rfl, hb5⟩
  have x0 := cell_below hb5 x0
  have x1 := cell_below hb5 x1
  have z2 := cell_below hb5 z2
  have z3 := cell_below hb5 z3
  have z4 := cell_below hb5 z4
  have hB5 := hB4.trans (hb5.mono hB4.size)
  by_cases ha : a < 0
  · have HF : Hid (bndE s.kinds (s.bonds.take i) d = 5) := by unfold Hid; rw [HE3.out, if_pos (.inl ha)]
    clear HE3
    go_wp2_with fail
    go_ret
    exact ⟨by rw [HF.out]; rfl, hB5⟩
  have ha' : 0 ≤ a := by omega
  have hk2 := kFind_any s.kinds d.dst _ _ (HV4.out.below hb5)
  generalize kFind s.kinds d.dst = c at *
  go_wp2_with fail
  refine hk2.mono ?_
  clear hk2
  rintro e w6 ⟨rfl, hb6⟩
  have z3 := cell_below hb6 z3
  have z4 := cell_below hb6 z4
  have hB6 := hB5.trans (hb6.mono hB5.size)
  clear x0 x1 z0 z1 z2 hb5 hb6 hB5 hB4 HV4
  by_cases hc : c < 0
  · have HF : Hid (bndE s.kinds (s.bonds.take i) d = 5) := by unfold Hid; rw [HE3.out, if_pos (.inr hc)]
    clear HE3
    go_wp2_with fail
    go_ret
    exact ⟨by rw [HF.out]; rfl, hB6⟩
  have hc' : 0 ≤ c := by omega
  have HE4 : Hid (bndE s.kinds (s.bonds.take i) d = if rngB d then 1 else 0) := by unfold Hid; rw [HE3.out, if_neg (by omega)]
  have HRB : Hid (rngB d ↔ (d.mn < 0 ∨ 20 < d.mn ∨ (d.mx ≠ -1 ∧ (d.mx < d.mn ∨ 20 < d.mx)))) := Iff.rfl
  clear HE3 ha hc
  generalize d.mn = mn at *
  generalize d.mx = mx at *
  by_cases hr : rngB d
  · have HF : Hid (bndE s.kinds (s.bonds.take i) d = 1) := by unfold Hid; rw [HE4.out, if_pos hr]
    have hr2 := HRB.out.1 hr
    clear HE4 HRB hr
    by_cases e1 : mn < 0
    · clear hr2
      go_wp2_with fail
      go_ret
      exact ⟨by rw [HF.out]; rfl, hB6⟩
    have e1' : 0 ≤ mn := by omega
    by_cases e2 : 20 < mn
    · clear hr2 e1
      go_wp2_with fail
      go_ret
      exact ⟨by rw [HF.out]; rfl, hB6⟩
    have e2' : mn ≤ 20 := by omega
    have e3 : (mx != -1) = true := bne_iff_ne.2 (by omega)
    have e3' : ¬ mx = -1 := by omega
    by_cases e4 : mx < mn
    · clear hr2 e1 e2
      go_wp2_with fail
      go_ret
      exact ⟨by rw [HF.out]; rfl, hB6⟩
    have e4' : mn ≤ mx := by omega
    have e5 : 20 < mx := by omega
    clear hr2 e1 e2 e4
    go_wp2_with fail
    go_ret
    exact ⟨by rw [HF.out]; rfl, hB6⟩
  · have HF : Hid (bndE s.kinds (s.bonds.take i) d = 0) := by unfold Hid; rw [HE4.out, if_neg hr]
    have hr2 : ¬ (mn < 0 ∨ 20 < mn ∨ (mx ≠ -1 ∧ (mx < mn ∨ 20 < mx))) := fun h => hr (HRB.out.2 h)
    have e1' : 0 ≤ mn := by omega
    have e2' : mn ≤ 20 := by omega
    clear HE4 HRB hr
    by_cases e3 : mx = -1
    · subst e3
      clear hr2
      go_wp2_with fail
      go_ret
      exact ⟨by rw [HF.out]; rfl, hB6⟩
    have e3' : (mx != -1) = true := bne_iff_ne.2 e3
    have e4' : mn ≤ mx := by omega
    have e5' : mx ≤ 20 := by omega
    clear hr2
    go_wp2_with fail
    go_ret
    exact ⟨by rw [HF.out]; rfl, hB6⟩
end Go.Proofs.YtfjnkidblalckaaGreatDoor
