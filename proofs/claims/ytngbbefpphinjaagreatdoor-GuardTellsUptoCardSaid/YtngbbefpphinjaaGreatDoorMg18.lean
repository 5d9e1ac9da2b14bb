/- Parts: RefB, RefC, RefD, RefE. -/
import Derived.Test.YtngbbefpphinjaaGreatDoorMg17
import Derived.Test.YtngbbefpphinjaaGreatDoorMg02
import Derived.Test.YtngbbefpphinjaaGreatDoorMg06
/- Contract of the references: kinref1.Kin: a kind's kin, by looking again and again. -/
namespace Go.Proofs.YtngbbefpphinjaaGreatDoor
open Go Go.RowKit
def boolBlk (w : World) (b : Nat) (bs : List Bool) : Prop := w.heap[b]? = some (.cells (bs.map Value.bool).toArray 4 (0, 0))
theorem boolBlk.cell {w : World} {b : Nat} {bs : List Bool} (h : boolBlk w b bs) {i : Nat} {q : Bool} (hi : bs[i]? = some q) : w.cell? ⟨b, i, none⟩ = some (.bool q) := by
 rw [block_cell h]; simp [hi]
theorem boolBlk.set {w : World} {b : Nat} {bs : List Bool} (h : boolBlk w b bs) (i : Nat) : boolBlk (w.setCell ⟨b, i, none⟩ (.bool true)) b (bs.set i true) := by
 have := setCell_block h i (.bool true)
 unfold boolBlk
 rw [this]
 congr 2
 simp [List.map_set]
def cntF (bs : List Bool) : Nat := bs.countP (fun q => !q)
theorem cntF_set : ∀ {bs : List Bool} {i : Nat}, bs[i]? = some false -> cntF (bs.set i true) + 1 = cntF bs
 | [], i, h => by simp at h
 | q :: bs, 0, h => by simp at h; subst h; simp [cntF]
 | q :: bs, i + 1, h => by
  have ih := cntF_set (bs := bs) (i := i) (by simpa using h)
  unfold cntF at *
  rw [List.set_cons_succ, List.countP_cons, List.countP_cons]
  omega
def fls (w : World) (b : Nat) : Nat := match w.heap[b]? with | some (.cells c _ _) => c.toList.countP (fun v => match v with | .bool false => true | _ => false) | _ => 0
theorem fls_eq {w : World} {b : Nat} {bs : List Bool} (h : boolBlk w b bs) : fls w b = cntF bs := by
 unfold fls cntF
 rw [h]
 simp only [List.countP_map]
 congr 1
 funext q
 cases q <;> rfl
structure BInv (l : List Knd) (name : ByteArray) (bs : List Bool) : Prop where
 len : bs.length = l.length
 ok : ∀ (i : Nat) k, l[i]? = some k -> bs[i]? = some true -> kinSet l name k.name = true
 at_ : ∀ (i : Nat), kFind l name = i -> bs[i]? = some true
def ClosedAt (l : List Knd) (bs : List Bool) (i m : Nat) : Prop := ∀ k, l[i]? = some k -> bs[i]? = some true -> ∀ (t : Nat) o, t < m -> k.ofs[t]? = some o -> ∀ (j : Nat), kFind l o = j -> bs[j]? = some true
theorem BInv.set {l : List Knd} {name : ByteArray} {bs : List Bool} (hw : Wf l) (h : BInv l name bs) {i j : Nat} {k : Knd} {o : ByteArray} (hk : l[i]? = some k) (hi : bs[i]? = some true) (ho : o ∈ k.ofs) (hj : kFind l o = j) : BInv l name (bs.set j true) := by
 refine ⟨by rw [List.length_set]; exact h.len, fun m x hm hb => ?_, fun m hm => ?_⟩
 ·by_cases hmj : j = m
  ·subst hmj
   obtain ⟨j', y, e1, e2, e3, _⟩ := kFind_pos (l := l) (s := o) (by omega)
   have : j' = j := by omega
   subst this
   rw [hm] at e2; injection e2 with e2; subst e2
   rw [e3]
   exact kinSet_closed hw name k (List.mem_of_getElem? hk) (h.ok i k hk hi) o ho
  rw [List.getElem?_set_ne hmj] at hb
  exact h.ok m x hm hb
 have := h.at_ m hm
 by_cases hmj : j = m
 ·subst hmj
  rw [List.getElem?_set_self (List.getElem?_eq_some_iff.1 this).1]
 rw [List.getElem?_set_ne hmj]; exact this
theorem BInv.done {l : List Knd} {name : ByteArray} {bs : List Bool} (hw : Wf l) (h : BInv l name bs) (hn : 0 <= kFind l name) (hc : ∀ i, i < l.length -> ∀ k, l[i]? = some k -> ClosedAt l bs i k.ofs.length) : ∀ (i : Nat) k, l[i]? = some k -> bs[i]? = some (kinSet l name k.name) := by
 intro i k hk
 have hil := (List.getElem?_eq_some_iff.1 hk).1
 obtain ⟨q, hq⟩ : ∃ q, bs[i]? = some q := ⟨_, List.getElem?_eq_getElem (by rw [h.len]; exact hil)⟩
 rw [hq]
 cases q with
 | true => rw [h.ok i k hk hq]
 | false =>
  cases hs : kinSet l name k.name with
  | false => rfl
  | true =>
   exfalso
   have hT : ∀ s, kinSet l name s = true -> (match kFind l s with | .ofNat j => bs[j]? == some true | _ => true) = true := by
    refine kinFrom_least (T := fun s => match kFind l s with | .ofNat j => bs[j]? == some true | _ => true) ?_ ?_
    ·intro x hx hxt o ho
     obtain ⟨m, hm⟩ := List.mem_iff_getElem?.1 hx
     have hxi : kFind l x.name = m := by
      obtain ⟨m', y, e1, e2, e3, e4⟩ := kFind_pos (kFind_mem hx)
      have : m' = m := by
       rcases Nat.lt_trichotomy m' m with h1 | h1 | h1
       ·exact absurd e3 ((hw m x hm).1 m' y h1 e2)
       ·exact h1
       exact absurd rfl (e4 m x h1 hm)
      rw [e1, this]
     have hxt2 : (match kFind l x.name with | .ofNat j => bs[j]? == some true | _ => true) = true := hxt
     rw [hxi] at hxt2
     have hbm : bs[m]? = some true := by simpa using hxt2
     obtain ⟨t, ht⟩ := List.mem_iff_getElem?.1 ho
     obtain ⟨j, y, _, hj2, hj3⟩ := (hw m x hm).2 o ho
     obtain ⟨j', y', e1, _, _, _⟩ := kFind_pos (l := l) (s := o) (by have := kFind_mem (List.mem_of_getElem? hj2); rw [hj3] at this; exact this)
     show (match kFind l o with | .ofNat j => bs[j]? == some true | _ => true) = true
     rw [e1]
     have := hc m (List.getElem?_eq_some_iff.1 hm).1 x hm x hm hbm t o (List.getElem?_eq_some_iff.1 ht).1 ht j' e1
     show (bs[j']? == some true) = true
     rw [this]; rfl
    intro s hs2
    simp at hs2
    subst hs2
    obtain ⟨j, _, e1, _⟩ := kFind_pos hn
    show (match kFind l name with | .ofNat j => bs[j]? == some true | _ => true) = true
    rw [e1]
    show (bs[j]? == some true) = true
    rw [h.at_ j e1]; rfl
   have : (match kFind l k.name with | .ofNat j => bs[j]? == some true | _ => true) = true := hT k.name hs
   have hki : kFind l k.name = i := by
    obtain ⟨m', y, e1, e2, e3, e4⟩ := kFind_pos (kFind_mem (List.mem_of_getElem? hk))
    have : m' = i := by
     rcases Nat.lt_trichotomy m' i with h1 | h1 | h1
     ·exact absurd e3 ((hw i k hk).1 m' y h1 e2)
     ·exact h1
     exact absurd rfl (e4 i k h1 hk)
    rw [e1, this]
   rw [hki] at this
   change (bs[i]? == some true) = true at this
   rw [hq] at this
   cases this
theorem made_bools (n : Nat) : (madeCells #[.bool false] n) = ((List.replicate n false).map Value.bool).toArray := by
 apply Array.toList_inj.1
 rw [toList_madeCells_one]; simp
theorem bool_info : (Tryz.prog.info? 4).map (fun i => (i.zero, i.size, i.bytes)) = some (some (.bool false), 1, 1) := by kernel_rfl
def agN : Value -> Nat | .bool true => 1 | _ => 0
theorem boolBlk.below {w w' : World} {b B : Nat} {bs : List Bool} (h : boolBlk w b bs) (hb : Below B w w') (hlt : b < B) : boolBlk w' b bs := (hb.block b hlt).trans h
theorem boolBlk.frozen {w : World} {b : Nat} {bs : List Bool} (h : boolBlk w b bs) (i : Nat) : w.frozen? ⟨b, i, none⟩ = false := by unfold boolBlk at h; simp [World.frozen?, h]
structure KRun (l : List Knd) (name : ByteArray) (bs0 bs : List Bool) (q : Bool) (i m : Nat) : Prop where
 inv : BInv l name bs
 same : q = false -> bs = bs0 /\ (∀ t, t < i -> ∀ k, l[t]? = some k -> ClosedAt l bs t k.ofs.length) /\ ClosedAt l bs i m
 less : q = true -> cntF bs < cntF bs0
theorem KRun.start {l : List Knd} {name : ByteArray} {bs : List Bool} (h : BInv l name bs) : KRun l name bs bs false 0 0 :=
 ⟨h, fun _ => ⟨rfl, fun _ ht => absurd ht (Nat.not_lt_zero _), fun _ _ _ _ _ ht => absurd ht (Nat.not_lt_zero _)⟩, fun e => Bool.noConfusion e⟩
theorem KRun.skip {l : List Knd} {name : ByteArray} {bs0 bs : List Bool} {q : Bool} {i m j : Nat} {k : Knd} {o : ByteArray} (h : KRun l name bs0 bs q i m) (hk : l[i]? = some k) (ho : k.ofs[m]? = some o) (hj : kFind l o = j) (hb : bs[j]? = some true) : KRun l name bs0 bs q i (m + 1) := by
 refine ⟨h.inv, fun e => ⟨(h.same e).1, (h.same e).2.1, fun k' hk' hi t o' ht ho' j' hj' => ?_⟩, h.less⟩
 by_cases htm : t = m
 ·subst htm
  rw [hk] at hk'; injection hk' with hk'; subst hk'
  rw [ho] at ho'; injection ho' with ho'; subst ho'
  have : j' = j := by omega
  rw [this]; exact hb
 exact (h.same e).2.2 k' hk' hi t o' (by omega) ho' j' hj'
theorem KRun.put {l : List Knd} {name : ByteArray} {bs0 bs : List Bool} {q : Bool} {i m j : Nat} {k : Knd} {o : ByteArray} (hw : Wf l) (h : KRun l name bs0 bs q i m) (hk : l[i]? = some k) (hi : bs[i]? = some true) (ho : k.ofs[m]? = some o) (hj : kFind l o = j) (hb : bs[j]? = some false) : KRun l name bs0 (bs.set j true) true i (m + 1) := by
 refine ⟨h.inv.set hw hk hi (List.mem_of_getElem? ho) hj, fun e => Bool.noConfusion e, fun _ => ?_⟩
 have h1 := cntF_set hb
 cases q with
 | false => have := (h.same rfl).1; subst this; omega
 | true => have := h.less rfl; omega
theorem KRun.next {l : List Knd} {name : ByteArray} {bs0 bs : List Bool} {q : Bool} {i m : Nat} {k : Knd} (h : KRun l name bs0 bs q i m) (hk : l[i]? = some k) (hx : m = k.ofs.length \/ bs[i]? = some false) : KRun l name bs0 bs q (i + 1) 0 := by
 refine ⟨h.inv, fun e => ⟨(h.same e).1, fun t ht k' hk' => ?_, fun _ _ _ _ _ ht => absurd ht (Nat.not_lt_zero _)⟩, h.less⟩
 by_cases hti : t = i
 ·subst hti
  rw [hk] at hk'; injection hk' with hk'; subst hk'
  rcases hx with hx | hx
  ·rw [<- hx]; exact (h.same e).2.2
  intro k' _ hi; rw [hx] at hi; injection hi with hi; cases hi
 exact (h.same e).2.1 t (by omega) k' hk'
theorem KRun.meas {l : List Knd} {name : ByteArray} {bs0 bs : List Bool} {q : Bool} {i m : Nat} (h : KRun l name bs0 bs q i m) : 2 * cntF bs + agN (.bool q) < 2 * cntF bs0 + 1 := by
 cases q with
 | false => have := (h.same rfl).1; subst this; simp [agN]
 | true => have := h.less rfl; simp [agN]; omega
theorem BInv.start {l : List Knd} {name : ByteArray} {j : Nat} (hj : kFind l name = j) (hjl : j < l.length) : BInv l name ((List.replicate l.length false).set j true) := by
 refine ⟨by simp, fun i k hk hb => ?_, fun i hi => ?_⟩
 ·by_cases hji : j = i
  ·subst hji
   obtain ⟨j', y, e1, e2, e3, _⟩ := kFind_pos (l := l) (s := name) (by omega)
   have : j' = j := by omega
   subst this
   rw [hk] at e2; injection e2 with e2; subst e2
   rw [e3]; exact kinSet_self _ _
  rw [List.getElem?_set_ne hji] at hb
  rw [List.getElem?_replicate] at hb
  split at hb <;> simp at hb
 have : j = i := by omega
 subst this
 rw [List.getElem?_set_self (by simpa using hjl)]
theorem kin_pick {l : List Knd} {name : ByteArray} {k : Nat} {d : Knd} (hd : l[k]? = some d) {r u : List ByteArray} (h : u = r ++ ((l.drop k).filter fun k => kinSet l name k.name).map (·.name)) :
 u = (r ++ if kinSet l name d.name then [d.name] else []) ++ ((l.drop (k + 1)).filter fun k => kinSet l name k.name).map (·.name) := by
 rw [h, drop_cons hd, List.filter_cons]
 cases kinSet l name d.name <;> simp
set_option maxRecDepth 100000 in
set_option maxHeartbeats 8000000 in
theorem rkin_any (l : List Knd) (name : ByteArray) (v : Value) (w : World) (hv : Sl kndL w v l) (hw : Wf l) (hn : 0 <= kFind l name) (hll : l.length <= 12) :
 Calls Tryz.prog 116 #[v, .string name] w fun e w' => ∃ u, e = .returned u /\ Sl strL w' u (kinL l name) /\ Below w.heap.size w w' := by
 obtain ⟨i0, hi, hz, hz1, hz2⟩ := info_parts bool_info
 obtain ⟨iS, ei, ez, ez1, ez2⟩ := info_parts str_info
 have HV := Lib.hid hv
 have HW := Lib.hid hw
 have HN0 := Lib.hid hn
 obtain ⟨j0, _, hj0, hy0, _, _⟩ := kFind_pos hn
 have hj0l : j0 < l.length := (List.getElem?_eq_some_iff.1 hy0).1
 have hj0l' : (j0 : Int) < (l.length : Int) := by omega
 have HB0 := Lib.hid (BInv.start hj0 hj0l)
 have hk0 : ∀ wx, Below w.heap.size w wx -> Calls Tryz.prog 59 #[v, .string name] wx fun e w' => e = .returned (.int .i64 j0) /\ wx = w' := fun wx hb => by
  have := rkind_any l name v wx (hv.below hb); rwa [hj0] at this
 have HK0 := Lib.hid hk0
 obtain ⟨A, c, rfl, _, _⟩ := hv.form
 have hmk : ∀ u : World, (Instr.makeSlice 258 (.int .i64 (l.length : Int)) (.int .i64 (l.length : Int))).run Tryz.prog u =
  .ok (.slice (some ⟨u.heap.size, 0, none⟩) l.length l.length) (u.alloc (.cells (madeCells #[.bool false] l.length) 4)) := fun u => by
  have h := run_make (P := Tryz.prog) u 258 4 i0 (.bool false) Tryz.underlying258 hi hz .i64 .i64 (l.length : Int) (l.length : Int) (by omega) (Int.le_refl _) (by rw [hz2]; omega) (by omega)
  simpa [hz1, Value.cells] using h
 have hb0 : Below w.heap.size w (w.alloc (.cells (madeCells #[.bool false] l.length) 4)) := (Below.refl _ _).alloc (Nat.le_refl _) _
 have hB0 : boolBlk (w.alloc (.cells (madeCells #[.bool false] l.length) 4)) w.heap.size (List.replicate l.length false) := by
  unfold boolBlk; rw [<- made_bools]; exact heap_alloc_new _ _
 have hA1 : (madeCells #[Value.bool false] l.length).setIfInBounds j0 (.bool true) = (((List.replicate l.length false).set j0 true).map Value.bool).toArray := by
  rw [made_bools, List.map_set, List.setIfInBounds_toArray]
 have hB1 : boolBlk (w.alloc (.cells ((madeCells #[Value.bool false] l.length).setIfInBounds j0 (.bool true)) 4)) w.heap.size ((List.replicate l.length false).set j0 true) := by
  unfold boolBlk; rw [hA1]; exact heap_alloc_new _ _
 clear hA1
 have hfr := hB0.frozen j0
 have hb1 : Below w.heap.size w (w.alloc (.cells ((madeCells #[Value.bool false] l.length).setIfInBounds j0 (.bool true)) 4)) := (Below.refl _ _).alloc (Nat.le_refl _) _
 have hc0 : ∃ q, (w.alloc (.cells (madeCells #[.bool false] l.length) 4)).cell? ⟨w.heap.size, j0, none⟩ = some q := ⟨_, hB0.cell (i := j0) (q := false) (by simp [hj0l])⟩
 obtain ⟨q0, hc0⟩ := hc0
 clear hv hw hj0 hy0 hk0 hn
 go_enter Tryz.func116, Tryz.ntmps116
 go_wp2_with fail
 refine (HK0.out _ hb0).mono ?_
 rintro e w1 ⟨rfl, rfl⟩
 go_wp2_with fail
 clear hmk hc0 hfr HK0
 generalize hW1 : w.alloc (.cells ((madeCells #[Value.bool false] l.length).setIfInBounds j0 (.bool true)) 4) = W1 at *
 have hs1 : w.heap.size < W1.heap.size := (geB hB1)
 go_loopw [6] (fun ag wr => ∃ (q : Bool) (bs : List Bool), ag = .bool q /\ Below w.heap.size w wr /\ boolBlk wr w.heap.size bs /\ Hid (BInv l name bs) /\
  Hid (q = false -> ∀ t, t < l.length -> ∀ k, l[t]? = some k -> ClosedAt l bs t k.ofs.length)) (fun ag wr => 2 * fls wr w.heap.size + agN ag)
 case atStart => exact ⟨true, _, rfl, hb1, hB1, HB0, fun e => Bool.noConfusion e⟩
 obtain ⟨q, bs, rfl, hbr, hbk, HBI, HCL⟩ := hrel
 clear hb1 hB1 HB0
 have hBr : w.heap.size < wr.heap.size := (geB hbk)
 obtain ⟨wo, rfl⟩ : ∃ wo : World, wo = wr := ⟨_, rfl⟩
 cases q with
 | true =>
  have HST := Lib.hid (KRun.start HBI.out)
  have hfl := fls_eq hbk
  clear HBI HCL
  go_wp2_with fail
  go_loopw [6, 7] (fun ag i wx => ∃ (q : Bool) (k : Nat) (bs3 : List Bool), k <= l.length /\ ag = .bool q /\ i = .int .i64 k /\ Below w.heap.size w wx /\ boolBlk wx w.heap.size bs3 /\ Hid (KRun l name bs bs3 q k 0)) (fun _ i _ => l.length - (intOf i).toNat)
  case atStart => exact ⟨false, 0, bs, Nat.zero_le _, rfl, rfl, hbr, hbk, HST⟩
  case round =>
   clear hbr hbk HST
   obtain ⟨q, k, bs3, hk, rfl, rfl, hbx, hbk, HR⟩ := hrel
   obtain ⟨w3, rfl⟩ : ∃ w3 : World, w3 = wr := ⟨_, rfl⟩
   by_cases hlt : k < l.length
   ·obtain ⟨d, hd⟩ : ∃ d, l[k]? = some d := ⟨_, List.getElem?_eq_getElem hlt⟩
    have hlt' : (k : Int) < (l.length : Int) := by omega
    go_wp2_with fail
    go_loopw [6, 8] (fun ag i wx => ∃ (q : Bool) (m : Nat) (bs4 : List Bool), m <= d.ofs.length /\ ag = .bool q /\ i = .int .i64 m /\ Below w.heap.size w wx /\ boolBlk wx w.heap.size bs4 /\ Hid (KRun l name bs bs4 q k m)) (fun _ i _ => d.ofs.length - (intOf i).toNat)
    case atStart => exact ⟨q, 0, bs3, Nat.zero_le _, rfl, rfl, hbx, hbk, HR⟩
    clear hbx hbk HR
    obtain ⟨q, m, bs4, hm, rfl, rfl, hbx, hbk, HR⟩ := hrel
    obtain ⟨b, o, rfl, u, x, _, hso, _, _, c1, _⟩ := knd_at (HV.out.below hbx) hd
    obtain ⟨A1, q1, rfl, _, hm1⟩ := hso.form
    unfold maxLen at hm1
    obtain ⟨qi, hqi⟩ : ∃ q, bs4[k]? = some q := ⟨_, List.getElem?_eq_getElem (by rw [HR.out.inv.len]; exact hlt)⟩
    have y0 := hbk.cell hqi
    by_cases hmt : m < d.ofs.length
    ·have hmt' : (m : Int) < (d.ofs.length : Int) := by omega
     cases qi with
     | true =>
      obtain ⟨of, hof⟩ : ∃ d2, d.ofs[m]? = some d2 := ⟨_, List.getElem?_eq_getElem hmt⟩
      obtain ⟨b2, o2, rfl, _, x0⟩ := str_at hso hof
      obtain ⟨j, y, _, hj2, hj3⟩ := (HW.out k d hd).2 of (List.mem_of_getElem? hof)
      obtain ⟨j1, z, e1, e2, _, _⟩ := kFind_pos (l := l) (s := of) (by have := kFind_mem (List.mem_of_getElem? hj2); rw [hj3] at this; exact this)
      have hj1l : j1 < l.length := (List.getElem?_eq_some_iff.1 e2).1
      have hj1l' : (j1 : Int) < (l.length : Int) := by omega
      have hkk := rkind_any l of _ wr (HV.out.below hbx)
      rw [e1] at hkk
      obtain ⟨qj, hqj⟩ : ∃ q, bs4[j1]? = some q := ⟨_, List.getElem?_eq_getElem (by rw [HR.out.inv.len]; exact hj1l)⟩
      have y1 := hbk.cell hqj
      have HE := Lib.hid (And.intro hd (And.intro hof e1))
      have HQ := Lib.hid hqi
      clear hj2 hj3 hof e1 e2 hd hqi hso
      go_wp2_with fail
      refine hkk.mono ?_
      rintro e w5 ⟨rfl, rfl⟩
      clear hkk
      cases qj with
      | true =>
       have HN := Lib.hid (HR.out.skip HE.out.1 HE.out.2.1 HE.out.2.2 hqj)
       clear hqj
       go_wp2_with fail
       go_roundw
       case rel => exact ⟨q, m + 1, bs4, by omega, rfl, by go_num, hbx, hbk, HN⟩
       case measure => simp [intOf]; omega
      | false =>
       have HN := Lib.hid (KRun.put HW.out HR.out HE.out.1 HQ.out HE.out.2.1 HE.out.2.2 hqj)
       have hfr := hbk.frozen j1
       have hbk2 := hbk.set j1
       have hbx2 := hbx.setCell (p := ⟨w.heap.size, j1, none⟩) (Nat.le_refl _) (.bool true)
       clear hqj
       go_wp2_with fail
       go_roundw
       case rel => exact ⟨true, m + 1, _, by omega, rfl, by go_num, hbx2, hbk2, HN⟩
       case measure => simp [intOf]; omega
     | false =>
      have HN := Lib.hid (HR.out.next hd (.inr hqi))
      clear hqi
      go_wp2_with fail
      go_roundw
      case rel => exact ⟨q, k + 1, bs4, by omega, rfl, by go_num, hbx, hbk, HN⟩
      case measure => simp [intOf]; omega
    obtain rfl : m = d.ofs.length := by omega
    have HN := Lib.hid (HR.out.next hd (.inl rfl))
    clear hqi
    go_wp2_with fail
    go_roundw
    case rel => exact ⟨q, k + 1, bs4, by omega, rfl, by go_num, hbx, hbk, HN⟩
    case measure => simp [intOf]; omega
   ·obtain rfl : k = l.length := by omega
    have hms := HR.out.meas
    have hff := fls_eq hbk
    have HCL2 : Hid (q = false -> ∀ t, t < l.length -> ∀ k, l[t]? = some k -> ClosedAt l bs3 t k.ofs.length) := fun e t ht k hk => (HR.out.same e).2.1 t ht k hk
    have HBI2 := Lib.hid HR.out.inv
    clear HR
    go_wp2_with fail
    go_roundw
    case rel => exact ⟨q, bs3, rfl, hbx, hbk, HBI2, HCL2⟩
    case measure => rw [hff, hfl]; simpa [agN] using hms
 | false =>
  have HD : Hid (∀ (i : Nat) k, l[i]? = some k -> bs[i]? = some (kinSet l name k.name)) := HBI.out.done HW.out HN0.out (HCL.out rfl)
  clear HBI HCL
  go_wp2_with fail
  go_loopw [10, 11] (fun ov i wx => ∃ (k : Nat) (r : List ByteArray), k <= l.length /\ i = .int .i64 k /\ r.length <= k /\ Below wo.heap.size wo wx /\ Own wx wo.heap.size 9 1 ov r.length (r.map Value.string) /\
   Hid (∀ x ∈ r, Sm x) /\ Hid (kinL l name = r ++ ((l.drop k).filter fun k => kinSet l name k.name).map (·.name))) (fun _ i _ => l.length - (intOf i).toNat)
  case atStart => exact ⟨0, [], Nat.zero_le _, rfl, Nat.le_refl _, Below.refl _ _, Own.nil _ _ _ _, (by intro x hx; simp at hx), by unfold Hid; rw [List.drop_zero]; rfl⟩
  obtain ⟨k, r, hk, rfl, hrk, hbx, hor, HR, HU⟩ := hrel
  have hBx := hbr.trans (hbx.mono hbr.size)
  obtain ⟨Ar, cr, rfl, _, _⟩ := hor.form
  by_cases hlt : k < l.length
  ·obtain ⟨d, hd⟩ : ∃ d, l[k]? = some d := ⟨_, List.getElem?_eq_getElem hlt⟩
   obtain ⟨b, o, rfl, u, x, hsm, _, _, c0, _, _⟩ := knd_at (HV.out.below hBx) hd
   have hlt' : (k : Int) < (l.length : Int) := by omega
   have y0 := (hbk.below hbx hBr).cell (HD.out k d hd)
   have HS := Lib.hid (kin_pick hd HU.out)
   clear hd HU
   cases hq : kinSet l name d.name with
   | true =>
    have HN : Hid (kinL l name = (r ++ [d.name]) ++ ((l.drop (k + 1)).filter fun k => kinSet l name k.name).map (·.name)) := by unfold Hid; rw [HS.out, hq]; simp
    have HR2 : Hid (∀ x ∈ r ++ [d.name], Sm x) := by
     intro x hx
     rcases List.mem_append.1 hx with h | h
     ·exact HR.out x h
     simp at h; subst h; exact hsm
    rw [hq] at y0
    clear hq HS
    go_wp2_with (at_builtin; refine wpList_append_q _ rfl (.tmp 71) (.tmp 77) _ rfl wo.heap.size 9 iS (.string .empty) 1 16 Tryz.underlying77 ei ez ez1 ez2 rfl (by decide) (.slice Ar r.length cr) r.length (r.map Value.string) rfl (hor.alloc _) (some ⟨wr.heap.size, 0, none⟩) 1 1 [.string d.name] rfl rfl (fun _ => ⟨_, rfl, by simpa using cell_one_new wr (.string d.name) 9⟩) (by simp [Value.oneCell']) (by unfold maxLen; omega) (by omega) (by have := hbx.size; simp; omega) ?_; intro v7 w7 hown7 hg7 hat7)
    have hb7 : Below wo.heap.size wo w7 := (hbx.alloc hbx.size _).grown hg7 (by have := hbx.size; simp; omega) (fun kk hkk => (hor.lt kk hkk).1)
    have ho7 : Own w7 wo.heap.size 9 1 v7 (r ++ [d.name]).length ((r ++ [d.name]).map Value.string) := by simpa using hown7
    have hl7 : (r ++ [d.name]).length <= k + 1 := by simp; omega
    clear hg7 hat7 hown7
    obtain ⟨A7, c7, rfl, _, _⟩ := ho7.form
    go_roundw
    case rel => exact ⟨k + 1, r ++ [d.name], by omega, by go_num, hl7, hb7, ho7, HR2, HN⟩
    case measure => simp [intOf]; omega
   | false =>
    have HN : Hid (kinL l name = r ++ ((l.drop (k + 1)).filter fun k => kinSet l name k.name).map (·.name)) := by unfold Hid; rw [HS.out, hq]; simp
    rw [hq] at y0
    clear hq HS
    go_wp2_with fail
    go_roundw
    case rel => exact ⟨k + 1, r, by omega, by go_num, by omega, hbx, hor, HR, HN⟩
    case measure => simp [intOf]; omega
  obtain rfl : k = l.length := by omega
  have HQ : Hid (kinL l name = r) := by unfold Hid; rw [HU.out, List.drop_length]; simp
  have hsl := hor.strs HR.out
  go_wp2_with fail
  go_ret
  exact ⟨.slice Ar r.length cr, rfl, by rw [HQ.out]; exact hsl, hBx⟩
theorem any_hit {D : Type} {p : D -> Bool} {l : List D} {k : Nat} {d : D} (h : l[k]? = some d) (hp : p d = true) : l.any p = true := List.any_eq_true.2 ⟨d, List.mem_of_getElem? h, hp⟩
theorem any_miss {D : Type} {p : D -> Bool} {l : List D} (h : ∀ j x, j < l.length -> l[j]? = some x -> p x = false) : l.any p = false := by
 cases hq : l.any p with
 | false => rfl
 | true =>
  obtain ⟨d, hd, hp⟩ := List.any_eq_true.1 hq
  obtain ⟨j, hj⟩ := List.mem_iff_getElem?.1 hd
  rw [h j d (List.getElem?_eq_some_iff.1 hj).1 hj] at hp; cases hp
set_option maxHeartbeats 1000000 in
theorem rin_any (l : List ByteArray) (s : ByteArray) (v : Value) (w : World) (hv : Sl strL w v l) : Calls Tryz.prog 72 #[v, .string s] w fun e w' => e = .returned (.bool (l.any fun y => decide (s = y))) /\ w = w' := by
 obtain ⟨A, c, rfl, hlc, hcm⟩ := hv.form
 unfold maxLen at hcm
 go_enter Tryz.func72, Tryz.ntmps72
 go_wp2_with fail
 go_loop [5] (fun i => ∃ k : Nat, k <= l.length /\ i = .int .i64 k /\ Hid (∀ j x, j < k -> l[j]? = some x -> decide (s = x) = false)) (fun i => l.length - (intOf i).toNat)
 case atStart => exact ⟨0, Nat.zero_le _, rfl, fun j x hj => absurd hj (Nat.not_lt_zero _)⟩
 obtain ⟨k, hk, rfl, HA⟩ := hrel
 by_cases hlt : k < l.length
 ·obtain ⟨d, hd⟩ : ∃ d, l[k]? = some d := ⟨_, List.getElem?_eq_getElem hlt⟩
  obtain ⟨b, o, rfl, _, c0⟩ := str_at hv hd
  have HD : Hid (l[k]? = some d) := hd
  clear hd hv
  by_cases hq0 : s = d
  ·have HE : Hid ((l.any fun y => decide (s = y)) = true) := any_hit (p := fun y => decide (s = y)) HD.out (decide_eq_true hq0)
   subst hq0
   go_wp2_with fail
   go_ret
   exact ⟨by rw [HE.out]; rfl, rfl⟩
  have hq : decide (s = d) = false := decide_eq_false hq0
  have hq2 : ¬ d = s := fun e => hq0 e.symm
  have hqb : (d.toList == s.toList) = false := by rw [bytes_beq]; exact decide_eq_false hq2
  have HS : Hid (∀ j y, j < k + 1 -> l[j]? = some y -> decide (s = y) = false) := miss_step (p := fun y => decide (s = y)) HA.out HD.out hq
  go_wp2_with fail
  go_round
  case rel => exact ⟨k + 1, by omega, by go_num, HS⟩
  case measure => simp [intOf]; omega
 have hkl : k = l.length := by omega
 subst hkl
 have HE : Hid ((l.any fun y => decide (s = y)) = false) := any_miss (p := fun y => decide (s = y)) HA.out
 clear hv
 go_wp2_with fail
 go_ret
 exact ⟨by rw [HE.out]; rfl, rfl⟩
theorem ris_any (l : List Knd) (a b : ByteArray) (v : Value) (w : World) (hv : Sl kndL w v l) (hw : Wf l) (hn : 0 <= kFind l a) (hll : l.length <= 12) :
 Calls Tryz.prog 62 #[v, .string a, .string b] w fun e w' => e = .returned (.bool (isKinB l a b)) /\ Below w.heap.size w w' := by
 have h1 := rkin_any l a v w hv hw hn hll
 obtain ⟨A, c, rfl, _, _⟩ := hv.form
 clear hv hw
 go_enter Tryz.func62, Tryz.ntmps62
 go_wp2_with fail
 refine h1.mono ?_
 clear h1
 rintro e w1 ⟨u, rfl, hu, hb1⟩
 have h2 := rin_any (kinL l a) b u w1 hu
 obtain ⟨A1, c1, rfl, _, _⟩ := hu.form
 clear hu
 go_wp2_with fail
 refine h2.mono ?_
 clear h2
 rintro e w2 ⟨rfl, rfl⟩
 have HB : Hid (((kinL l a).any fun y => decide (b = y)) = isKinB l a b) := rfl
 generalize ((kinL l a).any fun y => decide (b = y)) = q at *
 go_wp2_with fail
 go_ret
 exact ⟨ret_bool HB.out, hb1⟩
theorem fldC_lt (f d : Fld) : ltS f.name d.name = decide (0 < fldC f.name d) := by
 rw [ltS_cmp]
 unfold fldC
 rw [cmpS_anti d.name f.name]
 congr 1
 apply propext
 omega
theorem low_new {acc : List Fld} {f : Fld} {t : Nat} (hr : Rise acc) (ht : t <= acc.length) (hA : ∀ i d, t <= i -> acc[i]? = some d -> ltS f.name d.name = true) (hB : t = 0 \/ ∃ d, acc[t - 1]? = some d /\ fldC f.name d < 0) :
 lowI (fldC f.name) acc = t /\ eqAt (fldC f.name) acc (lowI (fldC f.name) acc) = false := by
 have hle := lowI_le (fldC f.name) acc
 have e : lowI (fldC f.name) acc = t := by
  rcases Nat.lt_trichotomy (lowI (fldC f.name) acc) t with h | h | h
  ·exfalso
   rcases hB with h0 | ⟨d, hd, hc⟩
   ·omega
   have := low_ge (rise_chain hr) (fldC_mono f.name) (show lowI (fldC f.name) acc <= t - 1 by omega) hd
   omega
  ·exact h
  exfalso
  have hl : t < acc.length := by omega
  have h1 := low_lt h (List.getElem?_eq_getElem hl)
  have h2 := hA t _ (Nat.le_refl _) (List.getElem?_eq_getElem hl)
  rw [fldC_lt] at h2
  simp at h2
  omega
 refine ⟨e, ?_⟩
 rw [e]
 unfold eqAt
 cases hd : acc[t]? with
 | none => rfl
 | some d =>
  have h2 := hA t d (Nat.le_refl _) hd
  rw [fldC_lt] at h2
  simp at h2 ⊢
  omega
theorem at_old {acc : List Fld} {f q : Fld} {t : Nat} (hr : Rise acc) (ht : acc[t]? = some q) (hq : q.name = f.name) :
 lowI (fldC f.name) acc = t /\ eqAt (fldC f.name) acc (lowI (fldC f.name) acc) = true := by
 have hc : fldC f.name q = 0 := by unfold fldC; rw [hq]; exact cmpS_zero.2 rfl
 have hl := (List.getElem?_eq_some_iff.1 ht).1
 have e : lowI (fldC f.name) acc = t := by
  rcases Nat.lt_trichotomy (lowI (fldC f.name) acc) t with h | h | h
  ·exfalso
   have h1 := low_ge (rise_chain hr) (fldC_mono f.name) (Nat.le_refl (lowI (fldC f.name) acc)) (List.getElem?_eq_getElem (l := acc) (i := lowI (fldC f.name) acc) (by omega))
   have h2 := List.pairwise_iff_getElem.1 hr _ t (by omega) hl h
   obtain ⟨_, e2⟩ := List.getElem?_eq_some_iff.1 ht
   rw [e2, hq] at h2
   have h3 : 0 <= cmpS (acc[lowI (fldC f.name) acc]'(by omega)).name f.name := h1
   omega
  ·exact h
  exfalso
  have := low_lt h ht
  omega
 refine ⟨e, ?_⟩
 rw [e]
 unfold eqAt
 rw [ht]
 simp [hc]
theorem fldT_info : (Tryz.prog.info? 84).map (fun i => (i.zero, i.size, i.bytes)) = some (some (.agg #[.string .empty, .int .i64 0, .bool false, .bool false]), 4, 32) := by kernel_rfl
theorem read_take {w : World} {B bo oo co t : Nat} {e : TypeId} {acc : List Fld} (h : Own w B e 4 (.slice (some ⟨bo, oo, none⟩) acc.length co) acc.length (acc.flatMap Fld.enc)) (ht : t <= acc.length) :
 ∀ j u, ((acc.take t).flatMap Fld.enc)[j]? = some u -> w.cell? ((⟨bo, oo, none⟩ : Addr).add j) = some u := by
 intro j u hj
 rw [addr_add]
 refine h.cell rfl ?_
 rw [<- flat_take Fld.enc_len acc t ht, List.getElem?_take] at hj
 split at hj
 ·exact hj
 cases hj
theorem read_drop {w : World} {B bo oo co t : Nat} {e : TypeId} {acc : List Fld} (h : Own w B e 4 (.slice (some ⟨bo, oo, none⟩) acc.length co) acc.length (acc.flatMap Fld.enc)) (ht : t <= acc.length) :
 ∀ j u, ((acc.drop t).flatMap Fld.enc)[j]? = some u -> w.cell? ((⟨bo, oo + t * 4, none⟩ : Addr).add j) = some u := by
 intro j u hj
 rw [addr_add, Nat.add_assoc]
 refine h.cell rfl ?_
 rw [<- flat_drop Fld.enc_len acc t ht, List.getElem?_drop] at hj
 exact hj
theorem read_new {w : World} {e : TypeId} (f : Fld) : ∀ j u, f.enc[j]? = some u -> (w.alloc (.cells #[.string f.name, .int .i64 f.ty, .bool f.must, .bool f.key] e)).cell? ((⟨w.heap.size, 0, none⟩ : Addr).add j) = some u := by
 intro j u hj
 rw [addr_add, Nat.zero_add, World.cell?_alloc_at _ _ _ _ rfl]
 simpa [Fld.enc] using hj
theorem Own.cast {w : World} {B : Nat} {e : TypeId} {sz : Nat} {v : Value} {n n' : Nat} {xs xs' : List Value} (h : Own w B e sz v n xs) (hn : n = n') (hx : xs = xs') : Own w B e sz v n' xs' := by subst hn; subst hx; exact h
set_option maxRecDepth 100000 in
set_option maxHeartbeats 8000000 in
theorem rfieldsO_any (l : List Knd) (name : ByteArray) (v : Value) (w : World) (hv : Sl kndL w v l) (hw : Wf l) (hn : 0 <= kFind l name) (hll : l.length <= 12) (hfl : ∀ k ∈ l, k.fields.length <= 8) :
 Calls Tryz.prog 60 #[v, .string name] w (FieldsO l name w) := by
 obtain ⟨i0, ei, ez, ez1, ez2⟩ := info_parts fldT_info
 obtain ⟨A, c, rfl, _, _⟩ := hv.form
 have HV := Lib.hid hv
 have HFL := Lib.hid hfl
 have hkc := rkin_any l name _ w hv hw hn hll
 have HM : Hid (∀ s ∈ kinL l name, ∃ (i : Nat) (k : Knd), kFind l s = i /\ l[i]? = some k /\ fldsFor l s = k.fields) := kin_known
 have HF : Hid (fieldsOf l name = (((kinL l name).drop 0).flatMap (fldsFor l)).foldlM putF []) := by unfold Hid; rw [fieldsOf_eq, List.drop_zero]; rfl
 have hkl := kinL_len l name
 clear hv hfl hw hn
 go_enter Tryz.func60, Tryz.ntmps60
 go_wp2_with fail
 refine hkc.mono ?_
 clear hkc
 rintro e w1 ⟨kv, rfl, hks, hb1⟩
 generalize kinL l name = ks at *
 obtain ⟨Ak, ck, rfl, _, _⟩ := hks.form
 have hks13 : (ks.length : Int) <= 12 := by omega
 go_wp2_with fail
 go_loopw [6, 8] (fun ov i wr => ∃ (k : Nat) (acc : List Fld), k <= ks.length /\ i = .int .i64 k /\ Below w1.heap.size w1 wr /\ Own wr w1.heap.size 84 4 ov acc.length (acc.flatMap Fld.enc) /\ acc.length <= 8 * k /\
  Hid (∀ x ∈ acc, x.ok) /\ Hid (Rise acc) /\ Hid (fieldsOf l name = ((ks.drop k).flatMap (fldsFor l)).foldlM putF acc)) (fun _ i _ => ks.length - (intOf i).toNat)
 case atStart => exact ⟨0, [], Nat.zero_le _, rfl, Below.refl _ _, Own.nil _ _ _ _, Nat.le_refl _, (by intro x hx; simp at hx), List.Pairwise.nil, HF⟩
 obtain ⟨k, acc, hk, rfl, hbr, hown, hacc, HO, HR, HE⟩ := hrel
 by_cases hlt : k < ks.length
 ·obtain ⟨s, hs⟩ : ∃ s, ks[k]? = some s := ⟨_, List.getElem?_eq_getElem hlt⟩
  obtain ⟨idx, kd, hidx, hkd, hfs⟩ := HM.out s (List.mem_of_getElem? hs)
  have HE2 : Hid (fieldsOf l name = (kd.fields ++ (ks.drop (k + 1)).flatMap (fldsFor l)).foldlM putF acc) := by
   unfold Hid; rw [HE.out, drop_cons hs, List.flatMap_cons, hfs]
  obtain ⟨bk, ok, rfl, hss, x0⟩ := str_at (hks.below hbr) hs
  have hbwr := hb1.trans (hbr.mono hb1.size)
  have hc := rkind_any l s _ wr (HV.out.below hbwr)
  rw [hidx] at hc
  have hkf : kd.fields.length <= 8 := HFL.out kd (List.mem_of_getElem? hkd)
  have hil : idx < l.length := (List.getElem?_eq_some_iff.1 hkd).1
  have hil' : (idx : Int) < (l.length : Int) := by omega
  have hlt' : (k : Int) < (ks.length : Int) := by omega
  obtain ⟨bl, ol, rfl, u, x, _, _, hfx, _, _, c2w⟩ := knd_at HV.out hkd
  have c2 := cell_below hbwr c2w
  obtain ⟨Af, cf, rfl, hfc, _⟩ := hfx.form
  have HKS := Lib.hid hks
  clear HE hs hidx hfs hkd hks hkl c2w
  go_wp2_with fail
  refine hc.mono ?_
  clear hc
  rintro e w2 ⟨rfl, rfl⟩
  clear x0
  go_wp2_with fail
  clear c2
  go_loopw [6, 10] (fun ov j wx => ∃ (m : Nat) (acc : List Fld), m <= kd.fields.length /\ j = .int .i64 m /\ Below w1.heap.size w1 wx /\ Own wx w1.heap.size 84 4 ov acc.length (acc.flatMap Fld.enc) /\ acc.length <= 8 * k + m /\
   Hid (∀ x ∈ acc, x.ok) /\ Hid (Rise acc) /\ Hid (fieldsOf l name = (kd.fields.drop m ++ (ks.drop (k + 1)).flatMap (fldsFor l)).foldlM putF acc)) (fun _ j _ => kd.fields.length - (intOf j).toNat)
  case atStart => exact ⟨0, acc, Nat.zero_le _, rfl, hbr, hown, hacc, HO, HR, by unfold Hid; rw [List.drop_zero]; exact HE2.out⟩
  clear hacc HO HR HE2 hown hbr hbwr
  obtain ⟨m, acc, hm, rfl, hbx, hown, hacc, HO, HR, HE⟩ := hrel
  obtain ⟨Ao, co, rfl, hoc, hom⟩ := hown.form
  have hbwx := hb1.trans (hbx.mono hb1.size)
  obtain ⟨w3, rfl⟩ : ∃ w3 : World, w3 = wr := ⟨_, rfl⟩
  by_cases hm2 : m < kd.fields.length
  ·obtain ⟨f, hf⟩ : ∃ f, kd.fields[m]? = some f := ⟨_, List.getElem?_eq_getElem hm2⟩
   obtain ⟨bf, of, rfl, hok, y0, y1, y2, y3⟩ := fld_at (hfx.below hbwx) hf
   have HE3 : Hid (fieldsOf l name = (f :: (kd.fields.drop (m + 1) ++ (ks.drop (k + 1)).flatMap (fldsFor l))).foldlM putF acc) := by
    unfold Hid; rw [HE.out, drop_cons hf]; rfl
   have HS := Lib.hid (fold_step HE3.out)
   have hm2' : (m : Int) < (kd.fields.length : Int) := by omega
   have hm8 : (m : Int) <= 8 := by omega
   have hacc' : (acc.length : Int) <= 1000 := by omega
   have hokf : ∀ x ∈ acc, x.ok := HO.out
   have HOF : Hid (∀ acc', putF acc f = some acc' -> (∀ x ∈ acc', x.ok) /\ Rise acc') := fun acc' he =>
    ⟨fun x hx => by rcases (mem_putF he x).1 hx with h | rfl; exact hokf x h; exact hok, putF_rise HR.out he⟩
   clear hokf hf HE HE3
   go_wp2_with fail
   go_loopw [11] (fun t wx => ∃ (z : Int) (p : Nat), p <= acc.length /\ z = p /\ t = .int .i64 z /\ Below w1.heap.size w1 wx /\ Below w3.heap.size w3 wx /\ Hid (∀ i d, p <= i -> acc[i]? = some d -> ltS f.name d.name = true)) (fun t _ => (intOf t).toNat)
   case atStart => exact ⟨acc.length, acc.length, Nat.le_refl _, rfl, rfl, hbx, Below.refl _ _, fun i d hi hd => by rw [List.getElem?_eq_none hi] at hd; cases hd⟩
   obtain ⟨z, p, hp, hzp, rfl, hby, hb3, HA⟩ := hrel
   have z0 := cell_below hb3 y0
   have z1 := cell_below hb3 y1
   have z2 := cell_below hb3 y2
   have z3 := cell_below hb3 y3
   have hownr := hown.below hb3
   clear y0 y1 y2 y3
   cases p with
   | zero =>
    obtain rfl : z = 0 := by omega
    clear hzp
    have hz0 : ¬ ((0 : Int) < 0) := by omega
    obtain ⟨HP1, HP2⟩ := low_new HR.out hp HA.out (.inl rfl)
    have HP := Lib.hid (put_new HP2)
    rw [HP1] at HP
    clear HP1 HP2
    rcases hown.2 with ⟨hv0, h0⟩ | ⟨bo, oo, cap, cur, hv0, _⟩
    ·injection hv0 with hA _ hc'
     subst hA; subst hc'
     go_wp2_with fail
     go_quiet (fail)
     go_wp2_with fail
     go_quiet (fail)
     generalize hx0 : (wr.drewN _).drewN _ = W0
     have hbx0 : Below wr.heap.size wr W0 := by rw [<- hx0]; exact below_drewN (below_drewN (Below.refl _ _) _) _
     have hsx : W0.heap.size = wr.heap.size := by rw [<- hx0]; rfl
     have hownx := hownr.below hbx0
     clear hx0
     have hws := hby.size
     have hY0 := Lib.hid z0
     have hY1 := Lib.hid z1
     have hY2 := Lib.hid z2
     have hY3 := Lib.hid z3
     go_wp2_with (first
      | (at_builtin; refine wpList_append_q _ rfl (.tmp 84) (.tmp 87) _ rfl w1.heap.size 84 i0 (.agg #[.string .empty, .int .i64 0, .bool false, .bool false]) 4 32 Tryz.underlying78 ei ez ez1 ez2 rfl (by decide) (.slice none 0 0) 0 [] rfl (Own.nil _ _ _ _) _ (0) _ ((acc.take (0)).flatMap Fld.enc) rfl (by rw [flat_len Fld.enc_len]; simp <;> omega) (fun h => absurd h (by omega)) (oneCell_flat Fld.enc_one _) (by unfold maxLen; omega) (by omega) (by omega) ?_
         intro v7 w7 hown7 hg7 hat7
         have hs7 := hg7.size
         have hb7 : Below wr.heap.size wr w7 := hbx0.grown hg7 (by omega) (fun k e => by cases e)
         have hB7 : ∀ k, v7.ownBlock = some k -> k = wr.heap.size := fun k e => by
           rcases hat7 with h | h
           · rw [h] at e; cases e
           rw [h] at e; injection e with e; omega
         have x0 := cell_below hb7 hY0.out
         have x1 := cell_below hb7 hY1.out
         have x2 := cell_below hb7 hY2.out
         have x3 := cell_below hb7 hY3.out
         have hsw7 := hb7.size)
      | (at_builtin; refine wpList_append_q _ rfl (.tmp 89) (.tmp 94) _ rfl w1.heap.size 84 i0 (.agg #[.string .empty, .int .i64 0, .bool false, .bool false]) 4 32 Tryz.underlying78 ei ez ez1 ez2 rfl (by decide) v7 (0 + (0)) ([] ++ (acc.take (0)).flatMap Fld.enc) rfl (hown7.alloc _) _ 1 1 f.enc rfl rfl (fun _ => ⟨_, rfl, read_new f⟩) f.enc_one (by unfold maxLen; omega) (by omega) (by simp; omega) ?_
         intro v8 w8 hown8 hg8 hat8
         have hs8 := hg8.size
         have hb8 : Below wr.heap.size wr w8 := (hb7.alloc hb7.size _).grown hg8 (by simp at hs8 ⊢; omega) (fun k e => by rw [hB7 k e]; exact Nat.le_refl _)
         have hsw8 := hb8.size
         have hown8a := hownr.below hb8)
      | (at_builtin; refine wpList_append_q _ rfl (.tmp 96) (.tmp 99) _ rfl w1.heap.size 84 i0 (.agg #[.string .empty, .int .i64 0, .bool false, .bool false]) 4 32 Tryz.underlying78 ei ez ez1 ez2 rfl (by decide) v8 (0 + (0) + 1) ([] ++ (acc.take (0)).flatMap Fld.enc ++ f.enc) rfl hown8 _ _ _ ((acc.drop (0)).flatMap Fld.enc) rfl (by rw [flat_len Fld.enc_len]; simp <;> omega) (fun h => absurd h (by omega)) (oneCell_flat Fld.enc_one _) (by unfold maxLen; omega) (by omega) (by omega) ?_
         intro v9 w9 hown9 hg9 hat9))
     have hb9 : Below wr.heap.size wr w9 := hb8.grown hg9 (by have := hg9.size; omega) (fun k e => by
      rcases hat8 with h | h
      ·rw [h] at e; rw [hB7 k e]; exact Nat.le_refl _
      rw [h] at e; injection e with e; simp at e; omega)
     have hby9 := hby.trans (hb9.mono hby.size)
     have hl9 : (acc.take (0) ++ f :: acc.drop (0)).length = acc.length + 1 := by simp <;> omega
     have ho9 : Own w9 w1.heap.size 84 4 v9 (acc.take (0) ++ f :: acc.drop (0)).length ((acc.take (0) ++ f :: acc.drop (0)).flatMap Fld.enc) := hown9.cast (by rw [hl9]; omega) (by simp)
     have HN := Lib.hid (HS.out.1 _ HP.out)
     have HO2 := Lib.hid (HOF.out _ HP.out).1
     have HR2 := Lib.hid (HOF.out _ HP.out).2
     have hl2 : (acc.take (0) ++ f :: acc.drop (0)).length <= 8 * k + (m + 1) := by omega
     go_roundw
     case rel => exact ⟨m + 1, _, by omega, by go_num, hby9, ho9, hl2, HO2, HR2, HN⟩
     case measure => simp [intOf]; omega
    ·injection hv0 with hA _ hc'
     subst hA
     clear hc'
     go_wp2_with fail
     go_quiet (fail)
     go_wp2_with fail
     go_quiet (fail)
     generalize hx0 : (wr.drewN _).drewN _ = W0
     have hbx0 : Below wr.heap.size wr W0 := by rw [<- hx0]; exact below_drewN (below_drewN (Below.refl _ _) _) _
     have hsx : W0.heap.size = wr.heap.size := by rw [<- hx0]; rfl
     have hownx := hownr.below hbx0
     clear hx0
     have hws := hby.size
     have hY0 := Lib.hid z0
     have hY1 := Lib.hid z1
     have hY2 := Lib.hid z2
     have hY3 := Lib.hid z3
     go_wp2_with (first
      | (at_builtin; refine wpList_append_q _ rfl (.tmp 84) (.tmp 87) _ rfl w1.heap.size 84 i0 (.agg #[.string .empty, .int .i64 0, .bool false, .bool false]) 4 32 Tryz.underlying78 ei ez ez1 ez2 rfl (by decide) (.slice none 0 0) 0 [] rfl (Own.nil _ _ _ _) _ (0) _ ((acc.take (0)).flatMap Fld.enc) rfl (by rw [flat_len Fld.enc_len]; simp <;> omega) (fun h => absurd h (by omega)) (oneCell_flat Fld.enc_one _) (by unfold maxLen; omega) (by omega) (by omega) ?_
         intro v7 w7 hown7 hg7 hat7
         have hs7 := hg7.size
         have hb7 : Below wr.heap.size wr w7 := hbx0.grown hg7 (by omega) (fun k e => by cases e)
         have hB7 : ∀ k, v7.ownBlock = some k -> k = wr.heap.size := fun k e => by
           rcases hat7 with h | h
           · rw [h] at e; cases e
           rw [h] at e; injection e with e; omega
         have x0 := cell_below hb7 hY0.out
         have x1 := cell_below hb7 hY1.out
         have x2 := cell_below hb7 hY2.out
         have x3 := cell_below hb7 hY3.out
         have hsw7 := hb7.size)
      | (at_builtin; refine wpList_append_q _ rfl (.tmp 89) (.tmp 94) _ rfl w1.heap.size 84 i0 (.agg #[.string .empty, .int .i64 0, .bool false, .bool false]) 4 32 Tryz.underlying78 ei ez ez1 ez2 rfl (by decide) v7 (0 + (0)) ([] ++ (acc.take (0)).flatMap Fld.enc) rfl (hown7.alloc _) _ 1 1 f.enc rfl rfl (fun _ => ⟨_, rfl, read_new f⟩) f.enc_one (by unfold maxLen; omega) (by omega) (by simp; omega) ?_
         intro v8 w8 hown8 hg8 hat8
         have hs8 := hg8.size
         have hb8 : Below wr.heap.size wr w8 := (hb7.alloc hb7.size _).grown hg8 (by simp at hs8 ⊢; omega) (fun k e => by rw [hB7 k e]; exact Nat.le_refl _)
         have hsw8 := hb8.size
         have hown8a := hownr.below hb8)
      | (at_builtin; refine wpList_append_q _ rfl (.tmp 96) (.tmp 99) _ rfl w1.heap.size 84 i0 (.agg #[.string .empty, .int .i64 0, .bool false, .bool false]) 4 32 Tryz.underlying78 ei ez ez1 ez2 rfl (by decide) v8 (0 + (0) + 1) ([] ++ (acc.take (0)).flatMap Fld.enc ++ f.enc) rfl hown8 _ _ _ ((acc.drop (0)).flatMap Fld.enc) rfl (by rw [flat_len Fld.enc_len]; simp <;> omega) (fun h => ⟨⟨bo, oo + 0 * 4, none⟩, by simp, read_drop hown8a (by omega)⟩) (oneCell_flat Fld.enc_one _) (by unfold maxLen; omega) (by omega) (by omega) ?_
         intro v9 w9 hown9 hg9 hat9))
     have hb9 : Below wr.heap.size wr w9 := hb8.grown hg9 (by have := hg9.size; omega) (fun k e => by
      rcases hat8 with h | h
      ·rw [h] at e; rw [hB7 k e]; exact Nat.le_refl _
      rw [h] at e; injection e with e; simp at e; omega)
     have hby9 := hby.trans (hb9.mono hby.size)
     have hl9 : (acc.take (0) ++ f :: acc.drop (0)).length = acc.length + 1 := by simp <;> omega
     have ho9 : Own w9 w1.heap.size 84 4 v9 (acc.take (0) ++ f :: acc.drop (0)).length ((acc.take (0) ++ f :: acc.drop (0)).flatMap Fld.enc) := hown9.cast (by rw [hl9]; omega) (by simp)
     have HN := Lib.hid (HS.out.1 _ HP.out)
     have HO2 := Lib.hid (HOF.out _ HP.out).1
     have HR2 := Lib.hid (HOF.out _ HP.out).2
     have hl2 : (acc.take (0) ++ f :: acc.drop (0)).length <= 8 * k + (m + 1) := by omega
     go_roundw
     case rel => exact ⟨m + 1, _, by omega, by go_num, hby9, ho9, hl2, HO2, HR2, HN⟩
     case measure => simp [intOf]; omega
   | succ p =>
    obtain rfl : z = (p : Int) + 1 := by omega
    clear hzp
    obtain ⟨q, hq⟩ : ∃ d, acc[p]? = some d := ⟨_, List.getElem?_eq_getElem (by omega)⟩
    obtain ⟨bo, oo, hAo, _, r0, r1, r2, r3⟩ := fld_at (hownr.flds HO.out) hq
    subst hAo
    have hpl : (p : Int) < (acc.length : Int) := by omega
    have hp0 : (0 : Int) < (p : Int) + 1 := by omega
    have hL : Op.bytesLess q.name.toList f.name.toList = decide (fldC f.name q < 0) := ltS_cmp q.name f.name
    have hE : (q.name.toList == f.name.toList) = decide (q.name = f.name) := bytes_beq q.name f.name
    rcases Int.lt_trichotomy (fldC f.name q) 0 with hc | hc | hc
    ·have hqf : ¬ q.name = f.name := fun e => by unfold fldC at hc; rw [cmpS_zero.2 e] at hc; omega
     rw [decide_eq_true hc] at hL
     rw [decide_eq_false hqf] at hE
     have hE2 : ¬ q.name.toList = f.name.toList := by rw [bytes_eq]; exact hqf
     obtain ⟨HP1, HP2⟩ := low_new HR.out hp HA.out (.inr ⟨q, by simpa using hq, hc⟩)
     have HP := Lib.hid (put_new HP2)
     rw [HP1] at HP
     have hpo : (p : Int) + 1 <= (co : Int) := by omega
     have hpl' : (p : Int) + 1 <= (acc.length : Int) := by omega
     clear HP1 HP2 hc hqf hq
     go_wp2_with fail
     go_quiet (fail)
     go_wp2_with fail
     go_quiet (fail)
     generalize hx0 : (wr.drewN _).drewN _ = W0
     have hbx0 : Below wr.heap.size wr W0 := by rw [<- hx0]; exact below_drewN (below_drewN (Below.refl _ _) _) _
     have hsx : W0.heap.size = wr.heap.size := by rw [<- hx0]; rfl
     have hownx := hownr.below hbx0
     clear hx0
     have hws := hby.size
     have hY0 := Lib.hid z0
     have hY1 := Lib.hid z1
     have hY2 := Lib.hid z2
     have hY3 := Lib.hid z3
     go_wp2_with (first
      | (at_builtin; refine wpList_append_q _ rfl (.tmp 84) (.tmp 87) _ rfl w1.heap.size 84 i0 (.agg #[.string .empty, .int .i64 0, .bool false, .bool false]) 4 32 Tryz.underlying78 ei ez ez1 ez2 rfl (by decide) (.slice none 0 0) 0 [] rfl (Own.nil _ _ _ _) _ (p + 1) _ ((acc.take (p + 1)).flatMap Fld.enc) rfl (by rw [flat_len Fld.enc_len]; simp <;> omega) (fun _ => ⟨_, rfl, read_take hownx (by omega)⟩) (oneCell_flat Fld.enc_one _) (by unfold maxLen; omega) (by omega) (by omega) ?_
         intro v7 w7 hown7 hg7 hat7
         have hs7 := hg7.size
         have hb7 : Below wr.heap.size wr w7 := hbx0.grown hg7 (by omega) (fun k e => by cases e)
         have hB7 : ∀ k, v7.ownBlock = some k -> k = wr.heap.size := fun k e => by
           rcases hat7 with h | h
           · rw [h] at e; cases e
           rw [h] at e; injection e with e; omega
         have x0 := cell_below hb7 hY0.out
         have x1 := cell_below hb7 hY1.out
         have x2 := cell_below hb7 hY2.out
         have x3 := cell_below hb7 hY3.out
         have hsw7 := hb7.size)
      | (at_builtin; refine wpList_append_q _ rfl (.tmp 89) (.tmp 94) _ rfl w1.heap.size 84 i0 (.agg #[.string .empty, .int .i64 0, .bool false, .bool false]) 4 32 Tryz.underlying78 ei ez ez1 ez2 rfl (by decide) v7 (0 + (p + 1)) ([] ++ (acc.take (p + 1)).flatMap Fld.enc) rfl (hown7.alloc _) _ 1 1 f.enc rfl rfl (fun _ => ⟨_, rfl, read_new f⟩) f.enc_one (by unfold maxLen; omega) (by omega) (by simp; omega) ?_
         intro v8 w8 hown8 hg8 hat8
         have hs8 := hg8.size
         have hb8 : Below wr.heap.size wr w8 := (hb7.alloc hb7.size _).grown hg8 (by simp at hs8 ⊢; omega) (fun k e => by rw [hB7 k e]; exact Nat.le_refl _)
         have hsw8 := hb8.size
         have hown8a := hownr.below hb8)
      | (at_builtin; refine wpList_append_q _ rfl (.tmp 96) (.tmp 99) _ rfl w1.heap.size 84 i0 (.agg #[.string .empty, .int .i64 0, .bool false, .bool false]) 4 32 Tryz.underlying78 ei ez ez1 ez2 rfl (by decide) v8 (0 + (p + 1) + 1) ([] ++ (acc.take (p + 1)).flatMap Fld.enc ++ f.enc) rfl hown8 _ _ _ ((acc.drop (p + 1)).flatMap Fld.enc) rfl (by rw [flat_len Fld.enc_len]; simp <;> omega) (fun h => ⟨⟨bo, oo + (p + 1) * 4, none⟩, by have hne : ¬ co = p + 1 := (by omega); simp [hne], read_drop hown8a (by omega)⟩) (oneCell_flat Fld.enc_one _) (by unfold maxLen; omega) (by omega) (by omega) ?_
         intro v9 w9 hown9 hg9 hat9))
     have hb9 : Below wr.heap.size wr w9 := hb8.grown hg9 (by have := hg9.size; omega) (fun k e => by
      rcases hat8 with h | h
      ·rw [h] at e; rw [hB7 k e]; exact Nat.le_refl _
      rw [h] at e; injection e with e; simp at e; omega)
     have hby9 := hby.trans (hb9.mono hby.size)
     have hl9 : (acc.take (p + 1) ++ f :: acc.drop (p + 1)).length = acc.length + 1 := by simp <;> omega
     have ho9 : Own w9 w1.heap.size 84 4 v9 (acc.take (p + 1) ++ f :: acc.drop (p + 1)).length ((acc.take (p + 1) ++ f :: acc.drop (p + 1)).flatMap Fld.enc) := hown9.cast (by rw [hl9]; omega) (by simp)
     have HN := Lib.hid (HS.out.1 _ HP.out)
     have HO2 := Lib.hid (HOF.out _ HP.out).1
     have HR2 := Lib.hid (HOF.out _ HP.out).2
     have hl2 : (acc.take (p + 1) ++ f :: acc.drop (p + 1)).length <= 8 * k + (m + 1) := by omega
     go_roundw
     case rel => exact ⟨m + 1, _, by omega, by go_num, hby9, ho9, hl2, HO2, HR2, HN⟩
     case measure => simp [intOf]; omega
    ·have hqf : q.name = f.name := by unfold fldC at hc; exact cmpS_zero.1 hc
     rw [decide_eq_false (show ¬ fldC f.name q < 0 by omega)] at hL
     rw [decide_eq_true hqf] at hE
     obtain ⟨HP1, HP2⟩ := at_old HR.out hq hqf
     have HP := Lib.hid (put_old HP2 (by rw [HP1]; exact hq))
     have hneq := fld_neq q f
     have hgd := fld_guard
     clear HP1 HP2 hc hqf hq
     by_cases hqq : q = f
     ·have hd : decide (q = f) = true := decide_eq_true hqq
      have HP2 : Hid (putF acc f = some acc) := by unfold Hid; rw [HP.out, if_pos hqq]
      rw [hd] at hneq
      have HN := Lib.hid (HS.out.1 _ HP2.out)
      clear HS HP HP2 HOF hd hqq
      go_wp2_with fail
      go_quiet (fail)
      go_wp2_with fail
      go_quiet (fail)
      go_wp2_with fail
      go_quiet (fail)
      go_wp2_with fail
      go_roundw
      case rel => exact ⟨m + 1, acc, by omega, by go_num, below_drewN hby _, hownr.drewN _, by omega, HO, HR, HN⟩
      case measure => simp [intOf]; omega
     have hd : decide (q = f) = false := decide_eq_false hqq
     have HP2 : Hid (putF acc f = none) := by unfold Hid; rw [HP.out, if_neg hqq]
     rw [hd] at hneq
     have HN := Lib.hid (HS.out.2 HP2.out)
     clear HS HP HP2 HOF hd hqq
     go_wp2_with fail
     go_quiet (fail)
     go_wp2_with fail
     go_quiet (fail)
     go_wp2_with fail
     go_quiet (fail)
     go_wp2_with fail
     go_ret2
     refine ⟨.slice none 0 0, ?_, ?_, below_drewN (below_drewN (below_drewN (hb1.trans (hby.mono hb1.size)) _) _) _⟩
     ·rw [HN.out]; rfl
     rw [HN.out]; exact ⟨Own.nil _ _ _ _, fun x hx => by simp at hx⟩
    have hqf : ¬ q.name = f.name := fun e => by unfold fldC at hc; rw [cmpS_zero.2 e] at hc; omega
    rw [decide_eq_false (show ¬ fldC f.name q < 0 by omega)] at hL
    rw [decide_eq_false hqf] at hE
    have hE2 : ¬ q.name.toList = f.name.toList := by rw [bytes_eq]; exact hqf
    have HN : Hid (∀ i d, p <= i -> acc[i]? = some d -> ltS f.name d.name = true) := fun i d hi hd => by
     by_cases hip : i = p
     ·subst hip; rw [hq] at hd; injection hd with hd; subst hd; rw [fldC_lt]; exact decide_eq_true hc
     exact HA.out i d (by omega) hd
    clear hq hc hqf
    go_wp2_with fail
    go_quiet (fail)
    go_wp2_with fail
    go_roundw
    case rel => exact ⟨p, p, by omega, rfl, by go_num, below_drewN hby _, below_drewN hb3 _, HN⟩
    case measure => simp [intOf]
  obtain rfl : m = kd.fields.length := by omega
  have HE3 : Hid (fieldsOf l name = ((ks.drop (k + 1)).flatMap (fldsFor l)).foldlM putF acc) := by unfold Hid; rw [HE.out, List.drop_length]; rfl
  clear HE
  go_wp2_with fail
  go_roundw
  case rel => exact ⟨k + 1, acc, by omega, by go_num, hbx, hown, by omega, HO, HR, HE3⟩
  case measure => simp [intOf]; omega
 obtain rfl : k = ks.length := by omega
 have HQ : Hid (fieldsOf l name = some acc) := by unfold Hid; rw [HE.out, List.drop_length]; rfl
 obtain ⟨Ao, co, rfl, _, _⟩ := hown.form
 go_wp2_with fail
 go_ret2
 refine ⟨.slice Ao acc.length co, ?_, ?_, hb1.trans (hbr.mono hb1.size)⟩
 ·rw [HQ.out]; rfl
 rw [HQ.out]; exact ⟨hown.mono hb1.size, HO.out⟩
theorem rfields_any (l : List Knd) (name : ByteArray) (v : Value) (w : World) (hv : Sl kndL w v l) (hw : Wf l) (hn : 0 <= kFind l name) (hll : l.length <= 12) (hfl : ∀ k ∈ l, k.fields.length <= 8) :
 Calls Tryz.prog 60 #[v, .string name] w (FieldsR l name w) :=
 (rfieldsO_any l name v w hv hw hn hll hfl).mono fun _ _ ⟨u, h1, h2, h3⟩ => ⟨u, h1, h2.1.flds h2.2, h3⟩
end Go.Proofs.YtngbbefpphinjaaGreatDoor
