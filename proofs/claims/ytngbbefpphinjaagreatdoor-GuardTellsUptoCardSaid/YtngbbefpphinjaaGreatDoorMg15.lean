/- Parts: Chk4, SchB, Chk5, Chk6, Chk7, OwnS, Simp. -/
import Derived.Test.YtngbbefpphinjaaGreatDoorMg14
import Derived.Deep.RegionHeld3
import Derived.Deep.DeepCutAuto
import Derived.Test.YtngbbefpphinjaaGreatDoorMg04
import Derived.Test.YtngbbefpphinjaaGreatDoorMg02
import Derived.Test.YtngbbefpphinjaaGreatDoorMg05
import Derived.Test.YtngbbefpphinjaaGreatDoorMg07
/- Contract: a checker and a node with others. No condition. (under way) -/
namespace Go.Proofs.YtngbbefpphinjaaGreatDoor
open Go Go.RowKit
structure Told2 (B bm : Nat) (w w' : World) (bc : Nat) (vk vb vn vt : Value) (fs : List Flt) (S : List Key) : Prop where
 c : ∃ out, Ck B w' bc vk vb vn vt (.map (some bm)) out fs
 b : Below B w w'
 s : ∀ T, 137 ≠ T -> 201 ≠ T -> Same T w w'
 m : MapK w' bm S
 z : w.heap.size <= w'.heap.size
theorem Told1.two {B bm : Nat} {w w' : World} {bc : Nat} {vk vb vn vt : Value} {fs : List Flt} {S : List Key} (h : Told1 B w w' bc vk vb vn vt (.map (some bm)) fs) (hm : MapK w bm S) : Told2 B bm w w' bc vk vb vn vt fs S :=
 ⟨h.c, h.b, h.s, hm.keep (h.m bm), h.z⟩
theorem Told2.tell {B bm : Nat} {w w1 w2 : World} {bc : Nat} {vk vb vn vt : Value} {fs gs : List Flt} {S : List Key} (h : Told2 B bm w w1 bc vk vb vn vt fs S) (k : Told1 B w1 w2 bc vk vb vn vt (.map (some bm)) gs) : Told2 B bm w w2 bc vk vb vn vt gs S :=
 ⟨k.c, h.b.trans k.b, fun T h1 h2 => (h.s T h1 h2).trans (k.s T h1 h2), h.m.keep (k.m bm), Nat.le_trans h.z k.z⟩
theorem Told2.last {B bm : Nat} {w w1 w2 : World} {bc : Nat} {vk vb vn vt : Value} {fs : List Flt} {S : List Key} (h : Told2 B bm w w1 bc vk vb vn vt fs S) (hB : B <= w1.heap.size) (hb : Below w1.heap.size w1 w2) : Told2 B bm w w2 bc vk vb vn vt fs S := by
 obtain ⟨out, hc⟩ := h.c
 exact ⟨⟨out, hc.below hb⟩, h.b.trans (hb.mono hB), fun T h1 h2 => (h.s T h1 h2).trans (Same.below hb), h.m.keep (fun m c hm => (hb.block _ (geB hm)).trans hm), Nat.le_trans h.z hb.size⟩
theorem Told2.put {B bm : Nat} {w w1 w2 : World} {bc : Nat} {vk vb vn vt : Value} {fs : List Flt} {S S' : List Key} (h : Told2 B bm w w1 bc vk vb vn vt fs S) (hB : B <= w1.heap.size) (hbm : B <= bm) (hg : w1.grownBy w2 (some bm)) (hm : MapK w2 bm S') : Told2 B bm w w2 bc vk vb vn vt fs S' := by
 obtain ⟨es, cl, hq, _⟩ := h.m
 have hsame : ∀ T, Same T w1 w2 := fun T k c fr hk => grown_block hg hk (fun e => by injection e with e; rw [e, hq] at hk; cases hk)
 obtain ⟨out, hc⟩ := h.c
 exact ⟨⟨out, ⟨hsame _ _ _ _ hc.q, hc.l, hc.o.same (hsame _), hc.k⟩⟩, h.b.grown hg hB (fun k e => by cases e; exact hbm), fun T h1 h2 => (h.s T h1 h2).trans (hsame T), hm, Nat.le_trans h.z hg.size⟩
theorem map_same {w w' : World} {bm : Nat} {S : List Key} (h : MapK w bm S) (hg : w.grownBy w' (some bm)) (T : TypeId) : Same T w w' := by
 obtain ⟨es, cl, hq, _⟩ := h
 exact fun k c fr hk => grown_block hg hk (fun e => by injection e with e; rw [e, hq] at hk; cases hk)
set_option maxRecDepth 100000 in
set_option maxHeartbeats 16000000 in
theorem node_any (B bc bm : Nat) (vk vb vn vt out : Value) (fs : List Flt) (S : List Key) (s : Scm) (g : Grf) (n : Nod) (u : Value) (W1 w : World) (hBW : B = W1.heap.size) (hbm : B <= bm) (hW : Below W1.heap.size W1 w) (hC : Ck B w bc vk vb vn vt (.map (some bm)) out fs) (hM : MapK w bm S)
 (hs : ScmR W1 vk vb s) (hok : CkOk s) (hbl : s.bonds.length <= 12) (hg : GrfR W1 vn vt g) (htl : g.ties.length <= 1000) (hu : Sl prpL W1 u n.props) (hid : I64 n.id) (hkd : Sm n.kind) (hch : chain prpLt n.props = true) (hpl : n.props.length <= 1000) (hfl : (kfl s n.kind).length <= 1000) (hl : fs.length <= 80000) :
 Calls Tryz.prog 117 #[.pointer (some ⟨bc, 0, none⟩), .agg #[.int .i64 n.id, .string n.kind, u]] w fun e w' => e = .returned (.tuple #[]) /\ Told2 B bm w w' bc vk vb vn vt (fs ++ (nodeF s g S n).1) (nodeF s g S n).2 := by
 obtain ⟨Au, cu, rfl, _, _⟩ := hu.form
 obtain ⟨Ak, ck, rfl, _, _⟩ := hs.1.form
 obtain ⟨Ab, cb, rfl, _, _⟩ := hs.2.form
 obtain ⟨An, cn, rfl, _, _⟩ := hg.1.form
 obtain ⟨At, ct, rfl, _, _⟩ := hg.2.form
 have hb0 : Below w.heap.size w (w.alloc (.cells #[.int .i64 n.id, .string n.kind, .slice Au n.props.length cu] 29)) := (Below.refl _ _).alloc (Nat.le_refl _) _
 have g0 := heap_alloc_new w (.cells #[.int .i64 n.id, .string n.kind, .slice Au n.props.length cu] 29)
 generalize hW0 : w.alloc (.cells #[.int .i64 n.id, .string n.kind, .slice Au n.props.length cu] 29) = W0 at *
 have hwB : B <= w.heap.size := by rw [hBW]; exact hW.size
 have hB0 : B <= W0.heap.size := Nat.le_trans hwB hb0.size
 have hW01 : Below W1.heap.size W1 W0 := hW.trans (hb0.mono hW.size)
 have hC0 := hC.below hb0
 have hM0 : MapK W0 bm S := hM.keep (fun m c hm => (hb0.block _ (geB hm)).trans hm)
 have hal := alone_any B bc _ _ (.slice An g.nodes.length cn) (.slice At g.ties.length ct) (.map (some bm)) out fs s n _ W1 W0 hBW hW01 hC0 hs hok hu hid hkd hch hpl hfl (by omega)
 have x0 := block_cell g0 0
 have x1 := block_cell g0 1
 have x2 := block_cell g0 2
 have HG0 := Lib.hid g0
 have HS := Lib.hid hs
 have HG := Lib.hid hg
 have HU := Lib.hid hu
 have HM0 := Lib.hid hM0
 have HMw := Lib.hid hM
 have HBW := Lib.hid hBW
 have HB0 := Lib.hid hb0
 have HNF : Hid (nodeF s g S n = if kFind s.kinds n.kind < 0 then (aloneF s n, S) else (aloneF s n ++ (keysF n (kfl s n.kind) S).1 ++ s.bonds.flatMap (bondF s g n), (keysF n (kfl s n.kind) S).2)) := rfl
 clear hC hM hs hg hu hC0 g0 hM0 hBW hb0
 go_enter Tryz.func117, Tryz.ntmps117
 go_wp2_with fail
 refine hal.mono ?_
 clear hal hW0
 rintro e w2 ⟨v2, rfl, ho2, hok2, ht2⟩
 have HT2 := Lib.hid ht2
 have hg2 := ht2.s 29 (by decide) (by decide) _ _ _ HG0.out
 have HM2 := Lib.hid (HM0.out.keep (ht2.m bm))
 clear ht2 x0 x1 x2
 have HT := Lib.hid ((Told1.first HB0.out hwB HT2.out).two HMw.out)
 have hz2 := HT2.out.z
 by_cases hk : kFind s.kinds n.kind < 0
 ·have HA : Hid (nodeF s g S n = (aloneF s n, S)) := by unfold Hid; rw [HNF.out, if_pos hk]
  rw [decide_eq_false (by omega : ¬ (0 <= kFind s.kinds n.kind))]
  clear hk HNF ho2 hok2
  go_wp2_with fail
  exact bodyPost_ret (v := .tuple #[]) (by simp [results, Tryz.results117, go_sem]) rfl ⟨rfl, by rw [HA.out]; exact HT.out⟩
 have HA : Hid (nodeF s g S n = (aloneF s n ++ (keysF n (kfl s n.kind) S).1 ++ s.bonds.flatMap (bondF s g n), (keysF n (kfl s n.kind) S).2)) := by unfold Hid; rw [HNF.out, if_neg hk]
 rw [decide_eq_true (by omega : 0 <= kFind s.kinds n.kind)]
 obtain ⟨A2, c2, rfl, _, _⟩ := ho2.form
 have HO := Lib.hid ho2
 have HOK := Lib.hid hok2
 have HG2 := Lib.hid hg2
 have hal9 : (aloneF s n).length <= 2001 := by have h := aloneF_len s n; omega
 generalize hfl0 : kfl s n.kind = fl at *
 have hfl' : (fl.length : Int) <= 1000 := by omega
 clear hk HNF ho2 hok2 hfl0 HT2 HM2 HM0 HG0 hg2 HMw
 go_wp2_with fail
 go_loopw [24] (fun i wr => ∃ k : Nat, k <= fl.length /\ i = .int .i64 k /\ Hid (Told2 B bm w wr bc (.slice Ak s.kinds.length ck) (.slice Ab s.bonds.length cb) (.slice An g.nodes.length cn) (.slice At g.ties.length ct) (fs ++ aloneF s n ++ (keysF n (fl.take k) S).1) (keysF n (fl.take k) S).2) /\
  wr.heap[w.heap.size]? = some (.cells #[.int .i64 n.id, .string n.kind, .slice Au n.props.length cu] 29 (0, 0)) /\ Hid (Own wr B 84 4 (.slice A2 fl.length c2) fl.length (fl.flatMap Fld.enc))) (fun i _ => fl.length - (intOf i).toNat)
 case atStart => exact ⟨0, Nat.zero_le _, rfl, by unfold Hid; simpa [keysF] using HT.out, HG2.out, HO.out⟩
 clear HT HG2 HO hz2
 obtain ⟨k, hk, rfl, HT, hg, HO⟩ := hrel
 have y0 := block_cell hg 0
 have y2 := block_cell hg 2
 by_cases hlt : k < fl.length
 ·obtain ⟨f, hd⟩ : ∃ d, fl[k]? = some d := ⟨_, List.getElem?_eq_getElem hlt⟩
  have hWr : Below W1.heap.size W1 wr := by have h := HT.out.b; rw [HBW.out] at h; exact hW.trans h
  obtain ⟨gb, o, rfl, hok2, q0, q1, q2, q3⟩ := fld_at (HO.out.flds HOK.out) hd
  have hlt' : (k : Int) < (fl.length : Int) := by omega
  have ha1 : Below wr.heap.size wr (wr.alloc (.cells #[.string f.name, .int .i64 f.ty, .bool f.must, .bool f.key] 84)) := (Below.refl _ _).alloc (Nat.le_refl _) _
  obtain ⟨z0, z1, z2, z3⟩ := cell_box4 wr (.string f.name) (.int .i64 f.ty) (.bool f.must) (.bool f.key) 84
  have y0 := cell_below ha1 y0
  have y2 := cell_below ha1 y2
  have hBr : B <= wr.heap.size := by have := HT.out.z; omega
  have HS : Hid (keysF n (fl.take (k + 1)) S = keyStep n (keysF n (fl.take k) S) f) := by unfold Hid; rw [take_snocF hd, keysF_snoc]
  have HT1 := Lib.hid (HT.out.last hBr ha1)
  have hg1 := (ha1.block _ (geB hg)).trans hg
  have HO1 := Lib.hid (HO.out.below ha1)
  have HOKF : Hid (Sm f.name) := hok2.1
  have hBa : B <= (wr.alloc (.cells #[.string f.name, .int .i64 f.ty, .bool f.must, .bool f.key] 84)).heap.size := by simp; omega
  have hrf := rfind_any n.props f.name _ _ ((HU.out.below hWr).below ha1) hch hpl
  have hWa := hWr.trans (ha1.mono hWr.size)
  clear hd hok2 HT hWr hg HO
  go_upto_region 6 with fail
  generalize wr.alloc (.cells #[.string f.name, .int .i64 f.ty, .bool f.must, .bool f.key] 84) = Wa at *
  go_wp2_with fail
  refine hrf.mono ?_
  clear hrf
  rintro e w3 ⟨rfl, hb3⟩
  have z0 := cell_below hb3 z0
  have z1 := cell_below hb3 z1
  have z3 := cell_below hb3 z3
  have y0 := cell_below hb3 y0
  have y2 := cell_below hb3 y2
  have HT3 := Lib.hid (HT1.out.last hBa hb3)
  have hg3 := (hb3.block _ (geB hg1)).trans hg1
  have HO3 := Lib.hid (HO1.out.below hb3)
  have hB3 : B <= w3.heap.size := Nat.le_trans hBa hb3.size
  have hW3 := hWa.trans (hb3.mono hWa.size)
  clear HT1 hg1 HO1 hb3 z2 hWa
  have HKN : Hid (f.key = false \/ rhas n.props f.name = false -> keyOf n f = none) := keyOf_none
  have HKA : Hid (∀ p, f.key = true -> rhas n.props f.name = true -> n.props[rpos n.props f.name]? = some p -> keyOf n f = if p.v.ty = f.ty then some ⟨f.name, p.v⟩ else none) := fun p h1 h2 h3 => keyOf_at h1 h2 h3
  have HST : Hid (∀ acc, keyOf n f = none -> keyStep n acc f = acc) := fun acc h => by unfold keyStep; rw [h]
  have HRS : Hid (rhas n.props f.name = true -> ∃ p, n.props[rpos n.props f.name]? = some p) := rhas_some
  generalize rhas n.props f.name = q at *
  generalize rpos n.props f.name = ps at *
  generalize hfk : f.key = fk at *
  cases fk with
  | false =>
   have HN : Hid (keysF n (fl.take (k + 1)) S = keysF n (fl.take k) S) := by unfold Hid; rw [HS.out]; exact HST.out _ (HKN.out (.inl rfl))
   clear HS HST HKN HKA HRS hfk
   go_wp2_with fail
   go_quiet (fail)
   go_wp2_with fail
   go_roundw
   case rel => exact ⟨k + 1, by omega, by go_num, by rw [HN.out]; exact HT3.out.last hB3 (below_drewN (Below.refl _ _) nq), hg3, HO3.out.drewN nq⟩
   case measure => simp [intOf]; omega
  | true =>
   cases q with
   | false =>
    have HN : Hid (keysF n (fl.take (k + 1)) S = keysF n (fl.take k) S) := by unfold Hid; rw [HS.out]; exact HST.out _ (HKN.out (.inr rfl))
    clear HS HST HKN HKA HRS hfk
    go_wp2_with fail
    go_quiet (fail)
    go_wp2_with fail
    go_roundw
    case rel => exact ⟨k + 1, by omega, by go_num, by rw [HN.out]; exact HT3.out.last hB3 (below_drewN (Below.refl _ _) nq), hg3, HO3.out.drewN nq⟩
    case measure => simp [intOf]; omega
   | true =>
    obtain ⟨p, hp⟩ := HRS.out rfl
    have hpl2 := (List.getElem?_eq_some_iff.1 hp).1
    have hpl3 : (ps : Int) < (n.props.length : Int) := by omega
    have hps0 : (0 : Int) <= (ps : Int) := by omega
    obtain ⟨gb2, o2, rfl, hokp, r0, r1, r2, r3⟩ := prp_at (HU.out.below hW3) hp
    have HKY := Lib.hid (HKA.out p rfl rfl hp)
    clear HKN HKA HRS hfk hp
    by_cases ht : p.v.ty = f.ty
    case neg =>
     have hb1 : (p.v.ty != f.ty) = true := by rw [bne_iff_ne]; exact ht
     have HN : Hid (keysF n (fl.take (k + 1)) S = keysF n (fl.take k) S) := by unfold Hid; rw [HS.out]; exact HST.out _ (by rw [HKY.out, if_neg ht])
     clear HS HST HKY ht
     go_wp2_with fail
     go_quiet (fail)
     go_wp2_with fail
     go_roundw
     case rel => exact ⟨k + 1, by omega, by go_num, by rw [HN.out]; exact HT3.out.last hB3 (below_drewN (Below.refl _ _) nq), hg3, HO3.out.drewN nq⟩
     case measure => simp [intOf]; omega
    have hb1 : (p.v.ty != f.ty) = false := by rw [bne_eq_false_iff_eq]; exact ht
    have HKY2 : Hid (keyOf n f = some ⟨f.name, p.v⟩) := by unfold Hid; rw [HKY.out, if_pos ht]
    clear HKY HST ht
    go_wp2_with fail
    go_quiet (fail)
    have hbq : Below w3.heap.size w3 (w3.drewN nq) := below_drewN (Below.refl _ _) nq
    generalize w3.drewN nq = w4 at *
    have z0 := cell_below hbq z0
    have y0 := cell_below hbq y0
    have y2 := cell_below hbq y2
    have r1 := cell_below hbq r1
    have r2 := cell_below hbq r2
    have r3 := cell_below hbq r3
    go_wp2_with fail
    have hbd : Below w4.heap.size w4 w4.drew := (Below.refl _ _).drew
    have hkeep := And.intro (cell_below hbd z0) (And.intro (cell_below hbd y2) (And.intro (cell_below hbd r1) (And.intro (cell_below hbd r2) (cell_below hbd r3))))
    go_region_held3 (fun w' => w'.cell? ⟨wr.heap.size, 0, none⟩ = some (.string f.name) /\ w'.cell? ⟨w.heap.size, 2, none⟩ = some (.slice (some ⟨gb2, o2, none⟩) n.props.length cu) /\ w'.cell? ⟨gb2, o2 + ps * 4 + 1, none⟩ = some (.int .i64 p.v.ty) /\ w'.cell? ⟨gb2, o2 + ps * 4 + 2, none⟩ = some (.int .i64 p.v.n) /\ w'.cell? ⟨gb2, o2 + ps * 4 + 3, none⟩ = some (.string p.v.s))
     (first
       | exact hkeep
       | go_keep)
     (fail)
    have hbx : Below w4.heap.size w4 (w4.alloc (.cells #[.string f.name, .int .i64 p.v.ty, .int .i64 p.v.n, .string p.v.s] 261)).drew := ((Below.refl _ _).alloc (Nat.le_refl _) _).drew
    have hkq : ((w4.alloc (.cells #[.string f.name, .int .i64 p.v.ty, .int .i64 p.v.n, .string p.v.s] 261)).drew).heap[w4.heap.size]? = some (.cells #[.string f.name, .int .i64 p.v.ty, .int .i64 p.v.n, .string p.v.s] 261 (0, 0)) := heap_alloc_new w4 _
    generalize (w4.alloc (.cells #[.string f.name, .int .i64 p.v.ty, .int .i64 p.v.n, .string p.v.s] 261)).drew = w5 at *
    have hb35 := hbq.trans (hbx.mono hbq.size)
    have HT5 := Lib.hid (HT3.out.last hB3 hb35)
    have hg5 := (hb35.block _ (geB hg3)).trans hg3
    have HO5 := Lib.hid (HO3.out.below hb35)
    have hB5 : B <= w5.heap.size := Nat.le_trans hB3 hb35.size
    have z0 := cell_below hbx z0
    have y0 := cell_below hbx y0
    have k0 := block_cell hkq 0
    have k1 := block_cell hkq 1
    have k2 := block_cell hkq 2
    have k3 := block_cell hkq 3
    obtain ⟨out5, hc5⟩ := HT5.out.c
    have m5 := block_cell hc5.q 5
    have hlk : ∀ nn, (Instr.lookup 199 (.map (some bm)) (.agg #[.string f.name, .int .i64 p.v.ty, .int .i64 p.v.n, .string p.v.s]) false).run Tryz.prog (w5.drewN nn) = .ok (.bool (decide ((⟨f.name, p.v⟩ : Key) ∈ (keysF n (fl.take k) S).2))) (w5.drewN nn) := fun nn => (HT5.out.m.keep (w' := w5.drewN nn) (fun _ _ h => h)).look ⟨f.name, p.v⟩
    clear hkeep hbd hbq hbx HT3 hg3 HO3 hb35 y2 r0 r1 r2 r3 z1 z3 q0 q1 q2 q3
    by_cases hin : (⟨f.name, p.v⟩ : Key) ∈ (keysF n (fl.take k) S).2
    ·rw [decide_eq_true hin] at hlk
     go_wp2_with fail
     go_quiet (fail)
     have hbq5 : Below w5.heap.size w5 (w5.drewN nq) := below_drewN (Below.refl _ _) nq
     have hkq := (hbq5.block _ (geB hkq)).trans hkq
     have HT6 := Lib.hid (HT5.out.last hB5 hbq5)
     have hg6 := (hbq5.block _ (geB hg5)).trans hg5
     have HO6 := Lib.hid (HO5.out.below hbq5)
     have hB6 : B <= (w5.drewN nq).heap.size := Nat.le_trans hB5 hbq5.size
     have z0 := cell_below hbq5 z0
     have y0 := cell_below hbq5 y0
     generalize w5.drewN nq = w6 at *
     obtain ⟨out6, hc6⟩ := HT6.out.c
     have hkl : (keysF n (fl.take k) S).1.length <= 1000 := Nat.le_trans (keysF_len n _ S) (by rw [List.length_take]; omega)
     have htell := tell_any B bc _ _ _ _ _ out6 _ ⟨4, n.id, f.name⟩ w6 hB6 hc6 ⟨⟨by show (-9223372036854775808 : Int) <= 4; omega, by show (4 : Int) <= 9223372036854775807; omega⟩, hid, HOKF.out⟩ (by rw [List.length_append, List.length_append]; omega)
     have HKQ := Lib.hid hkq
     clear hlk k0 k1 k2 k3 hbq5 HT5 hg5 HO5 hc5 hc6 m5 hkq
     go_wp2_with fail
     refine htell.mono ?_
     clear htell
     rintro e w7 ⟨rfl, ht7⟩
     have HT7 := Lib.hid (HT6.out.tell ht7)
     have hg7 := ht7.s 29 (by decide) (by decide) _ _ _ hg6
     have HO7 := Lib.hid (HO6.out.same (ht7.s 84 (by decide) (by decide)))
     have hkq := ht7.s 261 (by decide) (by decide) _ _ _ HKQ.out
     obtain ⟨out7, hc7⟩ := HT7.out.c
     have m5 := block_cell hc7.q 5
     clear ht7 HT6 hg6 HO6 hc7 HKQ z0 y0
     go_wp2_with fail
     have hbd9 : Below w7.heap.size w7 w7.drew := (Below.refl _ _).drew
     have hMd := (HT7).out.m.keep (w' := w7.drew) (fun _ _ h => h)
     obtain ⟨w9, hput0, hM9, hg9⟩ := hMd.put ⟨f.name, p.v⟩
     have hput : (Instr.mapUpdate 199 (.map (some bm)) (.agg #[.string f.name, .int .i64 p.v.ty, .int .i64 p.v.n, .string p.v.s]) (.bool true)).run Tryz.prog w7.drew = .ok () w9 := hput0
     have hs9 := map_same hMd hg9
     have hB9 : B <= w7.drew.heap.size := by have := (HT7).out.z; have := hbd9.size; omega
     have HP9 := Lib.hid (((HT7).out.last hB9 hbd9).put hB9 hbm hg9 hM9)
     have hg9n := hs9 29 _ _ _ (hg7)
     have HO9 := Lib.hid (((HO7).out.below hbd9).same (hs9 84))
     have hkq9 := hs9 261 _ _ _ hkq
     have hkeep := And.intro m5 (And.intro (block_cell hkq 0) (And.intro (block_cell hkq 1) (And.intro (block_cell hkq 2) (block_cell hkq 3))))
     obtain ⟨out9, hc9⟩ := HP9.out.c
     have hkeep9 := And.intro (block_cell hc9.q 5) (And.intro (block_cell hkq9 0) (And.intro (block_cell hkq9 1) (And.intro (block_cell hkq9 2) (block_cell hkq9 3))))
     clear hput0 hM9 hg9 hMd hc9 hs9
     go_region_held3 (fun w' => w'.cell? ⟨bc, 5, none⟩ = some (.map (some bm)) /\ w'.cell? ⟨w4.heap.size, 0, none⟩ = some (.string f.name) /\ w'.cell? ⟨w4.heap.size, 1, none⟩ = some (.int .i64 p.v.ty) /\ w'.cell? ⟨w4.heap.size, 2, none⟩ = some (.int .i64 p.v.n) /\ w'.cell? ⟨w4.heap.size, 3, none⟩ = some (.string p.v.s))
      (first
        | exact hkeep
        | exact hkeep9
        | go_keep)
      (fail)
     all_goals
      go_wp2_with fail
      go_roundw
      case rel => exact ⟨k + 1, by omega, by go_num, by
       unfold Hid
       rw [HS.out]
       unfold keyStep
       rw [HKY2.out]
       have h := HP9.out
       simp only [hin, if_true] at h ⊢
       simpa using h, hg9n, HO9.out⟩
      case measure => simp [intOf]; omega
    rw [decide_eq_false hin] at hlk
    go_wp2_with fail
    go_quiet (fail)
    have hbq5 : Below w5.heap.size w5 (w5.drewN nq) := below_drewN (Below.refl _ _) nq
    have hkq := (hbq5.block _ (geB hkq)).trans hkq
    have m5 := cell_below hbq5 m5
    have HT6 := Lib.hid (HT5.out.last hB5 hbq5)
    have hg6 := (hbq5.block _ (geB hg5)).trans hg5
    have HO6 := Lib.hid (HO5.out.below hbq5)
    generalize w5.drewN nq = w6 at *
    clear hlk z0 y0 k0 k1 k2 k3 hbq5 HT5 hg5 HO5 hc5
    go_wp2_with fail
    have hbd9 : Below w6.heap.size w6 w6.drew := (Below.refl _ _).drew
    have hMd := (HT6).out.m.keep (w' := w6.drew) (fun _ _ h => h)
    obtain ⟨w9, hput0, hM9, hg9⟩ := hMd.put ⟨f.name, p.v⟩
    have hput : (Instr.mapUpdate 199 (.map (some bm)) (.agg #[.string f.name, .int .i64 p.v.ty, .int .i64 p.v.n, .string p.v.s]) (.bool true)).run Tryz.prog w6.drew = .ok () w9 := hput0
    have hs9 := map_same hMd hg9
    have hB9 : B <= w6.drew.heap.size := by have := (HT6).out.z; have := hbd9.size; omega
    have HP9 := Lib.hid (((HT6).out.last hB9 hbd9).put hB9 hbm hg9 hM9)
    have hg9n := hs9 29 _ _ _ (hg6)
    have HO9 := Lib.hid (((HO6).out.below hbd9).same (hs9 84))
    have hkq9 := hs9 261 _ _ _ hkq
    have hkeep := And.intro m5 (And.intro (block_cell hkq 0) (And.intro (block_cell hkq 1) (And.intro (block_cell hkq 2) (block_cell hkq 3))))
    obtain ⟨out9, hc9⟩ := HP9.out.c
    have hkeep9 := And.intro (block_cell hc9.q 5) (And.intro (block_cell hkq9 0) (And.intro (block_cell hkq9 1) (And.intro (block_cell hkq9 2) (block_cell hkq9 3))))
    clear hput0 hM9 hg9 hMd hc9 hs9
    go_region_held3 (fun w' => w'.cell? ⟨bc, 5, none⟩ = some (.map (some bm)) /\ w'.cell? ⟨w4.heap.size, 0, none⟩ = some (.string f.name) /\ w'.cell? ⟨w4.heap.size, 1, none⟩ = some (.int .i64 p.v.ty) /\ w'.cell? ⟨w4.heap.size, 2, none⟩ = some (.int .i64 p.v.n) /\ w'.cell? ⟨w4.heap.size, 3, none⟩ = some (.string p.v.s))
     (first
       | exact hkeep
       | exact hkeep9
       | go_keep)
     (fail)
    all_goals
     go_wp2_with fail
     go_roundw
     case rel => exact ⟨k + 1, by omega, by go_num, by
      unfold Hid
      rw [HS.out]
      unfold keyStep
      rw [HKY2.out]
      have h := HP9.out
      simp only [hin, if_false] at h ⊢
      simpa using h, hg9n, HO9.out⟩
     case measure => simp [intOf]; omega
 obtain rfl : k = fl.length := by omega
 rw [List.take_length] at HT
 obtain ⟨outr, hcr⟩ := HT.out.c
 have m1 := block_cell hcr.q 1
 have hkl9 : (keysF n fl S).1.length <= 1000 := Nat.le_trans (keysF_len n _ S) (by omega)
 clear hlt hk y0 y2 hcr HO HOK
 go_wp2_with fail
 go_loopw [88] (fun i wq => ∃ k : Nat, k <= s.bonds.length /\ i = .int .i64 k /\ Hid (Told2 B bm w wq bc (.slice Ak s.kinds.length ck) (.slice Ab s.bonds.length cb) (.slice An g.nodes.length cn) (.slice At g.ties.length ct) (fs ++ aloneF s n ++ (keysF n fl S).1 ++ (s.bonds.take k).flatMap (bondF s g n)) (keysF n fl S).2) /\
  wq.heap[w.heap.size]? = some (.cells #[.int .i64 n.id, .string n.kind, .slice Au n.props.length cu] 29 (0, 0))) (fun i _ => s.bonds.length - (intOf i).toNat)
 case atStart => exact ⟨0, Nat.zero_le _, rfl, by unfold Hid; simpa using HT.out, hg⟩
 clear HT hg m1
 obtain ⟨k, hk, rfl, HT, hg⟩ := hrel
 by_cases hlt : k < s.bonds.length
 ·obtain ⟨d, hd⟩ : ∃ d, s.bonds[k]? = some d := ⟨_, List.getElem?_eq_getElem hlt⟩
  have hlt' : (k : Int) < (s.bonds.length : Int) := by omega
  have hWq : Below W1.heap.size W1 wr := by have h := HT.out.b; rw [HBW.out] at h; exact hW.trans h
  obtain ⟨gb, o, rfl, hokd, q0, q1, q2, q3, q4⟩ := bnd_at (HS.out.below hWq).2 hd
  have ha1 : Below wr.heap.size wr (wr.alloc (.cells #[.string d.name, .string d.src, .string d.dst, .int .i64 d.mn, .int .i64 d.mx] 82)) := (Below.refl _ _).alloc (Nat.le_refl _) _
  have hbk := heap_alloc_new wr (.cells #[.string d.name, .string d.src, .string d.dst, .int .i64 d.mn, .int .i64 d.mx] 82)
  have hBq : B <= wr.heap.size := by have := HT.out.z; omega
  have HST : Hid ((s.bonds.take (k + 1)).flatMap (bondF s g n) = (s.bonds.take k).flatMap (bondF s g n) ++ bondF s g n d) := by unfold Hid; rw [take_snocF hd, List.flatMap_append]; simp
  have hfl9 : ((s.bonds.take k).flatMap (bondF s g n)).length <= 24 := by
   have h1 := flat_le (l := s.bonds.take k) (f := bondF s g n) (c := 2) (fun b _ => bondF_len s g n b)
   have h2 : (s.bonds.take k).length <= k := by rw [List.length_take]; omega
   omega
  have HBF : Hid (bondF s g n d = if isKinB s.kinds n.kind d.src = true then (if manyF g n d < d.mn then [⟨7, n.id, d.name⟩] else []) ++ (if 0 <= d.mx /\ d.mx < manyF g n d then [⟨8, n.id, d.name⟩] else []) else []) := rfl
  have hWa := hWq.trans (ha1.mono hWq.size)
  have HT1 := Lib.hid (HT.out.last hBq ha1)
  have hg1 := (ha1.block _ (geB hg)).trans hg
  have hBa : B <= (wr.alloc (.cells #[.string d.name, .string d.src, .string d.dst, .int .i64 d.mn, .int .i64 d.mx] 82)).heap.size := by simp; omega
  have HKI : Hid (∀ W, Below W1.heap.size W1 W -> Calls Tryz.prog 133 #[.slice Ak s.kinds.length ck, .string n.kind, .string d.src] W fun e w' => e = .returned (.bool (isKinB s.kinds n.kind d.src)) /\ Below W.heap.size W w') := fun W h => isKin_any s.kinds n.kind d.src _ W (HS.out.below h).1 hkd (by have := hok.l; omega) hok.o
  have HEN : Hid (∀ W, Below W1.heap.size W1 W -> Calls Tryz.prog 93 #[.agg #[.slice An g.nodes.length cn, .slice At g.ties.length ct], .int .i64 n.id, .string d.name, .bool false] W fun e w' => ∃ u, e = .returned u /\ Own w' W.heap.size 3 1 u (endsS g n.id d.name false).length ((endsS g n.id d.name false).map (Value.int .i64)) /\ (∀ x ∈ endsS g n.id d.name false, I64 x) /\ Below W.heap.size W w') := fun W h => ends_any g n.id d.name false _ _ W (HG.out.below h) htl
  have HML : Hid (manyF g n d = ((endsS g n.id d.name false).length : Int) /\ (endsS g n.id d.name false).length <= 1000) := ⟨rfl, by
   unfold endsS
   rw [sortI_len]
   exact Nat.le_trans (endsL_len _ _ _ _) htl⟩
  have HOKD : Hid (Sm d.name) := hokd.1
  clear hd hokd HT hg hWq
  go_upto_region 16 with fail
  generalize wr.alloc (.cells #[.string d.name, .string d.src, .string d.dst, .int .i64 d.mn, .int .i64 d.mx] 82) = Wa at *
  obtain ⟨outa, hca⟩ := HT1.out.c
  have m0 := block_cell hca.q 0
  have n1 := block_cell hg1 1
  have b1 := block_cell hbk 1
  have HBK := Lib.hid hbk
  have HGK := Lib.hid hg1
  clear hca q0 q1 q2 q3 q4 hbk hg1
  generalize isKinB s.kinds n.kind d.src = ik at *
  go_wp2_with fail
  refine wp_mid_k 9 _ rfl rfl (by kernel_rfl) (by kernel_rfl) ?_
  simp only [List.take_succ_cons, List.take_zero, List.drop_succ_cons, List.drop_zero]
  repeat (go_big_quiet_step (fail))
  refine wpQuiet_nil ?_
  intro _ hw'
  obtain ⟨nq, hw''⟩ := hw'
  subst hw''
  intro K hK
  have hk1 := HKI.out (Wa.drewN nq) (hWa.trans (below_drewN (Below.refl _ _) nq))
  go_wp2_with fail
  refine hk1.mono ?_
  clear hk1 HKI
  rintro e w3 ⟨rfl, hb3⟩
  have hb13 := (below_drewN (Below.refl Wa.heap.size Wa) nq).trans hb3
  refine hK _ _ ?_
  repeat (go_big_quiet_step (fail))
  refine wpQuiet_nil ?_
  intro _ hw'
  obtain ⟨nq2, hw''⟩ := hw'
  subst hw''
  clear hK
  have hbW := below_drewN hb13 nq2
  generalize w3.drewN nq2 = w4 at *
  have hB4 : B <= w4.heap.size := Nat.le_trans hBa hbW.size
  have HT4 := Lib.hid (HT1.out.last hBa hbW)
  have hg4 := (hbW.block _ (geB HGK.out)).trans HGK.out
  have hbk4 := (hbW.block _ (geB HBK.out)).trans HBK.out
  have hW4 := hWa.trans (hbW.mono hWa.size)
  clear hb3 hb13 hbW HT1 HGK HBK m0 n1 b1 hBa hWa
  cases ik with
  | false =>
   have HN : Hid (bondF s g n d = []) := by unfold Hid; rw [HBF.out]; rfl
   clear hbk4 HEN
   go_wp2_with fail
   go_roundw
   case rel => exact ⟨k + 1, by omega, by go_num, by unfold Hid; rw [HST.out, HN.out, List.append_nil]; exact HT4.out, hg4⟩
   case measure => simp [intOf]; omega
  | true =>
   have HBF2 : Hid (bondF s g n d = (if manyF g n d < d.mn then [⟨7, n.id, d.name⟩] else []) ++ (if 0 <= d.mx /\ d.mx < manyF g n d then [⟨8, n.id, d.name⟩] else [])) := by unfold Hid; rw [HBF.out]; rfl
   rw [HML.out.1] at HBF2
   have hmm := HML.out.2
   obtain ⟨outa, hca⟩ := HT4.out.c
   have m2 := block_cell hca.q 2
   have m3 := block_cell hca.q 3
   have n0 := block_cell hg4 0
   have b0 := block_cell hbk4 0
   have HBK := Lib.hid hbk4
   have HGK := Lib.hid hg4
   clear hca hbk4 hg4 HBF HML
   go_wp2_with fail
   refine wp_mid_k 8 _ rfl rfl (by kernel_rfl) (by kernel_rfl) ?_
   simp only [List.take_succ_cons, List.take_zero, List.drop_succ_cons, List.drop_zero]
   repeat (go_big_quiet_step (fail))
   refine wpQuiet_nil ?_
   intro _ hw'
   obtain ⟨nq, hw''⟩ := hw'
   subst hw''
   intro K hK
   have hk1 := HEN.out (w4.drewN nq) (hW4.trans (below_drewN (Below.refl _ _) nq))
   clear HEN
   go_wp2_with fail
   refine hk1.mono ?_
   clear hk1
   rintro e w5 ⟨u5, rfl, ho5, _, hb5⟩
   obtain ⟨A5, c5, rfl, _, _⟩ := ho5.form
   have hb15 := (below_drewN (Below.refl w4.heap.size w4) nq).trans hb5
   clear ho5 hb5
   refine hK _ _ ?_
   repeat (go_big_quiet_step (fail))
   refine wpQuiet_nil ?_
   intro _ hw'
   obtain ⟨nq2, hw''⟩ := hw'
   subst hw''
   clear hK
   have hbW := below_drewN hb15 nq2
   generalize w5.drewN nq2 = w6 at *
   have hB6 : B <= w6.heap.size := Nat.le_trans hB4 hbW.size
   have HT6 := Lib.hid (HT4.out.last hB4 hbW)
   have hg6 := (hbW.block _ (geB HGK.out)).trans HGK.out
   have hbk6 := (hbW.block _ (geB HBK.out)).trans HBK.out
   clear hb15 hbW HT4 HGK HBK m2 m3 n0 b0 hW4 hB4
   generalize (endsS g n.id d.name false).length = mm at *
   have hmm' : (mm : Int) <= 1000 := by omega
   have b3 := block_cell hbk6 3
   by_cases h7 : (mm : Int) < d.mn
   ·have HB7 : Hid (bondF s g n d = [⟨7, n.id, d.name⟩] ++ (if 0 <= d.mx /\ d.mx < (mm : Int) then [⟨8, n.id, d.name⟩] else [])) := by unfold Hid; rw [HBF2.out, if_pos h7]
    clear HBF2
    obtain ⟨outx, hcx⟩ := (HT6).out.c
    have htell := tell_any B bc _ _ _ _ _ outx _ ⟨7, n.id, d.name⟩ w6 hB6 hcx ⟨⟨by show (-9223372036854775808 : Int) <= 7; omega, by show (7 : Int) <= 9223372036854775807; omega⟩, hid, HOKD.out⟩ (by first | (simp only [List.length_append]; omega) | (simp only [List.length_append, List.length_cons, List.length_nil]; omega))
    have HGN := Lib.hid (hg6)
    have HBN := Lib.hid (hbk6)
    have n0 := block_cell (hg6) 0
    have b0 := block_cell (hbk6) 0
    clear hcx hg6 hbk6
    go_wp2_with fail
    refine htell.mono ?_
    clear htell n0 b0
    rintro e w7 ⟨rfl, ht⟩
    have HT7 := Lib.hid (HT6.out.tell ht)
    have hB7 : B <= w7.heap.size := Nat.le_trans hB6 ht.z
    have hg7 := ht.s 29 (by decide) (by decide) _ _ _ HGN.out
    have hbk7 := ht.s 82 (by decide) (by decide) _ _ _ HBN.out
    clear ht HT6 HGN HBN b3 h7
    have b4 := block_cell (hbk7) 4
    by_cases h8 : 0 <= d.mx
    ·by_cases h9 : d.mx < (mm : Int)
     ·have HN : Hid (bondF s g n d = _ ++ [⟨8, n.id, d.name⟩]) := (HB7).out.trans (by rw [if_pos ⟨h8, h9⟩])
      clear HB7
      obtain ⟨outx, hcx⟩ := (HT7).out.c
      have htell := tell_any B bc _ _ _ _ _ outx _ ⟨8, n.id, d.name⟩ w7 hB7 hcx ⟨⟨by show (-9223372036854775808 : Int) <= 8; omega, by show (8 : Int) <= 9223372036854775807; omega⟩, hid, HOKD.out⟩ (by first | (simp only [List.length_append]; omega) | (simp only [List.length_append, List.length_cons, List.length_nil]; omega))
      have HGN := Lib.hid (hg7)
      have HBN := Lib.hid (hbk7)
      have n0 := block_cell (hg7) 0
      have b0 := block_cell (hbk7) 0
      clear hcx hg7 hbk7
      go_wp2_with fail
      refine htell.mono ?_
      clear htell n0 b0
      rintro e w8 ⟨rfl, ht⟩
      have HT8 := Lib.hid ((HT7).out.tell ht)
      have hg8 := ht.s 29 (by decide) (by decide) _ _ _ HGN.out
      clear ht HT7 HGN HBN b4 h8 h9
      go_wp2_with fail
      go_roundw
      case rel => exact ⟨k + 1, by omega, by go_num, by unfold Hid; rw [HST.out, HN.out]; simpa [List.append_assoc] using HT8.out, hg8⟩
      case measure => simp [intOf]; omega
     have h9' : (mm : Int) <= d.mx := by omega
     have HN : Hid (bondF s g n d = _ ++ []) := (HB7).out.trans (by rw [if_neg (fun h => h9 h.2)])
     clear HB7 h9
     go_wp2_with fail
     go_roundw
     case rel => exact ⟨k + 1, by omega, by go_num, by unfold Hid; rw [HST.out, HN.out]; simpa [List.append_assoc] using (HT7).out, hg7⟩
     case measure => simp [intOf]; omega
    have h8' : d.mx < 0 := by omega
    have HN : Hid (bondF s g n d = _ ++ []) := (HB7).out.trans (by rw [if_neg (fun h => h8 h.1)])
    clear HB7 h8
    go_wp2_with fail
    go_roundw
    case rel => exact ⟨k + 1, by omega, by go_num, by unfold Hid; rw [HST.out, HN.out]; simpa [List.append_assoc] using (HT7).out, hg7⟩
    case measure => simp [intOf]; omega
   have h7' : d.mn <= (mm : Int) := by omega
   have HB7 : Hid (bondF s g n d = [] ++ (if 0 <= d.mx /\ d.mx < (mm : Int) then [⟨8, n.id, d.name⟩] else [])) := by unfold Hid; rw [HBF2.out, if_neg h7]
   clear HBF2 h7
   have b4 := block_cell (hbk6) 4
   by_cases h8 : 0 <= d.mx
   ·by_cases h9 : d.mx < (mm : Int)
    ·have HN : Hid (bondF s g n d = _ ++ [⟨8, n.id, d.name⟩]) := (HB7).out.trans (by rw [if_pos ⟨h8, h9⟩])
     clear HB7
     obtain ⟨outx, hcx⟩ := (HT6).out.c
     have htell := tell_any B bc _ _ _ _ _ outx _ ⟨8, n.id, d.name⟩ w6 hB6 hcx ⟨⟨by show (-9223372036854775808 : Int) <= 8; omega, by show (8 : Int) <= 9223372036854775807; omega⟩, hid, HOKD.out⟩ (by first | (simp only [List.length_append]; omega) | (simp only [List.length_append, List.length_cons, List.length_nil]; omega))
     have HGN := Lib.hid (hg6)
     have HBN := Lib.hid (hbk6)
     have n0 := block_cell (hg6) 0
     have b0 := block_cell (hbk6) 0
     clear hcx hg6 hbk6
     go_wp2_with fail
     refine htell.mono ?_
     clear htell n0 b0
     rintro e w8 ⟨rfl, ht⟩
     have HT8 := Lib.hid ((HT6).out.tell ht)
     have hg8 := ht.s 29 (by decide) (by decide) _ _ _ HGN.out
     clear ht HT6 HGN HBN b4 h8 h9
     go_wp2_with fail
     go_roundw
     case rel => exact ⟨k + 1, by omega, by go_num, by unfold Hid; rw [HST.out, HN.out]; simpa [List.append_assoc] using HT8.out, hg8⟩
     case measure => simp [intOf]; omega
    have h9' : (mm : Int) <= d.mx := by omega
    have HN : Hid (bondF s g n d = _ ++ []) := (HB7).out.trans (by rw [if_neg (fun h => h9 h.2)])
    clear HB7 h9
    go_wp2_with fail
    go_roundw
    case rel => exact ⟨k + 1, by omega, by go_num, by unfold Hid; rw [HST.out, HN.out]; simpa [List.append_assoc] using (HT6).out, hg6⟩
    case measure => simp [intOf]; omega
   have h8' : d.mx < 0 := by omega
   have HN : Hid (bondF s g n d = _ ++ []) := (HB7).out.trans (by rw [if_neg (fun h => h8 h.1)])
   clear HB7 h8
   go_wp2_with fail
   go_roundw
   case rel => exact ⟨k + 1, by omega, by go_num, by unfold Hid; rw [HST.out, HN.out]; simpa [List.append_assoc] using (HT6).out, hg6⟩
   case measure => simp [intOf]; omega
 obtain rfl : k = s.bonds.length := by omega
 rw [List.take_length] at HT
 clear hlt hk
 go_wp2_with fail
 go_end0
 exact ⟨rfl, by rw [HA.out]; simpa [List.append_assoc] using HT.out⟩
theorem bndsE_step {ks : List Knd} {l : List Bnd} {k : Nat} {d : Bnd} {E : ByteArray × Int} (hd : l[k]? = some d) (h : E = bndsE ks (l.take k) (l.drop k)) :
 E = if bndE ks (l.take k) d = 0 then bndsE ks (l.take (k + 1)) (l.drop (k + 1)) else (d.name, bndE ks (l.take k) d) := by
 rw [h, drop_cons hd, bndsE, take_step hd]
def SCheckR (s : Scm) (w : World) (e : Ending) (w' : World) : Prop := e = .returned (.tuple #[.string (scmE s).1, errV (scmE s).2]) /\ Below w.heap.size w w'
set_option maxRecDepth 100000 in
set_option maxHeartbeats 4000000 in
theorem scheck_any (s : Scm) (vk vb : Value) (w : World) (hv : ScmR w vk vb s) : Calls Tryz.prog 124 #[.agg #[vk, vb]] w (SCheckR s w) := by
 obtain ⟨Ak, ck, rfl, _, _⟩ := hv.1.form
 obtain ⟨Ab, cb, rfl, hlc, hcm⟩ := hv.2.form
 have hb0 : Below w.heap.size w (w.alloc (.cells #[.slice Ak s.kinds.length ck, .slice Ab s.bonds.length cb] 61)) := (Below.refl _ _).alloc (Nat.le_refl _) _
 obtain ⟨x0, x1⟩ := cell_box2 w (.slice Ak s.kinds.length ck) (.slice Ab s.bonds.length cb) 61
 have HV := Lib.hid (hv.below hb0)
 have hck := kcheck_any s.kinds _ _ (hv.1.below hb0)
 have HE0 : Hid (scmE s = if (checkE s.kinds).2 = 0 then (if 12 < s.bonds.length then (.empty, 4) else bndsE s.kinds [] s.bonds) else checkE s.kinds) := rfl
 have hw0 := hb0.size
 clear hv
 go_enter Tryz.func124, Tryz.ntmps124
 go_wp2_with fail
 generalize w.alloc (.cells #[.slice Ak s.kinds.length ck, .slice Ab s.bonds.length cb] 61) = w0 at *
 refine hck.mono ?_
 clear hck
 rintro e w1 ⟨rfl, hb1⟩
 have hB1 := hb0.trans (hb1.mono hw0)
 have x0 := cell_below hb1 x0
 have x1 := cell_below hb1 x1
 have HV1 := Lib.hid (HV.out.below hb1)
 have hw1 := hB1.size
 generalize hce : checkE s.kinds = ce at *
 by_cases he : ce.2 = 0
 case neg =>
  have HF : Hid (scmE s = ce) := by unfold Hid; rw [HE0.out, if_neg he]
  have HF2 : Hid (errV ce.2 = .iface 122 (.int .i64 ce.2)) := errV_some he
  rw [errV_some he]
  clear he HE0 hce
  go_wp2_with fail
  go_ret2
  exact ⟨by rw [HF.out, HF2.out]; rfl, hB1⟩
 have HE1 : Hid (scmE s = if 12 < s.bonds.length then (.empty, 4) else bndsE s.kinds [] s.bonds) := by unfold Hid; rw [HE0.out, if_pos he]
 rw [errV_zero he]
 clear he HE0 hce
 by_cases h12 : 12 < s.bonds.length
 ·have HF : Hid (scmE s = (.empty, 4)) := by unfold Hid; rw [HE1.out, if_pos h12]
  have h12' : (12 : Int) < (s.bonds.length : Int) := by omega
  clear HE1
  go_wp2_with fail
  go_ret2
  exact ⟨by rw [HF.out]; rfl, hB1⟩
 have HE2 : Hid (scmE s = bndsE s.kinds [] s.bonds) := by unfold Hid; rw [HE1.out, if_neg h12]
 have h12' : (s.bonds.length : Int) <= 12 := by omega
 clear HE1 h12
 go_wp2_with fail
 go_loopw [27] (fun i wr => ∃ k : Nat, k <= s.bonds.length /\ i = .int .i64 k /\ Below w1.heap.size w1 wr /\ Hid (scmE s = bndsE s.kinds (s.bonds.take k) (s.bonds.drop k))) (fun i _ => s.bonds.length - (intOf i).toNat)
 case atStart => exact ⟨0, Nat.zero_le _, rfl, Below.refl _ _, HE2.out⟩
 obtain ⟨k, hk, rfl, hb, HR⟩ := hrel
 have y0 := cell_below hb x0
 have y1 := cell_below hb x1
 have hBr := hB1.trans (hb.mono hw1)
 clear x0 x1
 by_cases hlt : k < s.bonds.length
 ·obtain ⟨d, hd⟩ : ∃ d, s.bonds[k]? = some d := ⟨_, List.getElem?_eq_getElem hlt⟩
  have hlt' : (k : Int) < (s.bonds.length : Int) := by omega
  have HV2 := Lib.hid (HV1.out.below hb)
  obtain ⟨b, o, rfl, hok, c0, c1, c2, c3, c4⟩ := bnd_at HV2.out.2 hd
  have hbx : Below wr.heap.size wr (wr.alloc (.cells #[.string d.name, .string d.src, .string d.dst, .int .i64 d.mn, .int .i64 d.mx] 82)) := (Below.refl _ _).alloc (Nat.le_refl _) _
  obtain ⟨z0, _, _, _, _⟩ := cell_box5 wr (.string d.name) (.string d.src) (.string d.dst) (.int .i64 d.mn) (.int .i64 d.mx) 82
  have v0 := cell_below hbx y0
  have v1 := cell_below hbx y1
  have hbd := bond_any s k d _ _ _ (HV2.out.below hbx) hd
  have HS := Lib.hid (bndsE_step hd HR.out)
  generalize bndE s.kinds (s.bonds.take k) d = q at *
  clear hd HR
  go_wp2_with fail
  refine hbd.mono ?_
  clear hbd
  rintro e w3 ⟨rfl, hb3⟩
  have hB3 := hb.trans ((hbx.trans (hb3.mono hbx.size)).mono hb.size)
  have z0 := cell_below hb3 z0
  by_cases hq : q = 0
  ·have HS2 : Hid (scmE s = bndsE s.kinds (s.bonds.take (k + 1)) (s.bonds.drop (k + 1))) := by unfold Hid; rw [HS.out, if_pos hq]
   rw [errV_zero hq]
   clear hq HS v0 v1 c0 c1 c2 c3 c4
   go_wp2_with fail
   go_roundw
   case rel => exact ⟨k + 1, by omega, by go_num, hB3, HS2⟩
   case measure => simp [intOf]; omega
  have HF : Hid (scmE s = (d.name, q)) := by unfold Hid; rw [HS.out, if_neg hq]
  have HF2 : Hid (errV q = .iface 122 (.int .i64 q)) := errV_some hq
  rw [errV_some hq]
  clear hq HS v0 v1 c0 c1 c2 c3 c4
  go_wp2_with fail
  go_ret2
  exact ⟨by rw [HF.out, HF2.out]; rfl, hB1.trans (hB3.mono hw1)⟩
 obtain rfl : k = s.bonds.length := by omega
 have HF : Hid (scmE s = (.empty, 0)) := by unfold Hid; rw [HR.out, List.drop_length]; rfl
 clear HR
 go_wp2_with fail
 go_ret2
 exact ⟨by rw [HF.out]; rfl, hBr⟩
theorem sright_any (s : Scm) (vk vb : Value) (w : World) (hv : ScmR w vk vb s) : Calls Tryz.prog 78 #[.agg #[vk, vb]] w fun e w' => e = .returned (errV (scmE s).2) /\ Below w.heap.size w w' := by
 have hb0 : Below w.heap.size w (w.alloc (.cells #[vk, vb] 61)) := (Below.refl _ _).alloc (Nat.le_refl _) _
 have h1 := scheck_any s vk vb _ (hv.below hb0)
 obtain ⟨z, hz⟩ : ∃ z, z = errV (scmE s).2 := ⟨_, rfl⟩
 have HZ := Lib.hid hz
 obtain ⟨A, c, rfl, _, _⟩ := hv.1.form
 obtain ⟨A', c', rfl, _, _⟩ := hv.2.form
 clear hv
 go_enter Tryz.func78, Tryz.ntmps78
 go_wp2_with fail
 refine h1.mono ?_
 clear h1
 rintro e w2 ⟨he, hb2⟩
 rw [<- HZ.out] at he
 subst he
 clear hz
 go_wp2_with fail
 go_ret
 exact ⟨by rw [<- HZ.out]; rfl, hb0.trans (hb2.mono (by simp))⟩
def readySG (s : Scm) (g : Grf) : Int := if (scmE s).2 = 0 then grfE g else (scmE s).2
theorem cready_any (s : Scm) (g : Grf) (vk vb vn vt : Value) (w : World) (hs : ScmR w vk vb s) (hg : GrfR w vn vt g) :
 Calls Tryz.prog 66 #[.agg #[vk, vb], .agg #[vn, vt]] w fun e w' => e = .returned (errV (readySG s g)) /\ Below w.heap.size w w' := by
 obtain ⟨A1, c1, rfl, _, _⟩ := hs.1.form
 obtain ⟨A2, c2, rfl, _, _⟩ := hs.2.form
 obtain ⟨A3, c3, rfl, _, _⟩ := hg.1.form
 obtain ⟨A4, c4, rfl, _, _⟩ := hg.2.form
 obtain ⟨W0, hW0⟩ : ∃ W0, W0 = (w.alloc (.cells #[.slice A1 s.kinds.length c1, .slice A2 s.bonds.length c2] 61)).alloc (.cells #[.slice A3 g.nodes.length c3, .slice A4 g.ties.length c4] 25) := ⟨_, rfl⟩
 have hb0 : Below w.heap.size w W0 := by rw [hW0]; exact ((Below.refl _ _).alloc (Nat.le_refl _) _).alloc (by simp) _
 have g0 : W0.heap[w.heap.size]? = some (.cells #[.slice A1 s.kinds.length c1, .slice A2 s.bonds.length c2] 61 (0, 0)) := by
  rw [hW0, Below.heap_alloc _ _ _ (by simp)]; exact heap_alloc_new _ _
 have g1 : W0.heap[w.heap.size + 1]? = some (.cells #[.slice A3 g.nodes.length c3, .slice A4 g.ties.length c4] 25 (0, 0)) := by
  have := heap_alloc_new (w.alloc (.cells #[.slice A1 s.kinds.length c1, .slice A2 s.bonds.length c2] 61)) (.cells #[.slice A3 g.nodes.length c3, .slice A4 g.ties.length c4] 25); rw [hW0]; simpa using this
 have hW0' := hW0.symm
 have hr1 := sright_any s _ _ _ (hs.below hb0)
 have HG := Lib.hid hg
 have HBE : Hid (readySG s g = if (scmE s).2 = 0 then grfE g else (scmE s).2) := rfl
 have HQ := Lib.hid g1
 have x0 := block_cell g0 0
 have x1 := block_cell g0 1
 have hw0 := hb0.size
 generalize hz : (scmE s).2 = z at *
 generalize hbe : readySG s g = be at *
 clear hs hg g0 g1 hz hbe hW0
 go_enter Tryz.func66, Tryz.ntmps66
 go_wp2_with fail
 refine hr1.mono ?_
 clear hr1 hW0'
 rintro e w1 ⟨rfl, hb1⟩
 have hB1 := hb0.trans (hb1.mono hw0)
 have g2 := (hb1.block _ (geB HQ.out)).trans HQ.out
 by_cases he : z = 0
 case neg =>
  have HE : Hid (errV be = .iface 122 (.int .i64 z)) := by unfold Hid; rw [HBE.out, if_neg he]; exact errV_some he
  rw [errV_some he]
  clear he
  go_wp2_with fail
  go_ret
  exact ⟨by rw [HE.out]; rfl, hB1⟩
 have HE : Hid (be = grfE g) := by unfold Hid; rw [HBE.out, if_pos he]
 have hr2 := grfCheck_any g _ _ w1 (HG.out.below hB1)
 have y0 := block_cell g2 0
 have y1 := block_cell g2 1
 rw [errV_zero he]
 generalize grfE g = z2 at *
 clear he g2 x0 x1
 go_wp2_with fail
 refine hr2.mono ?_
 clear hr2
 rintro e w2 ⟨rfl, hb2⟩
 go_wp2_with fail
 go_ret
 exact ⟨by rw [HE.out]; rfl, hB1.trans (hb2.mono hB1.size)⟩
theorem Told2.trans {B bm : Nat} {w w1 w2 : World} {bc : Nat} {vk vb vn vt : Value} {fs gs : List Flt} {S S' : List Key} (h : Told2 B bm w w1 bc vk vb vn vt fs S) (k : Told2 B bm w1 w2 bc vk vb vn vt gs S') : Told2 B bm w w2 bc vk vb vn vt gs S' :=
 ⟨k.c, h.b.trans k.b, fun T h1 h2 => (h.s T h1 h2).trans (k.s T h1 h2), k.m, Nat.le_trans h.z k.z⟩
theorem scm_right {s : Scm} (h : (scmE s).2 = 0) : Right s.kinds /\ s.bonds.length <= 12 := by
 unfold scmE at h
 split at h
 ·rename_i h0
  split at h
  ·simp at h
  exact ⟨checkE_zero h0, by omega⟩
 rename_i h0; exact absurd h h0
theorem Right.ck {s : Scm} (h : Right s.kinds) : CkOk s := by
 refine ⟨h.len, fun k hk => ?_, fun k hk => ?_⟩
 ·obtain ⟨i, hi⟩ := List.mem_iff_getElem?.1 hk
  have := (h.one i k hi).ofl
  omega
 obtain ⟨i, hi⟩ := List.mem_iff_getElem?.1 hk
 exact (h.one i k hi).fll
theorem bFind_casesC (l : List Bnd) (nm : ByteArray) : bFind l nm < 0 \/ ∃ (i : Nat) (d : Bnd), bFind l nm = i /\ l[i]? = some d := by
 by_cases h : bFind l nm < 0
 ·exact .inl h
 obtain ⟨i, d, h1, h2, _⟩ := idxI_nonneg (p := fun b : Bnd => decide (b.name = nm)) (l := l) (by unfold bFind at h; omega)
 exact .inr ⟨i, d, h1, h2⟩
theorem tieF_none {s : Scm} {g : Grf} {t : Tie} (h : bFind s.bonds t.bond < 0) : tieF s g t = [⟨5, t.src, t.bond⟩] := by
 unfold tieF
 split
 ·rw [if_pos h]
 rfl
theorem tieF_at {s : Scm} {g : Grf} {t : Tie} {i : Nat} {d : Bnd} (h : bFind s.bonds t.bond = i) (hd : s.bonds[i]? = some d) : tieF s g t = if endB s g t.src d.src = true /\ endB s g t.dst d.dst = true then [] else [⟨6, t.src, t.bond⟩] := by
 unfold tieF
 rw [h, Int.toNat_natCast, hd]
 simp only
 rw [if_neg (by omega)]
theorem grf_recs {g : Grf} (h : grfE g = 0) : ∀ n ∈ g.nodes, n.props.length <= 8 /\ chain prpLt n.props = true := by
 intro n hn
 obtain ⟨_, _, _, h4⟩ := grf_ok h
 obtain ⟨_, h5⟩ := h4 n hn
 unfold nodE at h5
 split at h5
 ·simp at h5
 split at h5
 ·obtain ⟨a, _, c⟩ := rec_ok h5
  exact ⟨a, c⟩
 rename_i h6; exact absurd h5 h6
set_option maxRecDepth 100000 in
set_option maxHeartbeats 16000000 in
theorem of_any (s : Scm) (g : Grf) (vk vb vn vt : Value) (w : World) (hs : ScmR w vk vb s) (hg : GrfR w vn vt g) (h1 : (scmE s).2 = 0) (h2 : grfE g = 0) :
 Calls Tryz.prog 67 #[.agg #[vk, vb], .agg #[vn, vt]] w fun e w' => ∃ u, e = .returned u /\ Sl fltL w' u (ofF s g) /\ Below w.heap.size w w' := by
 obtain ⟨hright, hbl⟩ := scm_right h1
 have hok := hright.ck
 obtain ⟨hnl, htl, hch, _⟩ := grf_ok h2
 have HRC := Lib.hid (grf_recs h2)
 have HKL : Hid (∀ nm, (kfl s nm).length <= 8) := kfl_len hright
 obtain ⟨Ak, ck, rfl, _, _⟩ := hs.1.form
 obtain ⟨Ab, cb, rfl, _, _⟩ := hs.2.form
 obtain ⟨An, cn, rfl, _, _⟩ := hg.1.form
 obtain ⟨At, ct, rfl, _, _⟩ := hg.2.form
 have hmm := @run_makeMap Tryz.prog
 obtain ⟨W1, hW1⟩ : ∃ W1, W1 = (w.alloc (.cells #[.slice Ak s.kinds.length ck, .slice Ab s.bonds.length cb] 61)).alloc (.cells #[.slice An g.nodes.length cn, .slice At g.ties.length ct] 25) := ⟨_, rfl⟩
 have hb1 : Below w.heap.size w W1 := by rw [hW1]; exact ((Below.refl _ _).alloc (Nat.le_refl _) _).alloc (by simp) _
 have g0 : W1.heap[w.heap.size]? = some (.cells #[.slice Ak s.kinds.length ck, .slice Ab s.bonds.length cb] 61 (0, 0)) := by
  rw [hW1, Below.heap_alloc _ _ _ (by simp)]; exact heap_alloc_new _ _
 have g1 : W1.heap[w.heap.size + 1]? = some (.cells #[.slice An g.nodes.length cn, .slice At g.ties.length ct] 25 (0, 0)) := by
  have := heap_alloc_new (w.alloc (.cells #[.slice Ak s.kinds.length ck, .slice Ab s.bonds.length cb] 61)) (.cells #[.slice An g.nodes.length cn, .slice At g.ties.length ct] 25); rw [hW1]; simpa using this
 have hsz : W1.heap.size = w.heap.size + 2 := by rw [hW1]; simp
 obtain ⟨Wc, hWc⟩ : ∃ Wc, Wc = (W1.alloc (.map #[] 0)).alloc (.cells #[.slice Ak s.kinds.length ck, .slice Ab s.bonds.length cb, .slice An g.nodes.length cn, .slice At g.ties.length ct, .slice none 0 0, .map (some W1.heap.size)] 201) := ⟨_, rfl⟩
 have hT0 : Told2 W1.heap.size W1.heap.size W1 Wc (W1.heap.size + 1) (.slice Ak s.kinds.length ck) (.slice Ab s.bonds.length cb) (.slice An g.nodes.length cn) (.slice At g.ties.length ct) [] [] := by
  have hbb : Below W1.heap.size W1 Wc := by rw [hWc]; exact ((Below.refl _ _).alloc (Nat.le_refl _) _).alloc (by simp) _
  refine ⟨⟨.slice none 0 0, ?_, by omega, Own.nil _ _ _ _, by simp⟩, hbb, fun T _ _ => Same.below hbb, ?_, hbb.size⟩
  ·have := heap_alloc_new (W1.alloc (.map #[] 0)) (.cells #[.slice Ak s.kinds.length ck, .slice Ab s.bonds.length cb, .slice An g.nodes.length cn, .slice At g.ties.length ct, .slice none 0 0, .map (some W1.heap.size)] 201); rw [hWc]; simpa using this
  refine (MapK.made W1).keep fun m c hm => ?_
  rw [hWc, Below.heap_alloc _ _ _ (by simp)]; exact hm
 have hT0 : Told2 W1.heap.size (w.heap.size + 1 + 1) W1 Wc (w.heap.size + 1 + 1 + 1) (.slice Ak s.kinds.length ck) (.slice Ab s.bonds.length cb) (.slice An g.nodes.length cn) (.slice At g.ties.length ct) [] [] := by
  have key : ∀ x, x = W1.heap.size -> Told2 W1.heap.size x W1 Wc (x + 1) (.slice Ak s.kinds.length ck) (.slice Ab s.bonds.length cb) (.slice An g.nodes.length cn) (.slice At g.ties.length ct) [] [] := fun x hx => by subst hx; exact hT0
  exact key _ hsz.symm
 have hWc' := hWc.symm
 rw [hW1] at hWc'
 simp only [World.size_alloc] at hWc'
 have x0 := block_cell g0 0
 have x1 := block_cell g0 1
 have y0 := block_cell g1 0
 have y1 := block_cell g1 1
 have hbc : Below W1.heap.size W1 Wc := hT0.b
 have x0 := cell_below hbc x0
 have x1 := cell_below hbc x1
 have y0 := cell_below hbc y0
 have y1 := cell_below hbc y1
 have HG0 := Lib.hid g0
 have HG1 := Lib.hid g1
 have HS := Lib.hid (hs.below hb1)
 have HG := Lib.hid (hg.below hb1)
 have HT0 := Lib.hid hT0
 have HSZ := Lib.hid hsz
 clear hs hg g0 g1 hT0 hsz h1 h2 hW1 hWc hbc x0 x1 y1
 go_enter Tryz.func67, Tryz.ntmps67
 go_upto_region 2 with fail
 clear hWc' hmm
 go_wp2_with fail
 go_loopw [19] (fun i wr => ∃ k : Nat, k <= g.nodes.length /\ i = .int .i64 k /\ Hid (Told2 W1.heap.size (w.heap.size + 1 + 1) W1 wr (w.heap.size + 1 + 1 + 1) (.slice Ak s.kinds.length ck) (.slice Ab s.bonds.length cb) (.slice An g.nodes.length cn) (.slice At g.ties.length ct) (nodesF s g (g.nodes.take k)).1 (nodesF s g (g.nodes.take k)).2)) (fun i _ => g.nodes.length - (intOf i).toNat)
 case atStart => exact ⟨0, Nat.zero_le _, rfl, HT0.out⟩
 clear HT0 y0
 obtain ⟨k, hk, rfl, HT⟩ := hrel
 have hWr : Below W1.heap.size W1 wr := HT.out.b
 by_cases hlt : k < g.nodes.length
 ·obtain ⟨n, hd⟩ : ∃ d, g.nodes[k]? = some d := ⟨_, List.getElem?_eq_getElem hlt⟩
  have hlt' : (k : Int) < (g.nodes.length : Int) := by omega
  obtain ⟨gb, o, rfl, u, hid, hkd, hpr, q0, q1, q2⟩ := nod_at HG.out.1 hd
  obtain ⟨Au, cu, rfl, _, _⟩ := hpr.form
  have q0 := cell_below hWr q0
  have q1 := cell_below hWr q1
  have q2 := cell_below hWr q2
  obtain ⟨z0, z1, z2⟩ := cell_box3 wr (.int .i64 n.id) (.string n.kind) (.slice Au n.props.length cu) 29
  have ha1 : Below wr.heap.size wr (wr.alloc (.cells #[.int .i64 n.id, .string n.kind, .slice Au n.props.length cu] 29)) := (Below.refl _ _).alloc (Nat.le_refl _) _
  have hBr : W1.heap.size <= wr.heap.size := hWr.size
  have HT1 := Lib.hid (HT.out.last hBr ha1)
  have hWa := hWr.trans (ha1.mono hWr.size)
  obtain ⟨hp8, hpc⟩ := HRC.out n (List.mem_of_getElem? hd)
  have hk8 := HKL.out n.kind
  obtain ⟨outa, hca⟩ := HT1.out.c
  have hln := nodesF_le (g := g) HKL.out hbl (fun m hm => (HRC.out m hm).1) k
  have hnode := node_any W1.heap.size (w.heap.size + 1 + 1 + 1) (w.heap.size + 1 + 1) _ _ _ _ outa _ _ s g n _ W1 _ rfl (by have := HSZ.out; omega) hWa hca HT1.out.m HS.out hok hbl HG.out (by omega) hpr hid hkd hpc (by omega) (by omega) (by omega)
  have HSN : Hid (nodesF s g (g.nodes.take (k + 1)) = ((nodesF s g (g.nodes.take k)).1 ++ (nodeF s g (nodesF s g (g.nodes.take k)).2 n).1, (nodeF s g (nodesF s g (g.nodes.take k)).2 n).2)) := by unfold Hid; rw [take_snocF hd, nodesF_snoc]
  clear hd HT hpr hca hpc hp8 hk8 hln hid hkd
  go_upto_region 5 with fail
  generalize wr.alloc (.cells #[.int .i64 n.id, .string n.kind, .slice Au n.props.length cu] 29) = Wa at *
  go_wp2_with fail
  refine hnode.mono ?_
  clear hnode
  rintro e w3 ⟨rfl, ht⟩
  have HT3 := Lib.hid (HT1.out.trans ht)
  clear ht HT1
  go_wp2_with fail
  go_roundw
  case rel => exact ⟨k + 1, by omega, by go_num, by unfold Hid; rw [HSN.out]; exact HT3.out⟩
  case measure => simp [intOf]; omega
 obtain rfl : k = g.nodes.length := by omega
 rw [List.take_length] at HT
 have hln := nodesF_le (g := g) HKL.out hbl (fun m hm => (HRC.out m hm).1) g.nodes.length
 rw [List.take_length] at hln
 have hg1 := (hWr.block _ (geB HG1.out)).trans HG1.out
 have y1 := block_cell hg1 1
 clear hlt hk hWr hg1
 have HNF : Hid (ofF s g = (nodesF s g g.nodes).1 ++ g.ties.flatMap (tieF s g)) := rfl
 generalize hnf1 : (nodesF s g g.nodes).1 = N1 at *
 generalize hnf2 : (nodesF s g g.nodes).2 = N2 at *
 clear hnf1 hnf2
 go_wp2_with fail
 go_loopw [30] (fun i wr => ∃ k : Nat, k <= g.ties.length /\ i = .int .i64 k /\ Hid (Told2 W1.heap.size (w.heap.size + 1 + 1) W1 wr (w.heap.size + 1 + 1 + 1) (.slice Ak s.kinds.length ck) (.slice Ab s.bonds.length cb) (.slice An g.nodes.length cn) (.slice At g.ties.length ct) (N1 ++ (g.ties.take k).flatMap (tieF s g)) N2)) (fun i _ => g.ties.length - (intOf i).toNat)
 case atStart => exact ⟨0, Nat.zero_le _, rfl, by unfold Hid; simpa using HT.out⟩
 clear HT y1
 obtain ⟨k, hk, rfl, HT⟩ := hrel
 have hWr : Below W1.heap.size W1 wr := HT.out.b
 by_cases hlt : k < g.ties.length
 ·obtain ⟨t, hd⟩ : ∃ d, g.ties[k]? = some d := ⟨_, List.getElem?_eq_getElem hlt⟩
  have hlt' : (k : Int) < (g.ties.length : Int) := by omega
  obtain ⟨gb, o, rfl, hokt, q0, q1, q2⟩ := tie_at HG.out.2 hd
  have q0 := cell_below hWr q0
  have q1 := cell_below hWr q1
  have q2 := cell_below hWr q2
  obtain ⟨z0, z1, z2⟩ := cell_box3 wr (.string t.bond) (.int .i64 t.src) (.int .i64 t.dst) 35
  have hbk := heap_alloc_new wr (.cells #[.string t.bond, .int .i64 t.src, .int .i64 t.dst] 35)
  have ha1 : Below wr.heap.size wr (wr.alloc (.cells #[.string t.bond, .int .i64 t.src, .int .i64 t.dst] 35)) := (Below.refl _ _).alloc (Nat.le_refl _) _
  have hBr : W1.heap.size <= wr.heap.size := hWr.size
  have HT1 := Lib.hid (HT.out.last hBr ha1)
  have hWa := hWr.trans (ha1.mono hWr.size)
  have hg0 := (hWa.block _ (geB HG0.out)).trans HG0.out
  have x0 := block_cell hg0 0
  have x1 := block_cell hg0 1
  have hfd := sFind_any s t.bond _ _ _ (HS.out.below hWa)
  have htl9 := tieF_le s g k
  have HOKT := Lib.hid hokt
  have HST : Hid ((g.ties.take (k + 1)).flatMap (tieF s g) = (g.ties.take k).flatMap (tieF s g) ++ tieF s g t) := by unfold Hid; rw [take_snocF hd, List.flatMap_append]; simp
  have HN0 : Hid (bFind s.bonds t.bond < 0 -> tieF s g t = [⟨5, t.src, t.bond⟩]) := tieF_none
  have HNA : Hid (∀ (i : Nat) d, bFind s.bonds t.bond = i -> s.bonds[i]? = some d -> tieF s g t = if endB s g t.src d.src = true /\ endB s g t.dst d.dst = true then [] else [⟨6, t.src, t.bond⟩]) := fun i d h1 h2 => tieF_at h1 h2
  have hbc := bFind_casesC s.bonds t.bond
  clear hd HT hokt hg0 hWr
  go_upto_region 10 with fail
  generalize wr.alloc (.cells #[.string t.bond, .int .i64 t.src, .int .i64 t.dst] 35) = Wa at *
  generalize bFind s.bonds t.bond = z at *
  go_wp2_with fail
  refine hfd.mono ?_
  clear hfd
  rintro e w3 ⟨rfl, hb3⟩
  have hW3 := hWa.trans (hb3.mono hWa.size)
  have HT3 := Lib.hid (HT1.out.last (Nat.le_trans hBr ha1.size) hb3)
  have hB3 : W1.heap.size <= w3.heap.size := hW3.size
  have hbk3 := (hb3.block _ (geB hbk)).trans hbk
  clear hbk HT1 hb3 hWa ha1 q0 q1 q2 z0 z1 z2 x0 x1
  rcases hbc with hz | ⟨i, d, rfl, hdb⟩
  ·have HN : Hid (tieF s g t = [⟨5, t.src, t.bond⟩]) := HN0.out hz
   have hz' : decide (z < 0) = true := decide_eq_true hz
   clear HN0 HNA hz hW3
   obtain ⟨outx, hcx⟩ := (HT3).out.c
   have htell := tell_any _ _ _ _ _ _ _ outx _ ⟨5, t.src, t.bond⟩ w3 hB3 hcx ⟨⟨by show (-9223372036854775808 : Int) <= 5; omega, by show (5 : Int) <= 9223372036854775807; omega⟩, HOKT.out.2.1, HOKT.out.1⟩ (by rw [List.length_append]; omega)
   have c0 := block_cell (hbk3) 0
   have c1 := block_cell (hbk3) 1
   clear hcx hbk3
   go_wp2_with fail
   refine htell.mono ?_
   clear htell c0 c1
   rintro e w4 ⟨rfl, ht⟩
   have HT9 := Lib.hid ((HT3).out.tell ht)
   clear ht HT3
   go_wp2_with fail
   go_roundw
   case rel => exact ⟨k + 1, by omega, by go_num, by unfold Hid; rw [HST.out, HN.out, <- List.append_assoc]; exact HT9.out⟩
   case measure => simp [intOf]; omega
  have hz' : decide ((i : Int) < 0) = false := decide_eq_false (by omega)
  have HN1 := Lib.hid (HNA.out i d rfl hdb)
  have hil := (List.getElem?_eq_some_iff.1 hdb).1
  have hil' : (i : Int) < (s.bonds.length : Int) := by omega
  have hi0 : (0 : Int) <= (i : Int) := by omega
  obtain ⟨gb2, o2, rfl, _, r0, r1, r2, r3, r4⟩ := bnd_at (HS.out.below hW3).2 hdb
  have hg0 := (hW3.block _ (geB HG0.out)).trans HG0.out
  have x1 := block_cell hg0 1
  have c1 := block_cell hbk3 1
  have c2 := block_cell hbk3 2
  obtain ⟨out3, hc3⟩ := HT3.out.c
  have HE : Hid (∀ W, Below w3.heap.size w3 W -> ∀ id asked, Calls Tryz.prog 119 #[.pointer (some ⟨w.heap.size + 1 + 1 + 1, 0, none⟩), .int .i64 id, .string asked] W fun e w' => e = .returned (.bool (endB s g id asked)) /\ Below W.heap.size W w') := fun W h id asked =>
   end_any _ _ _ _ _ _ _ _ _ s g id asked W1 W (hW3.trans (h.mono hW3.size)) (hc3.below h) HS.out hok HG.out hch (by omega)
  obtain ⟨e1, he1⟩ : ∃ e1, endB s g t.src d.src = e1 := ⟨_, rfl⟩
  obtain ⟨e2, he2⟩ : ∃ e2, endB s g t.dst d.dst = e2 := ⟨_, rfl⟩
  rw [he1, he2] at HN1
  have HE1 : Hid (∀ W, Below w3.heap.size w3 W -> Calls Tryz.prog 119 #[.pointer (some ⟨w.heap.size + 1 + 1 + 1, 0, none⟩), .int .i64 t.src, .string d.src] W fun e w' => e = .returned (.bool e1) /\ Below W.heap.size W w') := fun W h => by rw [<- he1]; exact HE.out W h _ _
  have HE2 : Hid (∀ W, Below w3.heap.size w3 W -> Calls Tryz.prog 119 #[.pointer (some ⟨w.heap.size + 1 + 1 + 1, 0, none⟩), .int .i64 t.dst, .string d.dst] W fun e w' => e = .returned (.bool e2) /\ Below W.heap.size W w') := fun W h => by rw [<- he2]; exact HE.out W h _ _
  have HBK := Lib.hid hbk3
  clear HN0 HNA hdb hg0 hbk3 hc3 r0 r3 r4 he1 he2 HE
  have hbd : Below w3.heap.size w3 w3.drew := (Below.refl _ _).drew
  cases e1 with
  | false =>
   have HN : Hid (tieF s g t = [⟨6, t.src, t.bond⟩]) := by unfold Hid; rw [HN1.out, if_neg (by simp)]
   clear HN1 HE2
   go_wp2_with fail
   refine wp_mid_k 9 _ rfl rfl (by kernel_rfl) (by kernel_rfl) ?_
   simp only [List.take_succ_cons, List.take_zero, List.drop_succ_cons, List.drop_zero]
   repeat (go_big_quiet_step (fail))
   refine wpQuiet_nil ?_
   intro _ hw'
   obtain ⟨nq, hw''⟩ := hw'
   subst hw''
   intro K hK
   have hk1 := HE1.out (w3.drewN nq) (below_drewN (Below.refl _ _) nq)
   clear HE1
   go_wp2_with fail
   refine hk1.mono ?_
   clear hk1
   rintro e w4 ⟨rfl, hb4⟩
   have hb34 := (below_drewN (Below.refl w3.heap.size w3) nq).trans hb4
   refine hK _ _ ?_
   repeat (go_big_quiet_step (fail))
   refine wpQuiet_nil ?_
   intro _ hw'
   obtain ⟨nq2, hw''⟩ := hw'
   subst hw''
   clear hK
   have hbW := below_drewN hb34 nq2
   generalize w4.drewN nq2 = w5 at *
   have hB5 : W1.heap.size <= (w5).heap.size := Nat.le_trans hB3 (hbW).size
   have HT5 := Lib.hid (HT3.out.last hB3 hbW)
   have hbk5 := ((hbW).block _ (geB HBK.out)).trans HBK.out
   clear HBK HT3 x1 c1 c2 r1 r2 hbd
   obtain ⟨outx, hcx⟩ := (HT5).out.c
   have htell := tell_any _ _ _ _ _ _ _ outx _ ⟨6, t.src, t.bond⟩ w5 hB5 hcx ⟨⟨by show (-9223372036854775808 : Int) <= 6; omega, by show (6 : Int) <= 9223372036854775807; omega⟩, HOKT.out.2.1, HOKT.out.1⟩ (by rw [List.length_append]; omega)
   have c0 := block_cell (hbk5) 0
   have c1 := block_cell (hbk5) 1
   clear hcx hbk5
   go_wp2_with fail
   refine htell.mono ?_
   clear htell c0 c1
   rintro e w6 ⟨rfl, ht⟩
   have HT9 := Lib.hid ((HT5).out.tell ht)
   clear ht HT5
   go_wp2_with fail
   go_roundw
   case rel => exact ⟨k + 1, by omega, by go_num, by unfold Hid; rw [HST.out, HN.out, <- List.append_assoc]; exact HT9.out⟩
   case measure => simp [intOf]; omega
  | true =>
   have HK0 := HE1.out w3.drew hbd
   have hkeep := And.intro (cell_below hbd x1) (And.intro (cell_below hbd c1) (And.intro (cell_below hbd c2) (And.intro (cell_below hbd r1) (cell_below hbd r2))))
   clear HE1
   cases e2 with
   | false =>
    have HN : Hid (tieF s g t = [⟨6, t.src, t.bond⟩]) := by unfold Hid; rw [HN1.out, if_neg (by simp)]
    clear HN1
    go_wp2_with fail
    go_region_held3 (fun w' => w'.cell? ⟨w.heap.size, 1, none⟩ = some (.slice (some ⟨gb2, o2, none⟩) s.bonds.length cb) /\ w'.cell? ⟨wr.heap.size, 1, none⟩ = some (.int .i64 t.src) /\ w'.cell? ⟨wr.heap.size, 2, none⟩ = some (.int .i64 t.dst) /\ w'.cell? ⟨gb2, o2 + i * 5 + 1, none⟩ = some (.string d.src) /\ w'.cell? ⟨gb2, o2 + i * 5 + 2, none⟩ = some (.string d.dst))
     (first
       | exact hkeep
       | go_keep)
     (first
       | (go_at_call 119
          refine HK0.mono ?_
          clear HK0
          rintro e w4 ⟨rfl, hb3⟩
          have hb23 := hbd.trans (hb3.mono hbd.size)
          have hkeep := And.intro (cell_below hb23 x1) (And.intro (cell_below hb23 c1) (And.intro (cell_below hb23 c2) (And.intro (cell_below hb23 r1) (cell_below hb23 r2))))
          have HK1 := HE2.out w4 hb23)
       | (go_at_call 119
          refine HK1.mono ?_
          clear HK1
          rintro e w5 ⟨rfl, hb4⟩
          have hb24 := hb23.trans (hb4.mono hb23.size)
          have hkeep := And.intro (cell_below hb24 x1) (And.intro (cell_below hb24 c1) (And.intro (cell_below hb24 c2) (And.intro (cell_below hb24 r1) (cell_below hb24 r2))))))
    all_goals
     have hB5 : W1.heap.size <= (w5).heap.size := Nat.le_trans hB3 (hb24).size
     have HT5 := Lib.hid (HT3.out.last hB3 hb24)
     have hbk5 := ((hb24).block _ (geB HBK.out)).trans HBK.out
     clear HBK HT3 x1 c1 c2 r1 r2 hbd
     clear hb3 hb4 hb23 hb24 hkeep
     obtain ⟨outx, hcx⟩ := (HT5).out.c
     have htell := tell_any _ _ _ _ _ _ _ outx _ ⟨6, t.src, t.bond⟩ w5 hB5 hcx ⟨⟨by show (-9223372036854775808 : Int) <= 6; omega, by show (6 : Int) <= 9223372036854775807; omega⟩, HOKT.out.2.1, HOKT.out.1⟩ (by rw [List.length_append]; omega)
     have c0 := block_cell (hbk5) 0
     have c1 := block_cell (hbk5) 1
     clear hcx hbk5
     go_wp2_with fail
     refine htell.mono ?_
     clear htell c0 c1
     rintro e w6 ⟨rfl, ht⟩
     have HT9 := Lib.hid ((HT5).out.tell ht)
     clear ht HT5
     go_wp2_with fail
     go_roundw
     case rel => exact ⟨k + 1, by omega, by go_num, by unfold Hid; rw [HST.out, HN.out, <- List.append_assoc]; exact HT9.out⟩
     case measure => simp [intOf]; omega
   | true =>
    have HN : Hid (tieF s g t = []) := by unfold Hid; rw [HN1.out, if_pos ⟨rfl, rfl⟩]
    clear HN1
    go_wp2_with fail
    go_region_held3 (fun w' => w'.cell? ⟨w.heap.size, 1, none⟩ = some (.slice (some ⟨gb2, o2, none⟩) s.bonds.length cb) /\ w'.cell? ⟨wr.heap.size, 1, none⟩ = some (.int .i64 t.src) /\ w'.cell? ⟨wr.heap.size, 2, none⟩ = some (.int .i64 t.dst) /\ w'.cell? ⟨gb2, o2 + i * 5 + 1, none⟩ = some (.string d.src) /\ w'.cell? ⟨gb2, o2 + i * 5 + 2, none⟩ = some (.string d.dst))
     (first
       | exact hkeep
       | go_keep)
     (first
       | (go_at_call 119
          refine HK0.mono ?_
          clear HK0
          rintro e w4 ⟨rfl, hb3⟩
          have hb23 := hbd.trans (hb3.mono hbd.size)
          have hkeep := And.intro (cell_below hb23 x1) (And.intro (cell_below hb23 c1) (And.intro (cell_below hb23 c2) (And.intro (cell_below hb23 r1) (cell_below hb23 r2))))
          have HK1 := HE2.out w4 hb23)
       | (go_at_call 119
          refine HK1.mono ?_
          clear HK1
          rintro e w5 ⟨rfl, hb4⟩
          have hb24 := hb23.trans (hb4.mono hb23.size)
          have hkeep := And.intro (cell_below hb24 x1) (And.intro (cell_below hb24 c1) (And.intro (cell_below hb24 c2) (And.intro (cell_below hb24 r1) (cell_below hb24 r2))))))
    all_goals
     have hB5 : W1.heap.size <= (w5).heap.size := Nat.le_trans hB3 (hb24).size
     have HT5 := Lib.hid (HT3.out.last hB3 hb24)
     have hbk5 := ((hb24).block _ (geB HBK.out)).trans HBK.out
     clear HBK HT3 x1 c1 c2 r1 r2 hbd
     clear hb3 hb4 hb23 hb24 hkeep
     go_wp2_with fail
     go_roundw
     case rel => exact ⟨k + 1, by omega, by go_num, by unfold Hid; rw [HST.out, HN.out, List.append_nil]; exact HT5.out⟩
     case measure => simp [intOf]; omega
 obtain rfl : k = g.ties.length := by omega
 rw [List.take_length] at HT
 rw [<- HNF.out] at HT
 obtain ⟨fF, hfF⟩ : ∃ x, x = ofF s g := ⟨_, rfl⟩
 rw [<- hfF] at HT
 have HF := Lib.hid hfF
 obtain ⟨outr, hcr⟩ := HT.out.c
 have m4 := block_cell hcr.q 4
 obtain ⟨Ao, co, rfl, _, _⟩ := hcr.o.form
 have HC := Lib.hid hcr
 clear hlt hk hcr HNF hfF
 go_wp2_with fail
 go_ret
 exact ⟨_, rfl, by rw [<- HF.out]; exact Own.flat Flt.enc_len HC.out.k HC.out.o, hb1.trans (HT.out.b.mono hb1.size)⟩
theorem readySG_zero {s : Scm} {g : Grf} (h : readySG s g = 0) : (scmE s).2 = 0 /\ grfE g = 0 := by
 unfold readySG at h
 split at h
 ·rename_i h0; exact ⟨h0, h⟩
 rename_i h0; exact absurd h h0
def RetF (l : List Flt) (err : Int) (w : World) (e : Ending) (w' : World) : Prop := ∃ u, e = .returned (.tuple #[u, errV err]) /\ Sl fltL w' u l /\ Below w.heap.size w w'
/-! ### A node by itself -/
end Go.Proofs.YtngbbefpphinjaaGreatDoor
