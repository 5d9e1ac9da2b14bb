/- Parts: RfS, RsT. -/
import Derived.Test.YtdmpkgiijddcdaaGreatDoorMg18
import Derived.Test.YtdmpkgiijddcdaaGreatDoorMg07
import Derived.Test.YtdmpkgiijddcdaaGreatDoorMg02
import Derived.Deep.DeepCutAuto
/- Contracts of the references: kinref1.Prop, Record. No condition. -/
namespace Go.Proofs.YtdmpkgiijddcdaaGreatDoor
open Go Go.RowKit

set_option maxHeartbeats 1000000 in
theorem rprop_any (p : Prp) (w : World) (hp : p.ok) :
    Calls Tryz.prog 75 #[.agg #[.string p.name, .int .i64 p.v.ty, .int .i64 p.v.n, .string p.v.s]] w fun e w' => e = .returned (.int .i64 (prpE p)) ∧ Below w.heap.size w w' := by
  obtain ⟨nm, v⟩ := p
  obtain ⟨hn, hv⟩ := hp
  have hn' : Sm nm := hn
  have hv' : Sm v.s := hv.2.2
  have hb0 : Below w.heap.size w (w.alloc (.cells #[.string nm, .int .i64 v.ty, .int .i64 v.n, .string v.s] 62)) := (Below.refl _ _).alloc (Nat.le_refl _) _
  by_cases h : nameE nm = 0
  · have HE : Hid (prpE ⟨nm, v⟩ = valE v) := by unfold Hid prpE; rw [if_pos h]
    have hr := rname_any nm (w.alloc (.cells #[.string nm, .int .i64 v.ty, .int .i64 v.n, .string v.s] 62)) hn'
    rw [h] at hr
    clear h
    go_enter Tryz.func75, Tryz.ntmps75
    go_wp2_with fail
    refine hr.mono ?_
    clear hr
    rintro e w1 ⟨rfl, rfl⟩
    go_wp2_with fail
    refine (rvalue_any v _ hv').mono ?_
    rintro e w2 ⟨rfl, hb2⟩
    have hb3 := hb0.trans (hb2.mono hb0.size)
    generalize valE v = z at *
    go_wp2_with fail
    go_ret
    exact ⟨by rw [HE.out]; rfl, hb3⟩
  · have HE : Hid (prpE ⟨nm, v⟩ = 2) := by unfold Hid prpE; rw [if_neg h]; exact nameE_two h
    have hr := rname_any nm (w.alloc (.cells #[.string nm, .int .i64 v.ty, .int .i64 v.n, .string v.s] 62)) hn'
    rw [nameE_two h] at hr
    clear h
    go_enter Tryz.func75, Tryz.ntmps75
    go_wp2_with fail
    refine hr.mono ?_
    clear hr
    rintro e w1 ⟨rfl, rfl⟩
    go_wp2_with fail
    go_ret
    exact ⟨by rw [HE.out]; rfl, hb0⟩
set_option maxRecDepth 100000 in
set_option maxHeartbeats 4000000 in
theorem rrecord_any (r : List Prp) (v : Value) (w : World) (hv : Sl prpL w v r) :
    Calls Tryz.prog 22 #[v] w fun e w' => e = .returned (.int .i64 (recE r)) ∧ Below w.heap.size w w' := by
  obtain ⟨A, c, rfl, hlc, hcm⟩ := hv.form
  unfold maxLen at hcm
  have HF : Hid (recE r = if 8 < r.length then 4 else if firstE prpE r = 0 then (if chain (fun a b => ltS a.name b.name) r then 0 else 7) else firstE prpE r) := rfl
  by_cases h8 : 8 < r.length
  · have HE : Hid (recE r = 4) := by unfold Hid; rw [HF.out, if_pos h8]
    have h8' : (8 : Int) < (r.length : Int) := by omega
    clear hv HF
    go_enter Tryz.func22, Tryz.ntmps22
    go_wp2_with fail
    go_ret
    exact ⟨by rw [HE.out]; rfl, Below.refl _ _⟩
  have h8' : (r.length : Int) ≤ 8 := by omega
  go_enter Tryz.func22, Tryz.ntmps22
  go_wp2_with fail
  go_loopw [3] (fun i wr => ∃ k : Nat, k ≤ r.length ∧ i = .int .i64 k ∧ Below w.heap.size w wr ∧ Hid (∀ j x, j < k → r[j]? = some x → prpE x = 0)) (fun i _ => r.length - (intOf i).toNat)
  case atStart => exact ⟨0, Nat.zero_le _, rfl, Below.refl _ _, fun j x hj => absurd hj (Nat.not_lt_zero _)⟩
  case round =>
    obtain ⟨k, hk, rfl, hb, HA⟩ := hrel
    by_cases hlt : k < r.length
    · obtain ⟨d, hd⟩ : ∃ d, r[k]? = some d := ⟨_, List.getElem?_eq_getElem hlt⟩
      obtain ⟨b, o, rfl, hok, x0, x1, x2, x3⟩ := prp_at (hv.below hb) hd
      have hlt' : (k : Int) < (r.length : Int) := by omega
      have HD := Lib.hid hd
      have hp := rprop_any d wr hok
      have HFE : Hid (prpE d ≠ 0 → recE r = prpE d) := fun hne => by
        have := firstE_hit HA.out hd hne
        rw [HF.out, if_neg h8, if_neg (by rw [this]; exact hne), this]
      have HZ : Hid (prpE d = 0 → ∀ j x, j < k + 1 → r[j]? = some x → prpE x = 0) := fun h => zero_step HA.out hd h
      clear hd hok HA hv HF
      generalize prpE d = z at *
      go_wp2_with fail
      refine hp.mono ?_
      clear hp
      rintro e w2 ⟨rfl, hb2⟩
      have hb3 := hb.trans (hb2.mono hb.size)
      by_cases hz : z = 0
      · have HN := Lib.hid (HZ.out hz)
        subst hz
        clear HFE HZ
        go_wp2_with fail
        go_roundw
        case rel => exact ⟨k + 1, by omega, by go_num, hb3, HN⟩
        case measure => simp [intOf]; omega
      · have HE : Hid (recE r = z) := HFE.out hz
        have hzb : (z != 0) = true := by simpa using hz
        clear HFE HZ hz
        go_wp2_with fail
        go_ret
        exact ⟨by rw [HE.out]; rfl, hb3⟩
    · obtain rfl : k = r.length := by omega
      have HG : Hid (recE r = if chain (fun a b => ltS a.name b.name) r then 0 else 7) := by unfold Hid; rw [HF.out, if_neg h8, if_pos (firstE_none HA.out)]
      clear HF HA hk hlt
      obtain ⟨wo, rfl⟩ : ∃ wo : World, wo = wr := ⟨_, rfl⟩
      go_wp2_with fail
      go_loopw [5] (fun i wr => ∃ k : Nat, (k = 0 ∨ k < r.length) ∧ i = .int .i64 ((k : Int) + 1) ∧ Below w.heap.size w wr ∧ Hid (∀ i a b, i < k → r[i]? = some a → r[i + 1]? = some b → ltS a.name b.name = true)) (fun i _ => r.length + 1 - (intOf i).toNat)
      case atStart => exact ⟨0, Or.inl rfl, rfl, hb, fun j _ _ hj => absurd hj (Nat.not_lt_zero _)⟩
      case round =>
        obtain ⟨k, hk, rfl, hb, HA⟩ := hrel
        by_cases hlt : k + 1 < r.length
        · obtain ⟨d, hd⟩ : ∃ d, r[k]? = some d := ⟨_, List.getElem?_eq_getElem (by omega)⟩
          obtain ⟨d', hd'⟩ : ∃ d, r[k + 1]? = some d := ⟨_, List.getElem?_eq_getElem hlt⟩
          obtain ⟨b, o, rfl, hall⟩ := prp_all (hv.below hb) (by omega)
          obtain ⟨_, x0, _⟩ := hall _ _ hd
          obtain ⟨_, y0, _⟩ := hall _ _ hd'
          have hlt' : (k : Int) + 1 < (r.length : Int) := by omega
          have hlt2 : (k : Int) < (r.length : Int) := by omega
          have hk0 : (0 : Int) ≤ (k : Int) := by omega
          have hw1 : IntKind.i64.wrap ((k : Int) + 1 - 1) = (k : Int) := by rw [IntWalk.i64_in _ (by omega)]; omega
          have HD : Hid (r[k]? = some d) := hd
          have HD' : Hid (r[k + 1]? = some d') := hd'
          have hltS : ltS d.name d'.name = decide (0 < cmpS d'.name d.name) := by
            rw [ltS_cmp, cmpS_anti d'.name d.name]; congr 1; apply propext; omega
          have hL : Op.bytesLess d'.name.toList d.name.toList = decide (cmpS d'.name d.name < 0) := ltS_cmp d'.name d.name
          have hE : (d'.name.toList == d.name.toList) = decide (d'.name = d.name) := bytes_beq d'.name d.name
          have HNO : Hid (ltS d.name d'.name = false → recE r = 7) := fun h => by rw [HG.out, chain_not HD.out HD'.out h]; rfl
          have HYES : Hid (ltS d.name d'.name = true → ∀ i a b, i < k + 1 → r[i]? = some a → r[i + 1]? = some b → ltS a.name b.name = true) := fun h => chain_step HA.out HD.out HD'.out h
          clear hall hd hd' hv HG HA HD HD'
          rcases Int.lt_trichotomy (cmpS d'.name d.name) 0 with hc | hc | hc
          · have hqf : ¬ d'.name = d.name := fun e => by rw [cmpS_zero.2 e] at hc; omega
            have HE : Hid (recE r = 7) := HNO.out (by rw [hltS, decide_eq_false (by omega)])
            rw [decide_eq_true hc] at hL
            rw [decide_eq_false hqf] at hE
            have hE2 : ¬ d'.name.toList = d.name.toList := by rw [bytes_eq]; exact hqf
            clear HNO HYES hltS hc hqf
            go_wp2_with fail
            go_quiet (fail)
            go_wp2_with fail
            go_ret
            exact ⟨by rw [HE.out]; rfl, below_drewN hb _⟩
          · have hqf : d'.name = d.name := cmpS_zero.1 hc
            have HE : Hid (recE r = 7) := HNO.out (by rw [hltS, decide_eq_false (by omega)])
            rw [decide_eq_false (show ¬ cmpS d'.name d.name < 0 by omega)] at hL
            rw [decide_eq_true hqf] at hE
            have hE2 : d'.name.toList = d.name.toList := by rw [bytes_eq]; exact hqf
            clear HNO HYES hltS hc hqf
            go_wp2_with fail
            go_quiet (fail)
            go_wp2_with fail
            go_ret
            exact ⟨by rw [HE.out]; rfl, below_drewN hb _⟩
          · have hqf : ¬ d'.name = d.name := fun e => by rw [cmpS_zero.2 e] at hc; omega
            have HN := Lib.hid (HYES.out (by rw [hltS, decide_eq_true hc]))
            rw [decide_eq_false (show ¬ cmpS d'.name d.name < 0 by omega)] at hL
            rw [decide_eq_false hqf] at hE
            have hE2 : ¬ d'.name.toList = d.name.toList := by rw [bytes_eq]; exact hqf
            clear HNO HYES hltS hc hqf
            go_wp2_with fail
            go_quiet (fail)
            go_wp2_with fail
            go_roundw
            case rel => exact ⟨k + 1, by omega, by go_num, below_drewN hb _, HN⟩
            case measure => simp [intOf]; omega
        · have hlt' : (r.length : Int) ≤ (k : Int) + 1 := by omega
          have HE : Hid (recE r = 0) := by unfold Hid; rw [HG.out, chain_all (by omega) HA.out]; rfl
          clear hv HG HA
          go_wp2_with fail
          go_ret
          exact ⟨by rw [HE.out]; rfl, hb⟩

theorem prpT_info : (Tryz.prog.info? 62).map (fun i => (i.zero, i.size, i.bytes)) = some (some (.agg #[.string .empty, .int .i64 0, .int .i64 0, .string .empty]), 4, 48) := by kernel_rfl
theorem one_prpE (d : Prp) : ∀ u ∈ d.enc, u.oneCell' = true := fun u hu => by simp [Prp.enc] at hu; rcases hu with rfl | rfl | rfl | rfl <;> rfl
set_option maxRecDepth 100000 in
set_option maxHeartbeats 16000000 in
theorem runset_any (r : List Prp) (nm : ByteArray) (v : Value) (w : World) (hv : Sl prpL w v r) (hl : r.length ≤ 1000) :
    Calls Tryz.prog 29 #[v, .string nm] w fun e w' => ∃ u, e = .returned (.tuple #[u, .bool (decide ((rUnsL r nm).length < r.length))]) ∧ OwnP w' w.heap.size u (rUnsL r nm) ∧ Below w.heap.size w w' := by
  obtain ⟨i0, ei, ez, ez1, ez2⟩ := info_parts prpT_info
  obtain ⟨A, c, rfl, _, _⟩ := hv.form
  obtain ⟨B, hB⟩ : ∃ B, B = w.heap.size := ⟨_, rfl⟩
  go_enter Tryz.func29, Tryz.ntmps29
  go_wp2_with fail
  go_loopw [6, 7] (fun ov i wr => ∃ k : Nat, k ≤ r.length ∧ i = .int .i64 k ∧ Below B w wr ∧ Hid (Own wr B 62 4 ov (rUnsL (r.take k) nm).length ((rUnsL (r.take k) nm).flatMap Prp.enc))) (fun _ i _ => r.length - (intOf i).toNat)
  case atStart => exact ⟨0, Nat.zero_le _, rfl, Below.refl _ _, by rw [List.take_zero]; exact Own.nil _ _ _ _⟩
  case round =>
    obtain ⟨k, hk, rfl, hbr, HO⟩ := hrel
    have hbr' : Below w.heap.size w wr := by rw [← hB]; exact hbr
    by_cases hlt : k < r.length
    · obtain ⟨p, hp⟩ : ∃ d, r[k]? = some d := ⟨_, List.getElem?_eq_getElem hlt⟩
      have hlt' : (k : Int) < (r.length : Int) := by omega
      obtain ⟨gb, o, hA, hpok, q0, q1, q2, q3⟩ := prp_at (hv.below hbr') hp
      subst hA
      have hll : (rUnsL (r.take k) nm).length ≤ k := Nat.le_trans (List.length_filter_le _ _) (by rw [List.length_take]; omega)
      have HST : Hid (rUnsL (r.take (k + 1)) nm = rUnsL (r.take k) nm ++ if p.name = nm then [] else [p]) := by
        unfold Hid rUnsL
        rw [List.take_add_one, hp, List.filter_append]
        congr 1
        by_cases e : p.name = nm <;> simp [e]
      have hkb : (p.name.toList == nm.toList) = decide (p.name = nm) := bytes_beq _ _
      have hz := hbr'.size
      clear hp hpok
      by_cases hq : p.name = nm
      · rw [decide_eq_true hq] at hkb
        have hkc : p.name.toList = nm.toList := by rw [hq]
        have HN : Hid (rUnsL (r.take (k + 1)) nm = rUnsL (r.take k) nm) := by unfold Hid; rw [HST.out, if_pos hq, List.append_nil]
        clear hq HST
        go_wp2_with fail
        go_roundw
        case rel => exact ⟨k + 1, by omega, by go_num, hbr, by rw [HN.out]; exact HO⟩
        case measure => simp [intOf]; omega
      · rw [decide_eq_false hq] at hkb
        have hkc : ¬ p.name.toList = nm.toList := by rw [bytes_eq]; exact hq
        have HN : Hid (rUnsL (r.take (k + 1)) nm = rUnsL (r.take k) nm ++ [p]) := by unfold Hid; rw [HST.out, if_neg hq]
        clear hq HST
        -- one property more: 21, 26: the slots; p: the property; wr: the world before it is built; rUnsL (r.take k) nm: the row; HO: the Hid of its Own there; (by omega): B ≤ the world
        have hoa := (HO).out.alloc (.cells #[.string (p).name, .int .i64 (p).v.ty, .int .i64 (p).v.n, .string (p).v.s] 62)
        obtain ⟨nl, hnl⟩ : ∃ nl, (rUnsL (r.take k) nm).length = nl := ⟨_, rfl⟩
        have hnlb : nl ≤ 100000 := by omega
        rw [hnl] at hoa
        have HNL := Lib.hid hnl
        clear hnl
        obtain ⟨Ap, cp, hvp, hpc, hpm⟩ := hoa.form
        subst hvp
        have HNW : Hid (∀ j u, (Prp.enc (p))[j]? = some u → ((wr).alloc (.cells #[.string (p).name, .int .i64 (p).v.ty, .int .i64 (p).v.n, .string (p).v.s] 62)).cell? ⟨(wr).heap.size, j, none⟩ = some u) := fun j u hj => by
          rw [World.cell?_alloc_at _ _ _ _ rfl]; simpa [Prp.enc] using hj
        have HOA := Lib.hid hoa
        have HSB : Hid (B ≤ ((wr).alloc (.cells #[.string (p).name, .int .i64 (p).v.ty, .int .i64 (p).v.n, .string (p).v.s] 62)).heap.size) := Nat.le_trans ((by omega)) (Below.alloc (Below.refl _ _) (Nat.le_refl _) _).size
        clear hoa
        go_wp2_with (first
          | (at_builtin; refine wpList_append_q _ rfl (.tmp 21) (.tmp 26) _ rfl B 62 i0 (.agg #[.string .empty, .int .i64 0, .int .i64 0, .string .empty]) 4 48 Tryz.underlying59 ei ez ez1 ez2 rfl (by decide) (.slice Ap nl cp) nl ((rUnsL (r.take k) nm).flatMap Prp.enc) rfl HOA.out (some ⟨(wr).heap.size, 0, none⟩) 1 1 (Prp.enc (p)) rfl rfl (fun _ => ⟨_, rfl, fun j u hj => by rw [addr_add, Nat.zero_add]; exact HNW.out j u hj⟩) (one_prpE _) (by unfold maxLen; omega) (by omega) HSB.out ?_; intro v7 w7 hown7 hg7 hat7))
        have hB7 : Below B (wr) w7 := ((Below.refl B (wr)).alloc ((by omega)) _).grown hg7 HSB.out (fun k e => (HOA.out.lt k e).1)
        have ho7 : Own w7 B 62 4 v7 (rUnsL (r.take k) nm ++ [p]).length ((rUnsL (r.take k) nm ++ [p]).flatMap Prp.enc) := by
          have h := hown7
          rw [← HNL.out] at h
          rw [← flat_snoc (enc := Prp.enc), List.length_append]; exact h
        clear hg7 hat7 hown7 HOA HNW
        have HB7 := Lib.hid (hbr.trans hB7)
        have HO7 : Hid (Own w7 B 62 4 v7 (rUnsL (r.take (k + 1)) nm).length ((rUnsL (r.take (k + 1)) nm).flatMap Prp.enc)) := by unfold Hid; rw [HN.out]; exact ho7
        clear hB7 ho7
        go_roundw
        case rel => exact ⟨k + 1, by omega, by go_num, HB7.out, HO7⟩
        case measure => simp [intOf]; omega
    · obtain rfl : k = r.length := by omega
      have HT : Hid (rUnsL (r.take r.length) nm = rUnsL r nm) := by unfold Hid; rw [List.take_length]
      have HOK : Hid (∀ x ∈ rUnsL r nm, x.ok) := fun x hx => by
        obtain ⟨i, hi⟩ := List.mem_iff_getElem?.1 (List.mem_filter.1 hx).1
        obtain ⟨_, _, _, hok, _⟩ := prp_at hv hi
        exact hok
      rw [HT.out] at HO
      obtain ⟨ul, hul⟩ : ∃ x, rUnsL r nm = x := ⟨_, rfl⟩
      rw [hul] at HO HOK
      have HUL := Lib.hid hul
      clear hul HT
      obtain ⟨Ao, co, hvo, _, _⟩ := HO.out.form
      subst hvo
      by_cases hb : ul.length < r.length
      · have HD : Hid (decide (ul.length < r.length) = true) := decide_eq_true hb
        have hb' : (ul.length : Int) < (r.length : Int) := by omega
        clear hb
        go_wp2_with fail
        go_ret2
        exact ⟨_, by rw [HUL.out, HD.out]; rfl, by rw [HUL.out, ← hB]; exact ⟨HO.out, HOK.out⟩, hbr'⟩
      · have HD : Hid (decide (ul.length < r.length) = false) := decide_eq_false hb
        have hb' : ¬ (ul.length : Int) < (r.length : Int) := by omega
        clear hb
        go_wp2_with fail
        go_ret2
        exact ⟨_, by rw [HUL.out, HD.out]; rfl, by rw [HUL.out, ← hB]; exact ⟨HO.out, HOK.out⟩, hbr'⟩
theorem set_take {r : List Prp} {k : Nat} {q : Prp} (p : Prp) (h : r[k]? = some q) : (r.take (k + 1)).foldl (rSetStep p) ([], false) = rSetStep p ((r.take k).foldl (rSetStep p) ([], false)) q := by
  rw [List.take_add_one, h, List.foldl_append]; rfl
theorem set_yes {p q : Prp} {l : List Prp} (hq : q.name = p.name) : rSetStep p (l, true) q = (l, true) := by unfold rSetStep; simp [hq]
theorem set_no {p q : Prp} {l : List Prp} (hq : ¬ q.name = p.name) : rSetStep p (l, true) q = (l ++ [q], true) := by unfold rSetStep; simp [hq]
theorem set_low {p q : Prp} {l : List Prp} (h : cmpS q.name p.name < 0) : rSetStep p (l, false) q = (l ++ [q], false) ∧ ¬ q.name = p.name := by
  have h2 : ¬ q.name = p.name := fun e => by have := cmpS_zero.2 e; omega
  have h1 : decide (0 ≤ cmpS q.name p.name) = false := decide_eq_false (by omega)
  exact ⟨by unfold rSetStep; simp [h1, h2], h2⟩
theorem set_ge {p q : Prp} {l : List Prp} (h : ¬ cmpS q.name p.name < 0) : rSetStep p (l, false) q = if q.name = p.name then (l ++ [p], true) else (l ++ [p] ++ [q], true) := by
  have h1 : decide (0 ≤ cmpS q.name p.name) = true := decide_eq_true (by omega)
  unfold rSetStep
  by_cases h2 : q.name = p.name
  · have h3 := (cmpS_zero (a := p.name) (b := p.name)).2 rfl
    simp [h2, h3]
  · simp [h1, h2]
set_option maxRecDepth 100000 in
set_option maxHeartbeats 16000000 in
theorem rset_any (r : List Prp) (p : Prp) (v : Value) (w : World) (hv : Sl prpL w v r) (hp : p.ok) (hr : recE r = 0) :
    Calls Tryz.prog 26 #[v, .agg #[.string p.name, .int .i64 p.v.ty, .int .i64 p.v.n, .string p.v.s]] w fun e w' => ∃ u, e = .returned (.tuple #[u, .int .i64 (setE r p)]) ∧ OwnP w' w.heap.size u (setR r p) ∧ Below w.heap.size w w' := by
  obtain ⟨i0, ei, ez, ez1, ez2⟩ := info_parts prpT_info
  obtain ⟨A, c, rfl, _, _⟩ := hv.form
  have hl := (rec_ok hr).1
  have hb0 : Below w.heap.size w (w.alloc (.cells #[.string p.name, .int .i64 p.v.ty, .int .i64 p.v.n, .string p.v.s] 62)) := (Below.refl _ _).alloc (Nat.le_refl _) _
  have hbk := heap_alloc_new w (.cells #[.string p.name, .int .i64 p.v.ty, .int .i64 p.v.n, .string p.v.s] 62)
  have hx := rprop_any p (w.alloc (.cells #[.string p.name, .int .i64 p.v.ty, .int .i64 p.v.n, .string p.v.s] 62)) hp
  obtain ⟨p1, p2, p3⟩ := rset_parts hr p
  have P1 := Lib.hid p1
  have P2 := Lib.hid p2
  have P3 := Lib.hid p3
  have HRL : Hid (rSetL r p = let st := r.foldl (rSetStep p) ([], false); if st.2 then st.1 else st.1 ++ [p]) := rfl
  have x0 := block_cell hbk 0
  have x1 := block_cell hbk 1
  have x2 := block_cell hbk 2
  have x3 := block_cell hbk 3
  have HV := Lib.hid hv
  have HBK := Lib.hid hbk
  have HP := Lib.hid hp
  clear p1 p2 p3 hv hbk hp hr
  go_enter Tryz.func26, Tryz.ntmps26
  go_wp2_with fail
  refine hx.mono ?_
  clear hx x0 x1 x2 x3
  rintro e w1 ⟨rfl, hb1⟩
  have hB1 := hb0.trans (hb1.mono hb0.size)
  have HB := Lib.hid ((hb1.block _ (Array.getElem?_eq_some_iff.1 HBK.out).1).trans HBK.out)
  clear HBK hb1 hb0
  by_cases hz : prpE p = 0
  case neg =>
    have HE := Lib.hid (P1.out hz)
    have hzb : (prpE p != 0) = true := by simpa using hz
    clear hz
    go_wp2_with fail
    go_ret2
    exact ⟨_, by rw [HE.out.1]; rfl, by rw [HE.out.2]; exact OwnP.nil, hB1⟩
  have hzb : (prpE p != 0) = false := by simpa using hz
  have HZ := Lib.hid hz
  clear hz
  obtain ⟨B, hBe⟩ : ∃ B, B = w1.heap.size := ⟨_, rfl⟩
  go_wp2_with fail
  go_loopw [7, 8, 9] (fun ov bv i wr => ∃ (k : Nat) (l : List Prp) (b : Bool), k ≤ r.length ∧ i = .int .i64 k ∧ bv = .bool b ∧ l.length ≤ 2 * k ∧ Below B w1 wr ∧ Hid (Own wr B 62 4 ov l.length (l.flatMap Prp.enc)) ∧ Hid ((r.take k).foldl (rSetStep p) ([], false) = (l, b)) ∧ Hid (∀ x ∈ l, x.ok)) (fun _ _ i _ => r.length - (intOf i).toNat)
  case atStart => exact ⟨0, [], false, Nat.zero_le _, rfl, rfl, Nat.le_refl _, Below.refl _ _, Own.nil _ _ _ _, by rw [List.take_zero]; rfl, fun x hx => by simp at hx⟩
  case round =>
    obtain ⟨k, l, b, hk, rfl, rfl, hll, hbr, HO, HF, HK⟩ := hrel
    have hbr' : Below w1.heap.size w1 wr := by rw [← hBe]; exact hbr
    have hBr : B ≤ wr.heap.size := by rw [hBe]; exact hbr'.size
    have hbk := (hbr'.block _ (Array.getElem?_eq_some_iff.1 HB.out).1).trans HB.out
    have x0 := block_cell hbk 0
    have x1 := block_cell hbk 1
    have x2 := block_cell hbk 2
    have x3 := block_cell hbk 3
    by_cases hlt : k < r.length
    · obtain ⟨q, hq⟩ : ∃ d, r[k]? = some d := ⟨_, List.getElem?_eq_getElem hlt⟩
      have hlt' : (k : Int) < (r.length : Int) := by omega
      have hbw := hB1.trans (hbr'.mono hB1.size)
      obtain ⟨gb, o, hA, hqok, c0, c1, c2, c3⟩ := prp_at HV.out hq
      subst hA
      have q0 := cell_below hbw c0
      have q1 := cell_below hbw c1
      have q2 := cell_below hbw c2
      have q3 := cell_below hbw c3
      have HC := Lib.hid (And.intro c0 (And.intro c1 (And.intro c2 c3)))
      clear c0 c1 c2 c3
      have HFT : Hid ((r.take (k + 1)).foldl (rSetStep p) ([], false) = rSetStep p (l, b) q) := by unfold Hid; rw [set_take p hq, HF.out]
      have HQ := Lib.hid hqok
      have hkb : (q.name.toList == p.name.toList) = decide (q.name = p.name) := bytes_beq _ _
      have hL : Op.bytesLess q.name.toList p.name.toList = decide (cmpS q.name p.name < 0) := ltS_cmp q.name p.name
      clear hq hqok HF
      cases b with
      | true =>
        clear hL
        by_cases hn : q.name = p.name
        · have HN : Hid ((r.take (k + 1)).foldl (rSetStep p) ([], false) = (l, true)) := by unfold Hid; rw [HFT.out, set_yes hn]
          rw [decide_eq_true hn] at hkb
          have hkc : q.name.toList = p.name.toList := by rw [hn]
          clear hn HFT
          go_wp2_with fail
          go_quiet (fail)
          have hbz := below_drewN (Below.refl wr.heap.size wr) nq
          generalize wr.drewN nq = wz at *
          have x0 := cell_below hbz x0
          have x1 := cell_below hbz x1
          have x2 := cell_below hbz x2
          have x3 := cell_below hbz x3
          have q0 := cell_below hbz q0
          have q1 := cell_below hbz q1
          have q2 := cell_below hbz q2
          have q3 := cell_below hbz q3
          go_wp2_with fail
          go_quiet (fail)
          go_wp2_with fail
          go_roundw
          case rel => exact ⟨k + 1, l, true, by omega, by go_num, rfl, by omega, below_drewN (hbr.trans (hbz.mono hBr)) _, HO.out.below (below_drewN hbz _), HN, HK⟩
          case measure => simp [intOf]; omega
        · have HN : Hid ((r.take (k + 1)).foldl (rSetStep p) ([], false) = (l ++ [q], true)) := by unfold Hid; rw [HFT.out, set_no hn]
          rw [decide_eq_false hn] at hkb
          have hkc : ¬ q.name.toList = p.name.toList := by rw [bytes_eq]; exact hn
          clear hn HFT
          go_wp2_with fail
          go_quiet (fail)
          have hbz := below_drewN (Below.refl wr.heap.size wr) nq
          generalize wr.drewN nq = wz at *
          have x0 := cell_below hbz x0
          have x1 := cell_below hbz x1
          have x2 := cell_below hbz x2
          have x3 := cell_below hbz x3
          have q0 := cell_below hbz q0
          have q1 := cell_below hbz q1
          have q2 := cell_below hbz q2
          have q3 := cell_below hbz q3
          go_wp2_with fail
          go_quiet (fail)
          have hbn := below_drewN hbz nq
          have HO2 := Lib.hid (HO.out.below hbn)
          have hB2 : B ≤ (wz.drewN nq).heap.size := Nat.le_trans hBr hbn.size
          -- one property more: 45, 50: the slots; q: the property; wz.drewN nq: the world before it is built; l: the row; HO2: the Hid of its Own there; hB2: B ≤ the world
          have hoa := (HO2).out.alloc (.cells #[.string (q).name, .int .i64 (q).v.ty, .int .i64 (q).v.n, .string (q).v.s] 62)
          obtain ⟨nl, hnl⟩ : ∃ nl, (l).length = nl := ⟨_, rfl⟩
          have hnlb : nl ≤ 100000 := by omega
          rw [hnl] at hoa
          have HNL := Lib.hid hnl
          clear hnl
          obtain ⟨Ap, cp, hvp, hpc, hpm⟩ := hoa.form
          subst hvp
          have HNW : Hid (∀ j u, (Prp.enc (q))[j]? = some u → ((wz.drewN nq).alloc (.cells #[.string (q).name, .int .i64 (q).v.ty, .int .i64 (q).v.n, .string (q).v.s] 62)).cell? ⟨(wz.drewN nq).heap.size, j, none⟩ = some u) := fun j u hj => by
            rw [World.cell?_alloc_at _ _ _ _ rfl]; simpa [Prp.enc] using hj
          have HOA := Lib.hid hoa
          have HSB : Hid (B ≤ ((wz.drewN nq).alloc (.cells #[.string (q).name, .int .i64 (q).v.ty, .int .i64 (q).v.n, .string (q).v.s] 62)).heap.size) := Nat.le_trans (hB2) (Below.alloc (Below.refl _ _) (Nat.le_refl _) _).size
          clear hoa
          go_wp2_with (first
            | (at_builtin; refine wpList_append_q _ rfl (.tmp 45) (.tmp 50) _ rfl B 62 i0 (.agg #[.string .empty, .int .i64 0, .int .i64 0, .string .empty]) 4 48 Tryz.underlying59 ei ez ez1 ez2 rfl (by decide) (.slice Ap nl cp) nl ((l).flatMap Prp.enc) rfl HOA.out (some ⟨(wz.drewN nq).heap.size, 0, none⟩) 1 1 (Prp.enc (q)) rfl rfl (fun _ => ⟨_, rfl, fun j u hj => by rw [addr_add, Nat.zero_add]; exact HNW.out j u hj⟩) (one_prpE _) (by unfold maxLen; omega) (by omega) HSB.out ?_; intro v7 w7 hown7 hg7 hat7))
          have hB7 : Below B (wz.drewN nq) w7 := ((Below.refl B (wz.drewN nq)).alloc (hB2) _).grown hg7 HSB.out (fun k e => (HOA.out.lt k e).1)
          have ho7 : Own w7 B 62 4 v7 (l ++ [q]).length ((l ++ [q]).flatMap Prp.enc) := by
            have h := hown7
            rw [← HNL.out] at h
            rw [← flat_snoc (enc := Prp.enc), List.length_append]; exact h
          clear hg7 hat7 hown7 HOA HNW
          have hB8 := (hbr.trans (hbn.mono hBr)).trans hB7
          have HO7 := Lib.hid ho7
          have HK7 : Hid (∀ x ∈ l ++ [q], x.ok) := fun x hx => by
            rcases List.mem_append.1 hx with h | h
            · exact HK.out x h
            · simp at h; subst h; exact HQ.out
          clear hB7 ho7
          go_roundw
          case rel => exact ⟨k + 1, l ++ [q], true, by omega, by go_num, rfl, by simp; omega, hB8, HO7, HN, HK7⟩
          case measure => simp [intOf]; omega
      | false =>
        by_cases hlo : cmpS q.name p.name < 0
        · obtain ⟨e1, hn⟩ := set_low (l := l) hlo
          have HN : Hid ((r.take (k + 1)).foldl (rSetStep p) ([], false) = (l ++ [q], false)) := by unfold Hid; rw [HFT.out, e1]
          rw [decide_eq_true hlo] at hL
          rw [decide_eq_false hn] at hkb
          have hkc : ¬ q.name.toList = p.name.toList := by rw [bytes_eq]; exact hn
          clear hn HFT e1 hlo
          go_wp2_with fail
          go_quiet (fail)
          have hbz := below_drewN (Below.refl wr.heap.size wr) nq
          generalize wr.drewN nq = wz at *
          have x0 := cell_below hbz x0
          have x1 := cell_below hbz x1
          have x2 := cell_below hbz x2
          have x3 := cell_below hbz x3
          have q0 := cell_below hbz q0
          have q1 := cell_below hbz q1
          have q2 := cell_below hbz q2
          have q3 := cell_below hbz q3
          go_wp2_with fail
          go_quiet (fail)
          have hbn := below_drewN hbz nq
          have HO2 := Lib.hid (HO.out.below hbn)
          have hB2 : B ≤ (wz.drewN nq).heap.size := Nat.le_trans hBr hbn.size
          -- one property more: 45, 50: the slots; q: the property; wz.drewN nq: the world before it is built; l: the row; HO2: the Hid of its Own there; hB2: B ≤ the world
          have hoa := (HO2).out.alloc (.cells #[.string (q).name, .int .i64 (q).v.ty, .int .i64 (q).v.n, .string (q).v.s] 62)
          obtain ⟨nl, hnl⟩ : ∃ nl, (l).length = nl := ⟨_, rfl⟩
          have hnlb : nl ≤ 100000 := by omega
          rw [hnl] at hoa
          have HNL := Lib.hid hnl
          clear hnl
          obtain ⟨Ap, cp, hvp, hpc, hpm⟩ := hoa.form
          subst hvp
          have HNW : Hid (∀ j u, (Prp.enc (q))[j]? = some u → ((wz.drewN nq).alloc (.cells #[.string (q).name, .int .i64 (q).v.ty, .int .i64 (q).v.n, .string (q).v.s] 62)).cell? ⟨(wz.drewN nq).heap.size, j, none⟩ = some u) := fun j u hj => by
            rw [World.cell?_alloc_at _ _ _ _ rfl]; simpa [Prp.enc] using hj
          have HOA := Lib.hid hoa
          have HSB : Hid (B ≤ ((wz.drewN nq).alloc (.cells #[.string (q).name, .int .i64 (q).v.ty, .int .i64 (q).v.n, .string (q).v.s] 62)).heap.size) := Nat.le_trans (hB2) (Below.alloc (Below.refl _ _) (Nat.le_refl _) _).size
          clear hoa
          go_wp2_with (first
            | (at_builtin; refine wpList_append_q _ rfl (.tmp 45) (.tmp 50) _ rfl B 62 i0 (.agg #[.string .empty, .int .i64 0, .int .i64 0, .string .empty]) 4 48 Tryz.underlying59 ei ez ez1 ez2 rfl (by decide) (.slice Ap nl cp) nl ((l).flatMap Prp.enc) rfl HOA.out (some ⟨(wz.drewN nq).heap.size, 0, none⟩) 1 1 (Prp.enc (q)) rfl rfl (fun _ => ⟨_, rfl, fun j u hj => by rw [addr_add, Nat.zero_add]; exact HNW.out j u hj⟩) (one_prpE _) (by unfold maxLen; omega) (by omega) HSB.out ?_; intro v7 w7 hown7 hg7 hat7))
          have hB7 : Below B (wz.drewN nq) w7 := ((Below.refl B (wz.drewN nq)).alloc (hB2) _).grown hg7 HSB.out (fun k e => (HOA.out.lt k e).1)
          have ho7 : Own w7 B 62 4 v7 (l ++ [q]).length ((l ++ [q]).flatMap Prp.enc) := by
            have h := hown7
            rw [← HNL.out] at h
            rw [← flat_snoc (enc := Prp.enc), List.length_append]; exact h
          clear hg7 hat7 hown7 HOA HNW
          have hB8 := (hbr.trans (hbn.mono hBr)).trans hB7
          have HO7 := Lib.hid ho7
          have HK7 : Hid (∀ x ∈ l ++ [q], x.ok) := fun x hx => by
            rcases List.mem_append.1 hx with h | h
            · exact HK.out x h
            · simp at h; subst h; exact HQ.out
          clear hB7 ho7
          go_roundw
          case rel => exact ⟨k + 1, l ++ [q], false, by omega, by go_num, rfl, by simp; omega, hB8, HO7, HN, HK7⟩
          case measure => simp [intOf]; omega
        · have e1 := set_ge (l := l) hlo
          rw [decide_eq_false hlo] at hL
          clear hlo
          go_wp2_with fail
          go_quiet (fail)
          have hbz := below_drewN (Below.refl wr.heap.size wr) nq
          generalize wr.drewN nq = wz at *
          have x0 := cell_below hbz x0
          have x1 := cell_below hbz x1
          have x2 := cell_below hbz x2
          have x3 := cell_below hbz x3
          have q0 := cell_below hbz q0
          have q1 := cell_below hbz q1
          have q2 := cell_below hbz q2
          have q3 := cell_below hbz q3
          have HOz := Lib.hid (HO.out.below hbz)
          have hBz : B ≤ wz.heap.size := Nat.le_trans hBr hbz.size
          -- one property more: 33, 35: the slots; p: the property; wz: the world before it is built; l: the row; HOz: the Hid of its Own there; hBz: B ≤ the world
          have hoa := (HOz).out.alloc (.cells #[.string (p).name, .int .i64 (p).v.ty, .int .i64 (p).v.n, .string (p).v.s] 62)
          obtain ⟨nl, hnl⟩ : ∃ nl, (l).length = nl := ⟨_, rfl⟩
          have hnlb : nl ≤ 100000 := by omega
          rw [hnl] at hoa
          have HNL := Lib.hid hnl
          clear hnl
          obtain ⟨Ap, cp, hvp, hpc, hpm⟩ := hoa.form
          subst hvp
          have HNW : Hid (∀ j u, (Prp.enc (p))[j]? = some u → ((wz).alloc (.cells #[.string (p).name, .int .i64 (p).v.ty, .int .i64 (p).v.n, .string (p).v.s] 62)).cell? ⟨(wz).heap.size, j, none⟩ = some u) := fun j u hj => by
            rw [World.cell?_alloc_at _ _ _ _ rfl]; simpa [Prp.enc] using hj
          have HOA := Lib.hid hoa
          have HSB : Hid (B ≤ ((wz).alloc (.cells #[.string (p).name, .int .i64 (p).v.ty, .int .i64 (p).v.n, .string (p).v.s] 62)).heap.size) := Nat.le_trans (hBz) (Below.alloc (Below.refl _ _) (Nat.le_refl _) _).size
          clear hoa
          go_wp2_with (first
            | (at_builtin; refine wpList_append_q _ rfl (.tmp 33) (.tmp 35) _ rfl B 62 i0 (.agg #[.string .empty, .int .i64 0, .int .i64 0, .string .empty]) 4 48 Tryz.underlying59 ei ez ez1 ez2 rfl (by decide) (.slice Ap nl cp) nl ((l).flatMap Prp.enc) rfl HOA.out (some ⟨(wz).heap.size, 0, none⟩) 1 1 (Prp.enc (p)) rfl rfl (fun _ => ⟨_, rfl, fun j u hj => by rw [addr_add, Nat.zero_add]; exact HNW.out j u hj⟩) (one_prpE _) (by unfold maxLen; omega) (by omega) HSB.out ?_; intro v7 w7 hown7 hg7 hat7))
          have hB7 : Below B (wz) w7 := ((Below.refl B (wz)).alloc (hBz) _).grown hg7 HSB.out (fun k e => (HOA.out.lt k e).1)
          have ho7 : Own w7 B 62 4 v7 (l ++ [p]).length ((l ++ [p]).flatMap Prp.enc) := by
            have h := hown7
            rw [← HNL.out] at h
            rw [← flat_snoc (enc := Prp.enc), List.length_append]; exact h
          clear hg7 hat7 hown7 HOA HNW
          have hB8 := (hbr.trans (hbz.mono hBr)).trans hB7
          have hB8' : Below w1.heap.size w1 w7 := by rw [← hBe]; exact hB8
          have hbw7 := hB1.trans (hB8'.mono hB1.size)
          have hbk7 := (hB8'.block _ (Array.getElem?_eq_some_iff.1 HB.out).1).trans HB.out
          have HO8 := Lib.hid ho7
          have hBw : B ≤ w7.heap.size := by rw [hBe]; exact hB8'.size
          have HK8 : Hid (∀ x ∈ l ++ [p], x.ok) := fun x hx => by
            rcases List.mem_append.1 hx with h | h
            · exact HK.out x h
            · simp at h; subst h; exact HP.out
          have hll8 : (l ++ [p]).length ≤ 2 * k + 1 := by simp; omega
          clear hB7 ho7 x0 x1 x2 x3 q0 q1 q2 q3 hbz HO HOz
          have x0 := block_cell hbk7 0
          have x1 := block_cell hbk7 1
          have x2 := block_cell hbk7 2
          have x3 := block_cell hbk7 3
          have q0 := cell_below hbw7 HC.out.1
          have q1 := cell_below hbw7 HC.out.2.1
          have q2 := cell_below hbw7 HC.out.2.2.1
          have q3 := cell_below hbw7 HC.out.2.2.2
          by_cases hn : q.name = p.name
          · have HN : Hid ((r.take (k + 1)).foldl (rSetStep p) ([], false) = (l ++ [p], true)) := by unfold Hid; rw [HFT.out, e1, if_pos hn]
            rw [decide_eq_true hn] at hkb
            have hkc : q.name.toList = p.name.toList := by rw [hn]
            clear hn HFT e1
            go_quiet (fail)
            go_wp2_with fail
            go_roundw
            case rel => exact ⟨k + 1, l ++ [p], true, by omega, by go_num, rfl, by omega, below_drewN hB8 _, HO8.out.below (below_drewN (Below.refl _ _) _), HN, HK8⟩
            case measure => simp [intOf]; omega
          · have HN : Hid ((r.take (k + 1)).foldl (rSetStep p) ([], false) = (l ++ [p] ++ [q], true)) := by unfold Hid; rw [HFT.out, e1, if_neg hn]
            rw [decide_eq_false hn] at hkb
            have hkc : ¬ q.name.toList = p.name.toList := by rw [bytes_eq]; exact hn
            clear hn HFT e1
            go_quiet (fail)
            generalize hlp : l ++ [p] = lp at *
            have hbn := below_drewN (Below.refl w7.heap.size w7) nq
            have HO2 := Lib.hid (HO8.out.below hbn)
            have hB2 : B ≤ (w7.drewN nq).heap.size := Nat.le_trans hBw hbn.size
            have hB9 := hB8.trans (hbn.mono hBw)
            have q0 := cell_below hbn q0
            have q1 := cell_below hbn q1
            have q2 := cell_below hbn q2
            have q3 := cell_below hbn q3
            clear HO8 HNL HSB hbn hB8 hB8' hbw7 hbk7
            generalize w7.drewN nq = wq at *
            -- one property more: 45, 50: the slots; q: the property; wq: the world before it is built; lp: the row; HO2: the Hid of its Own there; hB2: B ≤ the world
            have hoa := (HO2).out.alloc (.cells #[.string (q).name, .int .i64 (q).v.ty, .int .i64 (q).v.n, .string (q).v.s] 62)
            obtain ⟨nl, hnl⟩ : ∃ nl, (lp).length = nl := ⟨_, rfl⟩
            have hnlb : nl ≤ 100000 := by omega
            rw [hnl] at hoa
            have HNL := Lib.hid hnl
            clear hnl
            obtain ⟨Ap, cp, hvp, hpc, hpm⟩ := hoa.form
            subst hvp
            have HNW : Hid (∀ j u, (Prp.enc (q))[j]? = some u → ((wq).alloc (.cells #[.string (q).name, .int .i64 (q).v.ty, .int .i64 (q).v.n, .string (q).v.s] 62)).cell? ⟨(wq).heap.size, j, none⟩ = some u) := fun j u hj => by
              rw [World.cell?_alloc_at _ _ _ _ rfl]; simpa [Prp.enc] using hj
            have HOA := Lib.hid hoa
            have HSB : Hid (B ≤ ((wq).alloc (.cells #[.string (q).name, .int .i64 (q).v.ty, .int .i64 (q).v.n, .string (q).v.s] 62)).heap.size) := Nat.le_trans (hB2) (Below.alloc (Below.refl _ _) (Nat.le_refl _) _).size
            clear hoa
            go_wp2_with (first
              | (at_builtin; refine wpList_append_q _ rfl (.tmp 45) (.tmp 50) _ rfl B 62 i0 (.agg #[.string .empty, .int .i64 0, .int .i64 0, .string .empty]) 4 48 Tryz.underlying59 ei ez ez1 ez2 rfl (by decide) (.slice Ap nl cp) nl ((lp).flatMap Prp.enc) rfl HOA.out (some ⟨(wq).heap.size, 0, none⟩) 1 1 (Prp.enc (q)) rfl rfl (fun _ => ⟨_, rfl, fun j u hj => by rw [addr_add, Nat.zero_add]; exact HNW.out j u hj⟩) (one_prpE _) (by unfold maxLen; omega) (by omega) HSB.out ?_; intro v7 w7 hown7 hg7 hat7))
            have hB7 : Below B (wq) w7 := ((Below.refl B (wq)).alloc (hB2) _).grown hg7 HSB.out (fun k e => (HOA.out.lt k e).1)
            have ho7 : Own w7 B 62 4 v7 (lp ++ [q]).length ((lp ++ [q]).flatMap Prp.enc) := by
              have h := hown7
              rw [← HNL.out] at h
              rw [← flat_snoc (enc := Prp.enc), List.length_append]; exact h
            clear hg7 hat7 hown7 HOA HNW
            have hB10 := hB9.trans hB7
            have HO9 := Lib.hid ho7
            have HK9 : Hid (∀ x ∈ lp ++ [q], x.ok) := fun x hx => by
              rcases List.mem_append.1 hx with h | h
              · exact HK8.out x h
              · simp at h; subst h; exact HQ.out
            have hll9 : (lp ++ [q]).length ≤ 2 * (k + 1) := by simp; omega
            clear hB7 ho7
            go_roundw
            case rel => exact ⟨k + 1, lp ++ [q], true, by omega, by go_num, rfl, hll9, hB10, HO9, HN, HK9⟩
            case measure => simp [intOf]; omega
    · obtain rfl : k = r.length := by omega
      have hbw := hB1.trans (hbr'.mono hB1.size)
      have HFR : Hid (r.foldl (rSetStep p) ([], false) = (l, b)) := by have := HF.out; rw [List.take_length] at this; exact this
      cases b with
      | true =>
        have HS : Hid (rSetL r p = l) := by unfold Hid; rw [HRL.out, HFR.out]; rfl
        obtain ⟨Ap, cp, hvp, _, _⟩ := HO.out.form
        subst hvp
        -- how many there are: l: the list; l.length: its length; HO.out: its Own; hbw: above w; wr: the world; HK.out: each one is right
        by_cases hb8 : 8 < l.length
        · have HE := Lib.hid (P2.out HZ.out (by rw [HS.out]; exact hb8))
          have hb8' : (8 : Int) < ((l.length : Nat) : Int) := by omega
          clear hb8
          go_wp2_with fail
          go_ret2
          exact ⟨_, by rw [HE.out.1]; rfl, by rw [HE.out.2]; exact OwnP.nil, hbw⟩
        · have HE := Lib.hid (P3.out HZ.out (by rw [HS.out]; exact hb8))
          have hb8' : ¬ (8 : Int) < ((l.length : Nat) : Int) := by omega
          clear hb8
          go_wp2_with fail
          go_ret2
          exact ⟨_, by rw [HE.out.1]; rfl, by rw [HE.out.2, HS.out]; exact ⟨(HO.out).mono (by rw [hBe]; exact hB1.size), HK.out⟩, hbw⟩
      | false =>
        have HS : Hid (rSetL r p = l ++ [p]) := by unfold Hid; rw [HRL.out, HFR.out]; rfl
        -- one property more: 54, 56: the slots; p: the property; wr: the world before it is built; l: the row; HO: the Hid of its Own there; hBr: B ≤ the world
        have hoa := (HO).out.alloc (.cells #[.string (p).name, .int .i64 (p).v.ty, .int .i64 (p).v.n, .string (p).v.s] 62)
        obtain ⟨nl, hnl⟩ : ∃ nl, (l).length = nl := ⟨_, rfl⟩
        have hnlb : nl ≤ 100000 := by omega
        rw [hnl] at hoa
        have HNL := Lib.hid hnl
        clear hnl
        obtain ⟨Ap, cp, hvp, hpc, hpm⟩ := hoa.form
        subst hvp
        have HNW : Hid (∀ j u, (Prp.enc (p))[j]? = some u → ((wr).alloc (.cells #[.string (p).name, .int .i64 (p).v.ty, .int .i64 (p).v.n, .string (p).v.s] 62)).cell? ⟨(wr).heap.size, j, none⟩ = some u) := fun j u hj => by
          rw [World.cell?_alloc_at _ _ _ _ rfl]; simpa [Prp.enc] using hj
        have HOA := Lib.hid hoa
        have HSB : Hid (B ≤ ((wr).alloc (.cells #[.string (p).name, .int .i64 (p).v.ty, .int .i64 (p).v.n, .string (p).v.s] 62)).heap.size) := Nat.le_trans (hBr) (Below.alloc (Below.refl _ _) (Nat.le_refl _) _).size
        clear hoa
        go_upto_region 16 with (first
          | (at_builtin; refine wpList_append_q _ rfl (.tmp 54) (.tmp 56) _ rfl B 62 i0 (.agg #[.string .empty, .int .i64 0, .int .i64 0, .string .empty]) 4 48 Tryz.underlying59 ei ez ez1 ez2 rfl (by decide) (.slice Ap nl cp) nl ((l).flatMap Prp.enc) rfl HOA.out (some ⟨(wr).heap.size, 0, none⟩) 1 1 (Prp.enc (p)) rfl rfl (fun _ => ⟨_, rfl, fun j u hj => by rw [addr_add, Nat.zero_add]; exact HNW.out j u hj⟩) (one_prpE _) (by unfold maxLen; omega) (by omega) HSB.out ?_; intro v7 w7 hown7 hg7 hat7))
        have HNL9 := HNL
        have hB7 : Below B (wr) w7 := ((Below.refl B (wr)).alloc (hBr) _).grown hg7 HSB.out (fun k e => (HOA.out.lt k e).1)
        have ho7 : Own w7 B 62 4 v7 (l ++ [p]).length ((l ++ [p]).flatMap Prp.enc) := by
          have h := hown7
          rw [← HNL.out] at h
          rw [← flat_snoc (enc := Prp.enc), List.length_append]; exact h
        clear hg7 hat7 hown7 HOA HNW
        have hB8' : Below w1.heap.size w1 w7 := by rw [← hBe]; exact hbr.trans hB7
        have hbw7 := hB1.trans (hB8'.mono hB1.size)
        have HO8 := Lib.hid ho7
        have HK8 : Hid (∀ x ∈ l ++ [p], x.ok) := fun x hx => by
          rcases List.mem_append.1 hx with h | h
          · exact HK.out x h
          · simp at h; subst h; exact HP.out
        have hnl : (l ++ [p]).length = nl + 1 := by rw [List.length_append, HNL9.out]; rfl
        rw [hnl] at HO8
        have HS9 : Hid ((rSetL r p).length = nl + 1) := by unfold Hid; rw [HS.out]; exact hnl
        obtain ⟨A7, c7, hv7, _, _⟩ := HO8.out.form
        subst hv7
        have HOF : Hid (∀ W, Own W B 62 4 (.slice A7 (nl + 1) c7) (nl + 1) ((l ++ [p]).flatMap Prp.enc) → OwnP W w.heap.size (.slice A7 (nl + 1) c7) (l ++ [p])) := fun W h => by
          rw [← hnl] at h ⊢
          exact ⟨h.mono (by rw [hBe]; exact hB1.size), HK8.out⟩
        clear hnl
        by_cases hb8 : 8 < nl + 1
        · have HE := Lib.hid (P2.out HZ.out (by rw [HS9.out]; exact hb8))
          have hb8' : (8 : Int) < (nl : Int) + 1 := by omega
          clear hb8
          go_wp2_with fail
          go_ret2
          exact ⟨_, by rw [HE.out.1]; rfl, by rw [HE.out.2]; exact OwnP.nil, hbw7⟩
        · have HE := Lib.hid (P3.out HZ.out (by rw [HS9.out]; exact hb8))
          have hb8' : ¬ (8 : Int) < (nl : Int) + 1 := by omega
          clear hb8
          go_wp2_with fail
          go_ret2
          exact ⟨_, by rw [HE.out.1]; rfl, by rw [HE.out.2, HS.out]; exact HOF.out _ HO8.out, hbw7⟩
end Go.Proofs.YtdmpkgiijddcdaaGreatDoor
