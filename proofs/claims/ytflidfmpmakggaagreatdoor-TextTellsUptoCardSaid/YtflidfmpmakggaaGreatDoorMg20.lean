/- Parts: WrA, TpB. -/
import Derived.Test.YtflidfmpmakggaaGreatDoorMg19
import Derived.Test.YtflidfmpmakggaaGreatDoorMg16
import Derived.RangeFuncCalls
/- Contract of the reference: kinref2.word: a text up to its first blank. Condition: the text is not too long. -/
namespace Go.Proofs.YtflidfmpmakggaaGreatDoor
open Go Go.RowKit


set_option maxRecDepth 100000 in
set_option maxHeartbeats 4000000 in
theorem rword_any (s : ByteArray) (hs : Sm s) (w : World) :
    Calls Tryz.prog 53 #[.string s] w fun e w' => e = .returned (.tuple #[.string (bs (Lib.cut s.data.toList [32]).1), .string (bs (Lib.cut s.data.toList [32]).2.1), .bool (Lib.cut s.data.toList [32]).2.2]) ∧ Below w.heap.size w w' := by
  have hle := len_size s
  have HLE := Lib.hid hle
  unfold Sm at hs
  clear hle
  go_enter Tryz.func53, Tryz.ntmps53
  go_wp2_with fail
  go_loop [5] (fun j => ∃ n : Nat, n ≤ s.size ∧ j = .int .i64 n ∧ Hid (noB 32 (s.data.toList.take n))) (fun j => s.size - (intOf j).toNat)
  case atStart => exact ⟨0, Nat.zero_le _, rfl, fun y hy => by simp at hy⟩
  case round =>
    obtain ⟨n, hn, rfl, HNB⟩ := hrel
    by_cases hnl : n < s.size
    · have hnl' : (n : Int) < (s.size : Int) := by omega
      have HYB := Lib.hid (bytes_at s n hnl)
      by_cases h32 : s[n] = 32
      · have c1 : ((s[n].toNat : Int) == 32) = true := by rw [h32]; rfl
        have c2 : (s[n].toNat : Int) = 32 := by rw [h32]; rfl
        have HCT : Hid (Lib.cut s.data.toList [32] = (s.data.toList.take n, s.data.toList.drop (n + 1), true)) := cut_at HNB.out (by rw [HYB.out, h32])
        have HX1 : Hid (s.extract 0 n = bs (s.data.toList.take n)) := by unfold Hid; rw [ext_list, List.drop_zero, Nat.sub_zero]
        have HX2 : Hid (s.extract (n + 1) s.size = bs (s.data.toList.drop (n + 1))) := by
          unfold Hid; rw [ext_list, List.take_of_length_le (by rw [List.length_drop, HLE.out]; exact Nat.le_refl _)]
        have w1 : IntKind.i64.wrap ((n : Int) + 1) = (n : Int) + 1 := IntWalk.i64_in _ (by omega)
        have a1 : (0 : Int) ≤ (n : Int) := by omega
        have a3 : (0 : Int) ≤ (n : Int) + 1 := by omega
        have a4 : ((n : Int) + 1).toNat = n + 1 := by omega
        have a5 : (n : Int) + 1 ≤ (s.size : Int) := by omega
        have a6 : (n : Int) ≤ (s.size : Int) := by omega
        clear h32 HNB HYB
        go_wp2_with fail
        go_quiet (fail)
        go_wp2_with fail
        exact bodyPost_ret (v := .tuple #[.string (s.extract 0 n), .string (s.extract (n + 1) s.size), .bool true]) (by simp [results, Tryz.results53, go_sem]) rfl ⟨by rw [HCT.out, HX1.out, HX2.out], below_drewN (Below.refl _ _) _⟩
      · have c2 : ¬ (s[n].toNat : Int) = 32 := fun e => h32 (UInt8.toNat_inj.1 (show s[n].toNat = 32 by omega))
        have c1 : ((s[n].toNat : Int) == 32) = false := beq_eq_false_iff_ne.2 c2
        have HNN : Hid (noB 32 (s.data.toList.take (n + 1))) := noB_step HNB.out HYB.out h32
        clear h32
        go_wp2_with fail
        go_round
        case rel => exact ⟨n + 1, by omega, by go_num, HNN⟩
        case measure => simp [intOf]; omega
    · obtain rfl : n = s.size := by omega
      have HCT : Hid (Lib.cut s.data.toList [32] = (s.data.toList, [], false)) := cut_none (by rw [HLE.out]; exact HNB.out)
      go_wp2_with fail
      exact bodyPost_ret (v := .tuple #[.string s, .string ⟨#[]⟩, .bool false]) (by simp [results, Tryz.results53, go_sem]) rfl ⟨by rw [HCT.out, bs_of]; rfl, Below.refl _ _⟩
open Go Go.RowKit Go.Shelf

attribute [local go_sem] Oper.semAt_some
theorem nod_info3 : (Tryz.prog.info? 98).map (fun i => (i.zero, i.size, i.bytes)) = some (some (.agg #[.int .i64 0, .string .empty, .slice none 0 0]), 3, 48) := by kernel_rfl
theorem tie_info3 : (Tryz.prog.info? 102).map (fun i => (i.zero, i.size, i.bytes)) = some (some (.agg #[.string .empty, .int .i64 0, .int .i64 0]), 3, 32) := by kernel_rfl
set_option maxHeartbeats 1000000 in
theorem lines_in (n : Nat) (s : ByteArray) (w : World) :
    CallsIn Fence.wide n Tryz.prog 56 #[.string s] w fun e w' => e = .returned (.func (.func 104) #[] #[.pointer (some ⟨w.heap.size, 0, none⟩)]) ∧ w' = w.alloc (.cells #[.string s] 9) := by
  refine callsIn_of_wp Tryz.func56 rfl trivial ?_ rfl
  simp only [Tryz.ntmps56, List.size_toArray, List.length_cons, List.length_nil, Nat.reduceAdd, Nat.reduceSub, Array.replicate_succ, Array.replicate_zero, List.push_toArray, List.append_toArray, List.nil_append, List.cons_append]
  gi_wp2
  go_ret
  exact ⟨rfl, rfl⟩
theorem alloc_up {W : World} {o o' : Obj} {k : Nat} (h : W.heap[k]? = some o) : (W.alloc o').heap[k]? = some o :=
  (((Below.refl W.heap.size W).alloc (Nat.le_refl _) o').block _ (Array.getElem?_eq_some_iff.1 h).1).trans h
theorem six_new (w : World) (o0 o1 o2 o3 o4 o5 : Obj) :
    let W := (((((w.alloc o0).alloc o1).alloc o2).alloc o3).alloc o4).alloc o5
    W.heap[w.heap.size]? = some o0 ∧ W.heap[w.heap.size + 1]? = some o1 ∧ W.heap[w.heap.size + 1 + 1]? = some o2 ∧ W.heap[w.heap.size + 1 + 1 + 1]? = some o3 ∧ W.heap[w.heap.size + 1 + 1 + 1 + 1]? = some o4 ∧ W.heap[w.heap.size + 1 + 1 + 1 + 1 + 1]? = some o5 ∧ Below w.heap.size w W ∧ W.heap.size = w.heap.size + 6 := by
  intro W
  have b0 := (Below.refl w.heap.size w).alloc (Nat.le_refl _) o0
  have b1 := b0.alloc b0.size o1
  have b2 := b1.alloc b1.size o2
  have b3 := b2.alloc b2.size o3
  have b4 := b3.alloc b3.size o4
  have b5 := b4.alloc b4.size o5
  refine ⟨?_, ?_, ?_, ?_, ?_, ?_, b5, by simp [W]⟩
  · exact alloc_up (alloc_up (alloc_up (alloc_up (alloc_up (heap_alloc_new _ _)))))
  · exact alloc_up (alloc_up (alloc_up (alloc_up (heap_at_new _ _ _ (by simp)))))
  · exact alloc_up (alloc_up (alloc_up (heap_at_new _ _ _ (by simp))))
  · exact alloc_up (alloc_up (heap_at_new _ _ _ (by simp)))
  · exact alloc_up (heap_at_new _ _ _ (by simp))
  · exact heap_at_new _ _ _ (by simp)
set_option maxRecDepth 100000 in
set_option maxHeartbeats 16000000 in
theorem tparse_any (s : ByteArray) (hs : Sm s) (w : World) (hT : TxOk w) :
    Calls Tryz.prog 12 #[.string s] w fun e w' => ∃ vn vt, e = .returned (.tuple #[.agg #[vn, vt], .int .i64 (readTN s.data.toList : Nat), errV (readTE s.data.toList)]) ∧ GrfR w' vn vt (readTV s.data.toList) ∧ Below w.heap.size w w' := by
  have HT := Lib.hid hT
  have hle := len_size s
  obtain ⟨l, hl⟩ : ∃ l, l = s.data.toList := ⟨_, rfl⟩
  rw [← hl]
  refine (callsIn_wide (n := 5)).1 ?_
  refine callsIn_of_wp_marks Tryz.func12 rfl trivial ?_ rfl
  simp only [Tryz.ntmps12, List.size_toArray, List.length_cons, List.length_nil, Nat.reduceAdd, Nat.reduceSub, Array.replicate_succ, Array.replicate_zero, List.push_toArray, List.append_toArray, List.nil_append, List.cons_append]
  gi_wp2_with (refine ⟨trivial, ?_⟩; gi_at_call 56; refine (lines_in _ _ _).mono ?_; rintro e w' ⟨rfl, rfl⟩)
  obtain ⟨q0, q1, q2, q3, q4, q5, hBr, hsz⟩ := six_new w (.cells #[.slice none 0 0, .slice none 0 0] 25) (.cells #[.int .i64 0] 3) (.cells #[.nilIface] 29) (.cells #[.slice none 0 0, .slice none 0 0] 25) (.cells #[.int .i64 0] 3) (.cells #[.string s] 9)
  generalize ((((((w.alloc (.cells #[.slice none 0 0, .slice none 0 0] 25)).alloc (.cells #[.int .i64 0] 3)).alloc (.cells #[.nilIface] 29)).alloc (.cells #[.slice none 0 0, .slice none 0 0] 25)).alloc (.cells #[.int .i64 0] 3)).alloc (.cells #[.string s] 9)) = W0 at *
  have hsl : s = bs l := by rw [hl, bs_of]
  have hll : l.length ≤ 1048576 := by rw [hl, hle]; exact hs
  have HS0 := Lib.hid hsz
  have hR0 : Rd w.heap.size ⟨[], []⟩ none none 0 0 [] [] W0 := ⟨q0, q1, q2, q3, q4, ⟨_, q5⟩, Own.nil _ _ _ _, rfl, Own.nil _ _ _ _, (fun _ h => by cases h), (fun _ => rfl), by rw [hsz]; omega⟩
  have hseq := lines1_in 4 (by omega) w.heap.size (w.heap.size + 1 + 1 + 1 + 1 + 1) (by omega) l hll W0 (by rw [← hsl]; exact q5) hBr.size
  clear q0 q1 q2 q3 q4 q5 hle hT
  have HSEQ := Lib.hid hseq
  have HR0 := Lib.hid hR0
  have HL := Lib.hid hl
  have HB0 := Lib.hid hBr
  clear hseq hR0 hsz hsl hl
  refine wpIn_rangeFunc_stirs rfl (by decide) (gf := 104) (lb := #[.pointer (some ⟨w.heap.size + 1 + 1 + 1 + 1 + 1, 0, none⟩)]) rfl trivial (enters_of Tryz.func104 (by kernel_rfl) rfl) HSEQ.out (Below.refl _ _)
    (fun h k => ⟨h.1.trans k.1, k.2.trans h.2⟩)
    (fun W k o o' hk h h1 h2 => ⟨belowK_b hBr.size W k o o' hk h h1 h2, World.putObj_heap_other (by rw [HS0.out] at hk; omega)⟩)
    (fun X Y hs k o hk h h1 => by
      rcases hs with ⟨m, rfl⟩ | ⟨v, m, rfl⟩
      · exact h
      · exact setCell_other h (by rw [HS0.out] at hk; omega) _ _)
    (fun _ => rfl)
    (fun (pre : List Ln) W => (∃ g An At cn ct xs, Rd w.heap.size g An At cn ct xs (lnL pre) W ∧ g.nodes.length + g.ties.length ≤ pre.length) ∧ Below w.heap.size w W)
    (fun c (pre : List Ln) W => c = .ret ∧ Rx w.heap.size (lnL pre) W ∧ Below w.heap.size w W)
    (fun pre X Y row hs hg hr => ⟨(by obtain ⟨g, An, At, cn, ct, xs, h, hc⟩ := hs.1; exact ⟨g, An, At, cn, ct, xs, h.all (.grown hg fun r e => (hr r e).2), hc⟩), hs.2.grown hg hs.2.size (fun k e => by have := (hr k e).1; rw [HS0.out] at this; omega)⟩)
    (fun pre X Y hs hr => ⟨(by obtain ⟨g, An, At, cn, ct, xs, h, hc⟩ := hs.1; exact ⟨g, An, At, cn, ct, xs, h.step hr, hc⟩), (by
      rcases hr with ⟨m, rfl⟩ | ⟨v, m, rfl⟩
      · exact below_drewN hs.2 m
      · exact below_drewN (hs.2.setCell (p := ⟨w.heap.size + 1 + 1 + 1 + 1 + 1, 0, none⟩) (by show w.heap.size ≤ w.heap.size + 1 + 1 + 1 + 1 + 1; omega) v) m)⟩)
    (fun c pre X Y row hs hg hr => ⟨hs.1, hs.2.1.all (.grown hg fun r e => (hr r e).2), hs.2.2.grown hg hs.2.2.size (fun k e => by have := (hr k e).1; rw [HS0.out] at this; omega)⟩)
    (fun c pre X Y hs hr => ⟨hs.1, hs.2.1.step hr, (by
      rcases hr with ⟨m, rfl⟩ | ⟨v, m, rfl⟩
      · exact below_drewN hs.2.2 m
      · exact below_drewN (hs.2.2.setCell (p := ⟨w.heap.size + 1 + 1 + 1 + 1 + 1, 0, none⟩) (by show w.heap.size ≤ w.heap.size + 1 + 1 + 1 + 1 + 1; omega) v) m)⟩)
    ⟨⟨_, _, _, _, _, _, HR0.out, Nat.le_refl _⟩, hBr⟩
    ?a1 ?assign ?body ?done ?stop
  case assign =>
    intro lr x W K hK
    gi_wp2
    exact hK
  case body =>
    rintro lr pre x W hsp ⟨⟨g, An, At, cn, ct, xs, hR, hcnt⟩, hB⟩
    have HT1 := Lib.hid (HT.out.below hB)
    have HLL : Hid (l.length ≤ 1048576) := hll
    have hpl : pre.length + 1 ≤ 1048576 := by
      have h1 := hsp.length_le
      have h2 := lines_len l
      rw [lnL_len, List.length_append] at h1
      simp at h1
      omega
    have HCN : Hid (g.nodes.length + g.ties.length ≤ pre.length) := hcnt
    have HSP := Lib.hid hsp
    obtain ⟨y, hy⟩ := x
    have hys : (bs y).size ≤ 1048576 := by rw [bs_size]; exact hy
    have htl := trim_len y
    have hcl := cut_lens 32 (Lib.trimSuffix y [10])
    have hx := tx_cutSuffix (bs y) 10 W (by omega)
    rw [bs_list] at hx
    have hxc := tx_cut (bs (Lib.trimSuffix y [10])) 32 W HT1.out.toTxP (by rw [bs_size]; omega)
    rw [bs_list] at hxc
    have HLT := fun (sf : Bool) K R h1 h2 h3 => Lib.hid (lineT_eq (g := g) (x := y) (sf := sf) (K := K) (R := R) h1 h2 h3)
    generalize hsf : Lib.hasSuffix y [10] = sf at *
    generalize hK : (Lib.cut (Lib.trimSuffix y [10]) [32]).1 = K at *
    generalize hRr : (Lib.cut (Lib.trimSuffix y [10]) [32]).2.1 = R at *
    generalize (Lib.cut (Lib.trimSuffix y [10]) [32]).2.2 = fd at *
    have HLT := HLT sf K R rfl rfl rfl
    have hRl : (bs R).size ≤ 1048576 := by rw [bs_size]; omega
    have HXN : Hid (∀ wx, TxOk wx → Calls Tryz.prog 59 #[.string (bs R)] wx (NodR R wx)) := fun wx hw => by have h := rnodT_any (bs R) hRl wx hw; rw [bs_list] at h; exact h
    have HXT : Hid (∀ wx, TxOk wx → Calls Tryz.prog 60 #[.string (bs R)] wx (TieR R wx)) := fun wx hw => by have h := rtieT_any (bs R) hRl wx hw; rw [bs_list] at h; exact h
    obtain ⟨i0, ei, ez, ez1, ez2⟩ := info_parts nod_info3
    obtain ⟨j0, fi, fz, fz1, fz2⟩ := info_parts tie_info3
    have hpn : ((lnL pre).length : Int) + 1 ≤ 1048576 := by rw [lnL_len]; omega
    have e1 : (bs nodeW).toList = [110, 111, 100, 101] := by decide +kernel
    have e2 : (bs tieW).toList = [116, 105, 101] := by decide +kernel
    have q1 := bs_lit (K := K) e1
    have q2 := bs_lit (K := K) e2
    have HW0 : Hid (w.heap.size + 6 ≤ W0.heap.size) := by unfold Hid; rw [HS0.out]; exact Nat.le_refl _
    clear hcnt hsp hll hsf hK hRr hcl htl e1 e2 hys hRl
    by_cases hkn : K = nodeW
    · have b1 : (bs K).toList = [110, 111, 100, 101] := by rw [q1]; exact hkn
      have b1' : ((bs K).toList == [110, 111, 100, 101]) = true := by simpa using b1
      by_cases ht0 : g.ties.length = 0
      · have ht0' : (g.ties.length : Int) = 0 := by omega
        have HLN : Hid (lineT g y = if sf = true then (readNodL R).map (fun n => (⟨g.nodes ++ [n], g.ties⟩ : Grf)) else none) := by unfold Hid; rw [HLT.out, if_pos (c := K = nodeW ∧ g.ties.length = 0) ⟨hkn, ht0⟩]
        clear HLT HXT q1 q2 hkn ht0
        cases sf with
        | false =>
          have HN : Hid (lineT g y = none) := HLN.out
          clear HLN
          gi_wp2_with (first
            | (refine ⟨trivial, ?_⟩; gi_at_call 57; refine (CallsIn.inRound lr ((callsIn_wide (n := _)).2 hx)).mono ?_; rintro e w9 ⟨rfl, hw⟩; have hw := hw.symm; subst hw; clear hx)
            | (refine ⟨trivial, ?_⟩; gi_at_call 58; refine (CallsIn.inRound lr ((callsIn_wide (n := _)).2 hxc)).mono ?_; rintro e W2 ⟨rfl, hb2⟩; have HR2 := Lib.hid (hR.all (.below hb2)); have y0 := block_cell HR2.out.gb 0; have y1 := block_cell HR2.out.gb 1; clear hxc)
            | (refine ⟨trivial, ?_⟩; gi_at_call 59; refine (CallsIn.inRound lr ((callsIn_wide (n := _)).2 (HXN.out _ (HT1.out.below hb2)))).mono ?_; rintro e W3 ⟨id, kd, A, nk, k, rfl, hnd, hb3⟩; have HND := Lib.hid hnd; have hbV : Below W3.heap.size W3 ((W3.alloc (.cells #[.int .i64 id, .string kd, .slice A nk k] 98)).alloc (.cells #[.int .i64 id, .string kd, .slice A nk k] 98)) := ((Below.refl _ _).alloc (Nat.le_refl _) _).alloc (by simp) _; have HR3 := Lib.hid (HR2.out.all (.below hb3)); have HR4 := Lib.hid (HR3.out.all (.below hbV)); have hbW := (hb2.trans (hb3.mono hb2.size)).trans (hbV.mono (hb2.trans (hb3.mono hb2.size)).size); have hb1V : Below W3.heap.size W3 (W3.alloc (.cells #[.int .i64 id, .string kd, .slice A nk k] 98)) := (Below.refl _ _).alloc (Nat.le_refl _) _; have y0' := block_cell (HR3.out.all (.below hb1V)).gb 0; clear y0 y1 hnd hb1V)
            | (gi_at_builtin; refine wpListIn_append_q _ rfl (.tmp 47) (.tmp 49) _ rfl w.heap.size 98 i0 (.agg #[.int .i64 0, .string .empty, .slice none 0 0]) 3 48 Tryz.underlying22 ei ez ez1 ez2 rfl (by decide) (.slice An g.nodes.length cn) g.nodes.length xs rfl HR4.out.on (some ⟨W3.heap.size + 1, 0, none⟩) 1 1 [.int .i64 id, .string kd, .slice A nk k] rfl rfl (fun _ => ⟨_, rfl, fun j u hj => by rw [addr_add, Nat.zero_add, World.cell?_alloc_at _ _ _ _ (by simp)]; simpa using hj⟩) (fun u hu => by simp at hu; rcases hu with rfl | rfl | rfl <;> rfl) (by have := HCN.out; unfold maxLen; omega) (by have := HCN.out; omega) (by have := HR4.out.low; omega) ?_; intro v7 w7 hown7 hg7 hat7; obtain ⟨A7, c7, rfl, _, _⟩ := hown7.form; obtain ⟨a0, a1, a2, a3, a4, a5, a6, a7⟩ := HR4.out.after_nodes hg7; have HG7 := Lib.hid hg7; clear y0'; have y0 := block_cell a3 0; have y0f := block_free a3 0; have y4 := block_cell a4 0; have y4f := block_free a4 0; have x00 := block_cell a0 0; have x01 := block_cell a0 1; have f00 := block_free a0 0; have f01 := block_free a0 1; have x1 := block_cell a1 0; have f1 := block_free a1 0; have x2 := block_cell a2 0; have f2 := block_free a2 0; have A0 := Lib.hid a0; have A1 := Lib.hid a1; have A2 := Lib.hid a2; have A3 := Lib.hid a3; have A4 := Lib.hid a4; have A5 := Lib.hid a5; have A6 := Lib.hid a6; have A7' := Lib.hid a7; have HOW := Lib.hid hown7; clear a0 a1 a2 a3 a4 a5 a6 a7 hg7 hat7 hown7))
          obtain ⟨k1, k2, k3⟩ := hR.app_n hbW HG7.out
          gi_region
          all_goals
            gi_wp2
            exact wrong_end HW0.out (k1.trans (KeepsFrom.setCell (q := w.heap.size + 1 + 1 + 1) _ (by have := HW0.out; omega) _ _)) ((hB.trans (k2.mono (Nat.le_refl _))).setCell (p := ⟨w.heap.size + 1 + 1 + 1, 0, none⟩) (by show w.heap.size ≤ w.heap.size + 1 + 1 + 1; omega) _) (setCell_other A0.out (by omega) _ _) (setCell_other A1.out (by omega) _ _) (setCell_other A2.out (by omega) _ _) (by obtain ⟨s, h⟩ := A5.out; exact ⟨s, setCell_other h (by omega) _ _⟩) (fun rest => by rw [lnL_snoc]; exact run_wrong hR.run HN.out rest) rfl
        | true =>
          cases hnn : readNodL R with
          | none =>
            have HNN : Hid (readNodL R = none) := hnn
            have HN : Hid (lineT g y = none) := by unfold Hid; rw [HLN.out, hnn]; rfl
            clear HLN hnn
            gi_wp2_with (first
              | (refine ⟨trivial, ?_⟩; gi_at_call 57; refine (CallsIn.inRound lr ((callsIn_wide (n := _)).2 hx)).mono ?_; rintro e w9 ⟨rfl, hw⟩; have hw := hw.symm; subst hw; clear hx)
              | (refine ⟨trivial, ?_⟩; gi_at_call 58; refine (CallsIn.inRound lr ((callsIn_wide (n := _)).2 hxc)).mono ?_; rintro e W2 ⟨rfl, hb2⟩; have HR2 := Lib.hid (hR.all (.below hb2)); have y0 := block_cell HR2.out.gb 0; have y1 := block_cell HR2.out.gb 1; clear hxc)
              | (refine ⟨trivial, ?_⟩; gi_at_call 59; refine (CallsIn.inRound lr ((callsIn_wide (n := _)).2 (HXN.out _ (HT1.out.below hb2)))).mono ?_; rintro e W3 ⟨id, kd, A, nk, k, rfl, hnd, hb3⟩; rw [show (readNodL R).isSome = false from by rw [HNN.out]; rfl]; have HND := Lib.hid hnd; have hbV : Below W3.heap.size W3 ((W3.alloc (.cells #[.int .i64 id, .string kd, .slice A nk k] 98)).alloc (.cells #[.int .i64 id, .string kd, .slice A nk k] 98)) := ((Below.refl _ _).alloc (Nat.le_refl _) _).alloc (by simp) _; have HR3 := Lib.hid (HR2.out.all (.below hb3)); have HR4 := Lib.hid (HR3.out.all (.below hbV)); have hbW := (hb2.trans (hb3.mono hb2.size)).trans (hbV.mono (hb2.trans (hb3.mono hb2.size)).size); have hb1V : Below W3.heap.size W3 (W3.alloc (.cells #[.int .i64 id, .string kd, .slice A nk k] 98)) := (Below.refl _ _).alloc (Nat.le_refl _) _; have y0' := block_cell (HR3.out.all (.below hb1V)).gb 0; clear y0 y1 hnd hb1V)
              | (gi_at_builtin; refine wpListIn_append_q _ rfl (.tmp 47) (.tmp 49) _ rfl w.heap.size 98 i0 (.agg #[.int .i64 0, .string .empty, .slice none 0 0]) 3 48 Tryz.underlying22 ei ez ez1 ez2 rfl (by decide) (.slice An g.nodes.length cn) g.nodes.length xs rfl HR4.out.on (some ⟨W3.heap.size + 1, 0, none⟩) 1 1 [.int .i64 id, .string kd, .slice A nk k] rfl rfl (fun _ => ⟨_, rfl, fun j u hj => by rw [addr_add, Nat.zero_add, World.cell?_alloc_at _ _ _ _ (by simp)]; simpa using hj⟩) (fun u hu => by simp at hu; rcases hu with rfl | rfl | rfl <;> rfl) (by have := HCN.out; unfold maxLen; omega) (by have := HCN.out; omega) (by have := HR4.out.low; omega) ?_; intro v7 w7 hown7 hg7 hat7; obtain ⟨A7, c7, rfl, _, _⟩ := hown7.form; obtain ⟨a0, a1, a2, a3, a4, a5, a6, a7⟩ := HR4.out.after_nodes hg7; have HG7 := Lib.hid hg7; clear y0'; have y0 := block_cell a3 0; have y0f := block_free a3 0; have y4 := block_cell a4 0; have y4f := block_free a4 0; have x00 := block_cell a0 0; have x01 := block_cell a0 1; have f00 := block_free a0 0; have f01 := block_free a0 1; have x1 := block_cell a1 0; have f1 := block_free a1 0; have x2 := block_cell a2 0; have f2 := block_free a2 0; have A0 := Lib.hid a0; have A1 := Lib.hid a1; have A2 := Lib.hid a2; have A3 := Lib.hid a3; have A4 := Lib.hid a4; have A5 := Lib.hid a5; have A6 := Lib.hid a6; have A7' := Lib.hid a7; have HOW := Lib.hid hown7; clear a0 a1 a2 a3 a4 a5 a6 a7 hg7 hat7 hown7))
            obtain ⟨k1, k2, k3⟩ := hR.app_n hbW HG7.out
            gi_region
            all_goals
              gi_wp2
              exact wrong_end HW0.out (k1.trans (KeepsFrom.setCell (q := w.heap.size + 1 + 1 + 1) _ (by have := HW0.out; omega) _ _)) ((hB.trans (k2.mono (Nat.le_refl _))).setCell (p := ⟨w.heap.size + 1 + 1 + 1, 0, none⟩) (by show w.heap.size ≤ w.heap.size + 1 + 1 + 1; omega) _) (setCell_other A0.out (by omega) _ _) (setCell_other A1.out (by omega) _ _) (setCell_other A2.out (by omega) _ _) (by obtain ⟨s, h⟩ := A5.out; exact ⟨s, setCell_other h (by omega) _ _⟩) (fun rest => by rw [lnL_snoc]; exact run_wrong hR.run HN.out rest) rfl
          | some nd =>
            have HNN : Hid (readNodL R = some nd) := hnn
            have HN : Hid (lineT g y = some ⟨g.nodes ++ [nd], g.ties⟩) := by unfold Hid; rw [HLN.out, hnn]; rfl
            clear HLN hnn
            gi_wp2_with (first
              | (refine ⟨trivial, ?_⟩; gi_at_call 57; refine (CallsIn.inRound lr ((callsIn_wide (n := _)).2 hx)).mono ?_; rintro e w9 ⟨rfl, hw⟩; have hw := hw.symm; subst hw; clear hx)
              | (refine ⟨trivial, ?_⟩; gi_at_call 58; refine (CallsIn.inRound lr ((callsIn_wide (n := _)).2 hxc)).mono ?_; rintro e W2 ⟨rfl, hb2⟩; have HR2 := Lib.hid (hR.all (.below hb2)); have y0 := block_cell HR2.out.gb 0; have y1 := block_cell HR2.out.gb 1; clear hxc)
              | (refine ⟨trivial, ?_⟩; gi_at_call 59; refine (CallsIn.inRound lr ((callsIn_wide (n := _)).2 (HXN.out _ (HT1.out.below hb2)))).mono ?_; rintro e W3 ⟨id, kd, A, nk, k, rfl, hnd, hb3⟩; rw [show (readNodL R).isSome = true from by rw [HNN.out]; rfl]; have HND := Lib.hid hnd; have hbV : Below W3.heap.size W3 ((W3.alloc (.cells #[.int .i64 id, .string kd, .slice A nk k] 98)).alloc (.cells #[.int .i64 id, .string kd, .slice A nk k] 98)) := ((Below.refl _ _).alloc (Nat.le_refl _) _).alloc (by simp) _; have HR3 := Lib.hid (HR2.out.all (.below hb3)); have HR4 := Lib.hid (HR3.out.all (.below hbV)); have hbW := (hb2.trans (hb3.mono hb2.size)).trans (hbV.mono (hb2.trans (hb3.mono hb2.size)).size); have hb1V : Below W3.heap.size W3 (W3.alloc (.cells #[.int .i64 id, .string kd, .slice A nk k] 98)) := (Below.refl _ _).alloc (Nat.le_refl _) _; have y0' := block_cell (HR3.out.all (.below hb1V)).gb 0; clear y0 y1 hnd hb1V)
              | (gi_at_builtin; refine wpListIn_append_q _ rfl (.tmp 47) (.tmp 49) _ rfl w.heap.size 98 i0 (.agg #[.int .i64 0, .string .empty, .slice none 0 0]) 3 48 Tryz.underlying22 ei ez ez1 ez2 rfl (by decide) (.slice An g.nodes.length cn) g.nodes.length xs rfl HR4.out.on (some ⟨W3.heap.size + 1, 0, none⟩) 1 1 [.int .i64 id, .string kd, .slice A nk k] rfl rfl (fun _ => ⟨_, rfl, fun j u hj => by rw [addr_add, Nat.zero_add, World.cell?_alloc_at _ _ _ _ (by simp)]; simpa using hj⟩) (fun u hu => by simp at hu; rcases hu with rfl | rfl | rfl <;> rfl) (by have := HCN.out; unfold maxLen; omega) (by have := HCN.out; omega) (by have := HR4.out.low; omega) ?_; intro v7 w7 hown7 hg7 hat7; obtain ⟨A7, c7, rfl, _, _⟩ := hown7.form; obtain ⟨a0, a1, a2, a3, a4, a5, a6, a7⟩ := HR4.out.after_nodes hg7; have HG7 := Lib.hid hg7; clear y0'; have y0 := block_cell a3 0; have y0f := block_free a3 0; have y4 := block_cell a4 0; have y4f := block_free a4 0; have x00 := block_cell a0 0; have x01 := block_cell a0 1; have f00 := block_free a0 0; have f01 := block_free a0 1; have x1 := block_cell a1 0; have f1 := block_free a1 0; have x2 := block_cell a2 0; have f2 := block_free a2 0; have A0 := Lib.hid a0; have A1 := Lib.hid a1; have A2 := Lib.hid a2; have A3 := Lib.hid a3; have A4 := Lib.hid a4; have A5 := Lib.hid a5; have A6 := Lib.hid a6; have A7' := Lib.hid a7; have HOW := Lib.hid hown7; clear a0 a1 a2 a3 a4 a5 a6 a7 hg7 hat7 hown7))
            gi_wp2
            obtain ⟨k1, k2, k3⟩ := hR.app_n hbW HG7.out
            obtain ⟨rfl, rfl, rfl, hop, h1, h2⟩ := HND.out nd HNN.out
            have hst := Rd.store (P := lnL (pre ++ [⟨y, hy⟩])) (g' := ⟨g.nodes ++ [nd], g.ties⟩) (i := 0) (u := .slice A7 (g.nodes.length + 1) c7) (A9 := A7) (c9 := c7) (A8 := At) (c8 := ct) (Nat.lt_of_lt_of_le hR.low (by have := k2.size; have := k1.size; omega)) A0.out A1.out A2.out A3.out A4.out A5.out (by simp) (by simpa using HOW.out) (OwnNods.snoc h1 h2 hop.2 (((hop.1.mono (by have := hb2.size; have := hR.low; omega)).below hbV).same (.grown HR4.out.on (by decide) HG7.out)) A6.out) A7'.out hR.tt (fun rest => by rw [lnL_snoc]; exact run_more hR.run HN.out rest)
            have hP : ((lnL (pre ++ [⟨y, hy⟩])).length : Int) = ((lnL pre).length : Int) + 1 := by rw [lnL_snoc, List.length_append]; rfl
            rw [hP] at hst
            obtain ⟨m1, m2, m3⟩ := more_end (i := 0) HW0.out k1 (hB.trans (k2.mono (Nat.le_refl _))) k2 k3 rfl
            exact ⟨m1, m2, ⟨_, _, _, _, _, _, hst, (by have := HCN.out; simp; omega)⟩, m3⟩
      · have ht0' : ((g.ties.length : Int) == 0) = false := by simp; intro h; apply ht0; rw [h]; rfl
        have hkt : ¬ K = tieW := by rw [hkn]; decide
        have HN : Hid (lineT g y = none) := by unfold Hid; rw [HLT.out, if_neg (c := K = nodeW ∧ g.ties.length = 0) (fun h => ht0 h.2), if_neg hkt]; split <;> rfl
        have b2 : ¬ (bs K).toList = [116, 105, 101] := by rw [q2]; exact hkt
        have b2' : ((bs K).toList == [116, 105, 101]) = false := by simpa using b2
        clear HLT HXN HXT hkn hkt q1 q2 ht0
        gi_wp2_with (first
          | (refine ⟨trivial, ?_⟩; gi_at_call 57; refine (CallsIn.inRound lr ((callsIn_wide (n := _)).2 hx)).mono ?_; rintro e w9 ⟨rfl, hw⟩; have hw := hw.symm; subst hw; clear hx)
          | (refine ⟨trivial, ?_⟩; gi_at_call 58; refine (CallsIn.inRound lr ((callsIn_wide (n := _)).2 hxc)).mono ?_; rintro e W2 ⟨rfl, hb2⟩; have HR2 := Lib.hid (hR.all (.below hb2)); have y0 := block_cell HR2.out.gb 0; have y1 := block_cell HR2.out.gb 1; have y4 := block_cell HR2.out.nb 0; have x00 := block_cell HR2.out.r0 0; have x01 := block_cell HR2.out.r0 1; have f00 := block_free HR2.out.r0 0; have f01 := block_free HR2.out.r0 1; have x1 := block_cell HR2.out.r1 0; have f1 := block_free HR2.out.r1 0; have x2 := block_cell HR2.out.r2 0; have f2 := block_free HR2.out.r2 0; clear hxc))
        gi_region
        all_goals
          gi_wp2
          exact wrong_end HW0.out (KeepsFrom.below hb2) (hB.trans (hb2.mono hB.size)) HR2.out.r0 HR2.out.r1 HR2.out.r2 HR2.out.qb (fun rest => by rw [lnL_snoc]; exact run_wrong hR.run HN.out rest) rfl
    · by_cases hkt : K = tieW
      · have b1 : ¬ (bs K).toList = [110, 111, 100, 101] := by rw [q1]; exact hkn
        have b2 : (bs K).toList = [116, 105, 101] := by rw [q2]; exact hkt
        have b1' : ((bs K).toList == [110, 111, 100, 101]) = false := by simpa using b1
        have b2' : ((bs K).toList == [116, 105, 101]) = true := by simpa using b2
        have HLN : Hid (lineT g y = if sf = true then (readTieL R).map (fun n => (⟨g.nodes, g.ties ++ [n]⟩ : Grf)) else none) := by unfold Hid; rw [HLT.out, if_neg (c := K = nodeW ∧ g.ties.length = 0) (fun h => hkn h.1), if_pos hkt]
        clear HLT HXN q1 q2 hkn hkt
        cases sf with
        | false =>
          have HN : Hid (lineT g y = none) := HLN.out
          clear HLN
          gi_wp2_with (first
            | (refine ⟨trivial, ?_⟩; gi_at_call 57; refine (CallsIn.inRound lr ((callsIn_wide (n := _)).2 hx)).mono ?_; rintro e w9 ⟨rfl, hw⟩; have hw := hw.symm; subst hw; clear hx)
            | (refine ⟨trivial, ?_⟩; gi_at_call 58; refine (CallsIn.inRound lr ((callsIn_wide (n := _)).2 hxc)).mono ?_; rintro e W2 ⟨rfl, hb2⟩; have HR2 := Lib.hid (hR.all (.below hb2)); have y0 := block_cell HR2.out.gb 0; have y1 := block_cell HR2.out.gb 1; clear hxc)
            | (refine ⟨trivial, ?_⟩; gi_at_call 60; refine (CallsIn.inRound lr ((callsIn_wide (n := _)).2 (HXT.out _ (HT1.out.below hb2)))).mono ?_; rintro e W3 ⟨bd, x5, y5, rfl, hnd, hb3⟩; have HND := Lib.hid hnd; have hbV : Below W3.heap.size W3 ((W3.alloc (.cells #[.string bd, .int .i64 x5, .int .i64 y5] 102)).alloc (.cells #[.string bd, .int .i64 x5, .int .i64 y5] 102)) := ((Below.refl _ _).alloc (Nat.le_refl _) _).alloc (by simp) _; have HR3 := Lib.hid (HR2.out.all (.below hb3)); have HR4 := Lib.hid (HR3.out.all (.below hbV)); have hbW := (hb2.trans (hb3.mono hb2.size)).trans (hbV.mono (hb2.trans (hb3.mono hb2.size)).size); have hb1V : Below W3.heap.size W3 (W3.alloc (.cells #[.string bd, .int .i64 x5, .int .i64 y5] 102)) := (Below.refl _ _).alloc (Nat.le_refl _) _; have y0' := block_cell (HR3.out.all (.below hb1V)).gb 1; clear y0 y1 hnd hb1V)
            | (gi_at_builtin; refine wpListIn_append_q _ rfl (.tmp 65) (.tmp 67) _ rfl w.heap.size 102 j0 (.agg #[.string .empty, .int .i64 0, .int .i64 0]) 3 32 Tryz.underlying23 fi fz fz1 fz2 rfl (by decide) (.slice At g.ties.length ct) g.ties.length (g.ties.flatMap Tie.enc) rfl HR4.out.ot (some ⟨W3.heap.size + 1, 0, none⟩) 1 1 [.string bd, .int .i64 x5, .int .i64 y5] rfl rfl (fun _ => ⟨_, rfl, fun j u hj => by rw [addr_add, Nat.zero_add, World.cell?_alloc_at _ _ _ _ (by simp)]; simpa using hj⟩) (fun u hu => by simp at hu; rcases hu with rfl | rfl | rfl <;> rfl) (by have := HCN.out; unfold maxLen; omega) (by have := HCN.out; omega) (by have := HR4.out.low; omega) ?_; intro v7 w7 hown7 hg7 hat7; obtain ⟨A7, c7, rfl, _, _⟩ := hown7.form; obtain ⟨a0, a1, a2, a3, a4, a5, a6, a7⟩ := HR4.out.after_ties hg7; have HG7 := Lib.hid hg7; clear y0'; have y0 := block_cell a3 1; have y0f := block_free a3 1; have y4 := block_cell a4 0; have y4f := block_free a4 0; have x00 := block_cell a0 0; have x01 := block_cell a0 1; have f00 := block_free a0 0; have f01 := block_free a0 1; have x1 := block_cell a1 0; have f1 := block_free a1 0; have x2 := block_cell a2 0; have f2 := block_free a2 0; have A0 := Lib.hid a0; have A1 := Lib.hid a1; have A2 := Lib.hid a2; have A3 := Lib.hid a3; have A4 := Lib.hid a4; have A5 := Lib.hid a5; have A6 := Lib.hid a6; have A7' := Lib.hid a7; have HOW := Lib.hid hown7; clear a0 a1 a2 a3 a4 a5 a6 a7 hg7 hat7 hown7))
          obtain ⟨k1, k2, k3⟩ := hR.app_t hbW HG7.out
          gi_region
          all_goals
            gi_wp2
            exact wrong_end HW0.out (k1.trans (KeepsFrom.setCell (q := w.heap.size + 1 + 1 + 1) _ (by have := HW0.out; omega) _ _)) ((hB.trans (k2.mono (Nat.le_refl _))).setCell (p := ⟨w.heap.size + 1 + 1 + 1, 1, none⟩) (by show w.heap.size ≤ w.heap.size + 1 + 1 + 1; omega) _) (setCell_other A0.out (by omega) _ _) (setCell_other A1.out (by omega) _ _) (setCell_other A2.out (by omega) _ _) (by obtain ⟨s, h⟩ := A5.out; exact ⟨s, setCell_other h (by omega) _ _⟩) (fun rest => by rw [lnL_snoc]; exact run_wrong hR.run HN.out rest) rfl
        | true =>
          cases hnn : readTieL R with
          | none =>
            have HNN : Hid (readTieL R = none) := hnn
            have HN : Hid (lineT g y = none) := by unfold Hid; rw [HLN.out, hnn]; rfl
            clear HLN hnn
            gi_wp2_with (first
              | (refine ⟨trivial, ?_⟩; gi_at_call 57; refine (CallsIn.inRound lr ((callsIn_wide (n := _)).2 hx)).mono ?_; rintro e w9 ⟨rfl, hw⟩; have hw := hw.symm; subst hw; clear hx)
              | (refine ⟨trivial, ?_⟩; gi_at_call 58; refine (CallsIn.inRound lr ((callsIn_wide (n := _)).2 hxc)).mono ?_; rintro e W2 ⟨rfl, hb2⟩; have HR2 := Lib.hid (hR.all (.below hb2)); have y0 := block_cell HR2.out.gb 0; have y1 := block_cell HR2.out.gb 1; clear hxc)
              | (refine ⟨trivial, ?_⟩; gi_at_call 60; refine (CallsIn.inRound lr ((callsIn_wide (n := _)).2 (HXT.out _ (HT1.out.below hb2)))).mono ?_; rintro e W3 ⟨bd, x5, y5, rfl, hnd, hb3⟩; rw [show (readTieL R).isSome = false from by rw [HNN.out]; rfl]; have HND := Lib.hid hnd; have hbV : Below W3.heap.size W3 ((W3.alloc (.cells #[.string bd, .int .i64 x5, .int .i64 y5] 102)).alloc (.cells #[.string bd, .int .i64 x5, .int .i64 y5] 102)) := ((Below.refl _ _).alloc (Nat.le_refl _) _).alloc (by simp) _; have HR3 := Lib.hid (HR2.out.all (.below hb3)); have HR4 := Lib.hid (HR3.out.all (.below hbV)); have hbW := (hb2.trans (hb3.mono hb2.size)).trans (hbV.mono (hb2.trans (hb3.mono hb2.size)).size); have hb1V : Below W3.heap.size W3 (W3.alloc (.cells #[.string bd, .int .i64 x5, .int .i64 y5] 102)) := (Below.refl _ _).alloc (Nat.le_refl _) _; have y0' := block_cell (HR3.out.all (.below hb1V)).gb 1; clear y0 y1 hnd hb1V)
              | (gi_at_builtin; refine wpListIn_append_q _ rfl (.tmp 65) (.tmp 67) _ rfl w.heap.size 102 j0 (.agg #[.string .empty, .int .i64 0, .int .i64 0]) 3 32 Tryz.underlying23 fi fz fz1 fz2 rfl (by decide) (.slice At g.ties.length ct) g.ties.length (g.ties.flatMap Tie.enc) rfl HR4.out.ot (some ⟨W3.heap.size + 1, 0, none⟩) 1 1 [.string bd, .int .i64 x5, .int .i64 y5] rfl rfl (fun _ => ⟨_, rfl, fun j u hj => by rw [addr_add, Nat.zero_add, World.cell?_alloc_at _ _ _ _ (by simp)]; simpa using hj⟩) (fun u hu => by simp at hu; rcases hu with rfl | rfl | rfl <;> rfl) (by have := HCN.out; unfold maxLen; omega) (by have := HCN.out; omega) (by have := HR4.out.low; omega) ?_; intro v7 w7 hown7 hg7 hat7; obtain ⟨A7, c7, rfl, _, _⟩ := hown7.form; obtain ⟨a0, a1, a2, a3, a4, a5, a6, a7⟩ := HR4.out.after_ties hg7; have HG7 := Lib.hid hg7; clear y0'; have y0 := block_cell a3 1; have y0f := block_free a3 1; have y4 := block_cell a4 0; have y4f := block_free a4 0; have x00 := block_cell a0 0; have x01 := block_cell a0 1; have f00 := block_free a0 0; have f01 := block_free a0 1; have x1 := block_cell a1 0; have f1 := block_free a1 0; have x2 := block_cell a2 0; have f2 := block_free a2 0; have A0 := Lib.hid a0; have A1 := Lib.hid a1; have A2 := Lib.hid a2; have A3 := Lib.hid a3; have A4 := Lib.hid a4; have A5 := Lib.hid a5; have A6 := Lib.hid a6; have A7' := Lib.hid a7; have HOW := Lib.hid hown7; clear a0 a1 a2 a3 a4 a5 a6 a7 hg7 hat7 hown7))
            obtain ⟨k1, k2, k3⟩ := hR.app_t hbW HG7.out
            gi_region
            all_goals
              gi_wp2
              exact wrong_end HW0.out (k1.trans (KeepsFrom.setCell (q := w.heap.size + 1 + 1 + 1) _ (by have := HW0.out; omega) _ _)) ((hB.trans (k2.mono (Nat.le_refl _))).setCell (p := ⟨w.heap.size + 1 + 1 + 1, 1, none⟩) (by show w.heap.size ≤ w.heap.size + 1 + 1 + 1; omega) _) (setCell_other A0.out (by omega) _ _) (setCell_other A1.out (by omega) _ _) (setCell_other A2.out (by omega) _ _) (by obtain ⟨s, h⟩ := A5.out; exact ⟨s, setCell_other h (by omega) _ _⟩) (fun rest => by rw [lnL_snoc]; exact run_wrong hR.run HN.out rest) rfl
          | some nd =>
            have HNN : Hid (readTieL R = some nd) := hnn
            have HN : Hid (lineT g y = some ⟨g.nodes, g.ties ++ [nd]⟩) := by unfold Hid; rw [HLN.out, hnn]; rfl
            clear HLN hnn
            gi_wp2_with (first
              | (refine ⟨trivial, ?_⟩; gi_at_call 57; refine (CallsIn.inRound lr ((callsIn_wide (n := _)).2 hx)).mono ?_; rintro e w9 ⟨rfl, hw⟩; have hw := hw.symm; subst hw; clear hx)
              | (refine ⟨trivial, ?_⟩; gi_at_call 58; refine (CallsIn.inRound lr ((callsIn_wide (n := _)).2 hxc)).mono ?_; rintro e W2 ⟨rfl, hb2⟩; have HR2 := Lib.hid (hR.all (.below hb2)); have y0 := block_cell HR2.out.gb 0; have y1 := block_cell HR2.out.gb 1; clear hxc)
              | (refine ⟨trivial, ?_⟩; gi_at_call 60; refine (CallsIn.inRound lr ((callsIn_wide (n := _)).2 (HXT.out _ (HT1.out.below hb2)))).mono ?_; rintro e W3 ⟨bd, x5, y5, rfl, hnd, hb3⟩; rw [show (readTieL R).isSome = true from by rw [HNN.out]; rfl]; have HND := Lib.hid hnd; have hbV : Below W3.heap.size W3 ((W3.alloc (.cells #[.string bd, .int .i64 x5, .int .i64 y5] 102)).alloc (.cells #[.string bd, .int .i64 x5, .int .i64 y5] 102)) := ((Below.refl _ _).alloc (Nat.le_refl _) _).alloc (by simp) _; have HR3 := Lib.hid (HR2.out.all (.below hb3)); have HR4 := Lib.hid (HR3.out.all (.below hbV)); have hbW := (hb2.trans (hb3.mono hb2.size)).trans (hbV.mono (hb2.trans (hb3.mono hb2.size)).size); have hb1V : Below W3.heap.size W3 (W3.alloc (.cells #[.string bd, .int .i64 x5, .int .i64 y5] 102)) := (Below.refl _ _).alloc (Nat.le_refl _) _; have y0' := block_cell (HR3.out.all (.below hb1V)).gb 1; clear y0 y1 hnd hb1V)
              | (gi_at_builtin; refine wpListIn_append_q _ rfl (.tmp 65) (.tmp 67) _ rfl w.heap.size 102 j0 (.agg #[.string .empty, .int .i64 0, .int .i64 0]) 3 32 Tryz.underlying23 fi fz fz1 fz2 rfl (by decide) (.slice At g.ties.length ct) g.ties.length (g.ties.flatMap Tie.enc) rfl HR4.out.ot (some ⟨W3.heap.size + 1, 0, none⟩) 1 1 [.string bd, .int .i64 x5, .int .i64 y5] rfl rfl (fun _ => ⟨_, rfl, fun j u hj => by rw [addr_add, Nat.zero_add, World.cell?_alloc_at _ _ _ _ (by simp)]; simpa using hj⟩) (fun u hu => by simp at hu; rcases hu with rfl | rfl | rfl <;> rfl) (by have := HCN.out; unfold maxLen; omega) (by have := HCN.out; omega) (by have := HR4.out.low; omega) ?_; intro v7 w7 hown7 hg7 hat7; obtain ⟨A7, c7, rfl, _, _⟩ := hown7.form; obtain ⟨a0, a1, a2, a3, a4, a5, a6, a7⟩ := HR4.out.after_ties hg7; have HG7 := Lib.hid hg7; clear y0'; have y0 := block_cell a3 1; have y0f := block_free a3 1; have y4 := block_cell a4 0; have y4f := block_free a4 0; have x00 := block_cell a0 0; have x01 := block_cell a0 1; have f00 := block_free a0 0; have f01 := block_free a0 1; have x1 := block_cell a1 0; have f1 := block_free a1 0; have x2 := block_cell a2 0; have f2 := block_free a2 0; have A0 := Lib.hid a0; have A1 := Lib.hid a1; have A2 := Lib.hid a2; have A3 := Lib.hid a3; have A4 := Lib.hid a4; have A5 := Lib.hid a5; have A6 := Lib.hid a6; have A7' := Lib.hid a7; have HOW := Lib.hid hown7; clear a0 a1 a2 a3 a4 a5 a6 a7 hg7 hat7 hown7))
            gi_wp2
            obtain ⟨k1, k2, k3⟩ := hR.app_t hbW HG7.out
            obtain ⟨rfl, rfl, rfl, hok⟩ := HND.out nd HNN.out
            have hst := Rd.store (P := lnL (pre ++ [⟨y, hy⟩])) (g' := ⟨g.nodes, g.ties ++ [nd]⟩) (i := 1) (u := .slice A7 (g.ties.length + 1) c7) (A9 := An) (c9 := cn) (A8 := A7) (c8 := c7) (Nat.lt_of_lt_of_le hR.low (by have := k2.size; have := k1.size; omega)) A0.out A1.out A2.out A3.out A4.out A5.out (by simp) A7'.out A6.out (by simpa [Tie.enc] using HOW.out) (fun t ht => by rcases List.mem_append.1 ht with h | h; exact hR.tt t h; rw [List.mem_singleton.1 h]; exact hok) (fun rest => by rw [lnL_snoc]; exact run_more hR.run HN.out rest)
            have hP : ((lnL (pre ++ [⟨y, hy⟩])).length : Int) = ((lnL pre).length : Int) + 1 := by rw [lnL_snoc, List.length_append]; rfl
            rw [hP] at hst
            obtain ⟨m1, m2, m3⟩ := more_end (i := 1) HW0.out k1 (hB.trans (k2.mono (Nat.le_refl _))) k2 k3 rfl
            exact ⟨m1, m2, ⟨_, _, _, _, _, _, hst, (by have := HCN.out; simp; omega)⟩, m3⟩
      · have HN : Hid (lineT g y = none) := by unfold Hid; rw [HLT.out, if_neg (c := K = nodeW ∧ g.ties.length = 0) (fun h => hkn h.1), if_neg hkt]; split <;> rfl
        have b1 : ¬ (bs K).toList = [110, 111, 100, 101] := by rw [q1]; exact hkn
        have b2 : ¬ (bs K).toList = [116, 105, 101] := by rw [q2]; exact hkt
        have b1' : ((bs K).toList == [110, 111, 100, 101]) = false := by simpa using b1
        have b2' : ((bs K).toList == [116, 105, 101]) = false := by simpa using b2
        clear HLT HXN HXT hkn hkt q1 q2
        gi_wp2_with (first
          | (refine ⟨trivial, ?_⟩; gi_at_call 57; refine (CallsIn.inRound lr ((callsIn_wide (n := _)).2 hx)).mono ?_; rintro e w9 ⟨rfl, hw⟩; have hw := hw.symm; subst hw; clear hx)
          | (refine ⟨trivial, ?_⟩; gi_at_call 58; refine (CallsIn.inRound lr ((callsIn_wide (n := _)).2 hxc)).mono ?_; rintro e W2 ⟨rfl, hb2⟩; have HR2 := Lib.hid (hR.all (.below hb2)); have y0 := block_cell HR2.out.gb 0; have y1 := block_cell HR2.out.gb 1; have y4 := block_cell HR2.out.nb 0; have x00 := block_cell HR2.out.r0 0; have x01 := block_cell HR2.out.r0 1; have f00 := block_free HR2.out.r0 0; have f01 := block_free HR2.out.r0 1; have x1 := block_cell HR2.out.r1 0; have f1 := block_free HR2.out.r1 0; have x2 := block_cell HR2.out.r2 0; have f2 := block_free HR2.out.r2 0; clear hxc))
        gi_region
        all_goals
          gi_wp2
          exact wrong_end HW0.out (KeepsFrom.below hb2) (hB.trans (hb2.mono hB.size)) HR2.out.r0 HR2.out.r1 HR2.out.r2 HR2.out.qb (fun rest => by rw [lnL_snoc]; exact run_wrong hR.run HN.out rest) rfl
  case done =>
    rintro D ys W hD hys ⟨⟨g, An, At, cn, ct, xs, hR, hcnt⟩, hB⟩ hK
    obtain ⟨t1, t2, t3⟩ := read_ok hR.run hys
    have hDb : w.heap.size + 6 ≤ D := by rw [← HS0.out]; exact hD
    have hG : GrfR W (.slice An g.nodes.length cn) (.slice At g.ties.length ct) g := ⟨Own.nods hR.on hR.nn, Own.ties hR.ot hR.tt⟩
    have hx := grfCheck_any g _ _ W hG
    have y0 := block_cell hR.gb 0
    have y1 := block_cell hR.gb 1
    by_cases hz : grfE g = 0
    · have T1 : Hid (readTE l = 0) := t1.trans hz
      have T2 : Hid (readTN l = 0) := t2
      have T3 : Hid (readTV l = g) := by unfold Hid; rw [t3, if_pos hz]
      rw [errV_zero hz] at hx
      clear t1 t2 t3 hz hcnt hG hys hll
      gi_wp2_with (refine ⟨trivial, ?_⟩; gi_at_call 46; refine ((callsIn_wide (n := _)).2 hx).mono ?_; clear hx; rintro e W2 ⟨rfl, hb2⟩; have HR2 := Lib.hid (hR.all (.below hb2)); have y0 := block_cell HR2.out.gb 0; have y1 := block_cell HR2.out.gb 1; have x00 := block_cell HR2.out.r0 0; have x01 := block_cell HR2.out.r0 1; have f00 := block_free HR2.out.r0 0; have f01 := block_free HR2.out.r0 1; have x1 := block_cell HR2.out.r1 0; have f1 := block_free HR2.out.r1 0; have x2 := block_cell HR2.out.r2 0; have f2 := block_free HR2.out.r2 0)
      obtain ⟨z0, z1, z2, z3, z4, z5⟩ := three_set (w := w) (n := .int .i64 0) (e := .nilIface) (v0 := .slice An g.nodes.length cn) (v1 := .slice At g.ties.length ct) HR2.out.r0 HR2.out.r1 HR2.out.r2 (hB.trans (hb2.mono hB.size))
      have hK2 := z4 D _ (by omega) ((hb2.block D (Array.getElem?_eq_some_iff.1 hK).1).trans hK)
      have Z5 := Lib.hid z5
      clear y0 y1 x00 x01 f00 f01 x1 f1 x2 f2 z5 z4
      generalize (((W2.setCell ⟨w.heap.size, 0, none⟩ (.slice An g.nodes.length cn)).setCell ⟨w.heap.size, 1, none⟩ (.slice At g.ties.length ct)).setCell ⟨w.heap.size + 1, 0, none⟩ (.int .i64 0)).setCell ⟨w.heap.size + 1 + 1, 0, none⟩ .nilIface = Z at *
      refine ⟨by simp, .inl ⟨_, _, rfl, run_takeDeferred hK2, ?_⟩⟩
      obtain ⟨c0, c1, c2, c3⟩ := res_cells (D := D) (o := .deferred none) z0 z1 z2 hDb
      refine ⟨.tuple #[.agg #[.slice An g.nodes.length cn, .slice At g.ties.length ct], .int .i64 0, .nilIface], (by simp [results, Tryz.results12, go_sem, c0, c1, c2, c3]), _, _, by rw [T1.out, T2.out]; rfl, ?_, below_putObj z3 (by omega)⟩
      rw [T3.out]
      exact GrfR.set HR2.out (fun T' h1 h2 h3 => (Z5.out T' h1 h2 h3).trans ((AllSame.putObj hK2 rfl).same T'))
    · have T1 : Hid (readTE l = grfE g) := t1
      have T2 : Hid (readTN l = 0) := t2
      have T3 : Hid (readTV l = ⟨[], []⟩) := by unfold Hid; rw [t3, if_neg hz]
      have HZ := Lib.hid (errV_some hz)
      rw [errV_some hz] at hx
      clear t1 t2 t3 hz hcnt hG hys hll
      gi_wp2_with (refine ⟨trivial, ?_⟩; gi_at_call 46; refine ((callsIn_wide (n := _)).2 hx).mono ?_; clear hx; rintro e W2 ⟨rfl, hb2⟩; have HR2 := Lib.hid (hR.all (.below hb2)); have y0 := block_cell HR2.out.gb 0; have y1 := block_cell HR2.out.gb 1; have x00 := block_cell HR2.out.r0 0; have x01 := block_cell HR2.out.r0 1; have f00 := block_free HR2.out.r0 0; have f01 := block_free HR2.out.r0 1; have x1 := block_cell HR2.out.r1 0; have f1 := block_free HR2.out.r1 0; have x2 := block_cell HR2.out.r2 0; have f2 := block_free HR2.out.r2 0)
      obtain ⟨z0, z1, z2, z3, z4, z5⟩ := three_set (w := w) (n := .int .i64 0) (e := .iface 115 (.int .i64 (grfE g))) (v0 := .slice none 0 0) (v1 := .slice none 0 0) HR2.out.r0 HR2.out.r1 HR2.out.r2 (hB.trans (hb2.mono hB.size))
      have hK2 := z4 D _ (by omega) ((hb2.block D (Array.getElem?_eq_some_iff.1 hK).1).trans hK)
      clear y0 y1 x00 x01 f00 f01 x1 f1 x2 f2 z5 z4
      generalize (((W2.setCell ⟨w.heap.size, 0, none⟩ (.slice none 0 0)).setCell ⟨w.heap.size, 1, none⟩ (.slice none 0 0)).setCell ⟨w.heap.size + 1, 0, none⟩ (.int .i64 0)).setCell ⟨w.heap.size + 1 + 1, 0, none⟩ (.iface 115 (.int .i64 (grfE g))) = Z at *
      refine ⟨by simp, .inl ⟨_, _, rfl, run_takeDeferred hK2, ?_⟩⟩
      obtain ⟨c0, c1, c2, c3⟩ := res_cells (D := D) (o := .deferred none) z0 z1 z2 hDb
      refine ⟨.tuple #[.agg #[.slice none 0 0, .slice none 0 0], .int .i64 0, .iface 115 (.int .i64 (grfE g))], (by simp [results, Tryz.results12, go_sem, c0, c1, c2, c3]), _, _, by rw [T1.out, T2.out, HZ.out]; rfl, ?_, below_putObj z3 (by omega)⟩
      rw [T3.out]
      exact grfR_none _
  case stop =>
    rintro D c pre W hD hpre ⟨rfl, hR, hB⟩ hK
    obtain ⟨k, r1, hk⟩ := hR.k
    obtain ⟨t1, t2, t3⟩ := read_bad hk hpre
    have hDb : w.heap.size + 6 ≤ D := by rw [← HS0.out]; exact hD
    obtain ⟨c0, c1, c2, c3⟩ := res_cells (D := D) (o := .deferred none) hR.r0 r1 hR.r2 hDb
    gi_wp2
    refine ⟨by simp, .inl ⟨_, _, rfl, run_takeDeferred hK, ?_⟩⟩
    refine ⟨.tuple #[.agg #[.slice none 0 0, .slice none 0 0], .int .i64 k, .iface 115 (.int .i64 2)], (by simp [results, Tryz.results12, go_sem, c0, c1, c2, c3]), _, _, by rw [t1, t2]; rfl, ?_, below_putObj hB (by omega)⟩
    rw [t3]
    exact grfR_none _
end Go.Proofs.YtflidfmpmakggaaGreatDoor
