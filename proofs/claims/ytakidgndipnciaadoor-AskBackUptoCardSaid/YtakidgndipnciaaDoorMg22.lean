/- Parts: RxH. -/
import Derived.Test.YtakidgndipnciaaDoorMg19
import Derived.Test.YtakidgndipnciaaDoorMg21
import Derived.Test.YtakidgndipnciaaDoorMg05
/- Contract: ask.Parse: a text as a path. Conditions: the text is not too long; the library's errors and the signs are laid. -/
namespace Go.Proofs.YtakidgndipnciaaDoor
open Go Go.RowKit



/-- Steps of which each one's tests are the call's own. -/
def OwnStps (w : World) (B : Nat) : List Stp → List Value → Prop
  | [], xs => xs = []
  | d :: l, xs => ∃ u ys, xs = [.string d.bond, .bool d.back, .string d.kind, u] ++ ys ∧ Sm d.bond ∧ Sm d.kind ∧ (∀ p ∈ d.tests, p.ok) ∧ Own w B 40 5 u d.tests.length (d.tests.flatMap Tst.enc) ∧ OwnStps w B l ys
theorem OwnStps.same {w w' : World} {B : Nat} (hs : Same 40 w w') : ∀ {l : List Stp} {xs : List Value}, OwnStps w B l xs → OwnStps w' B l xs
  | [], _, h => h
  | _ :: _, _, h => by
    obtain ⟨u, ys, rfl, h1, h2, h3, h4, h5⟩ := h
    exact ⟨u, ys, rfl, h1, h2, h3, h4.same hs, h5.same hs⟩
theorem OwnStps.snoc {w : World} {B : Nat} {d : Stp} {u : Value} (h1 : Sm d.bond) (h2 : Sm d.kind) (h3 : ∀ p ∈ d.tests, p.ok) (h4 : Own w B 40 5 u d.tests.length (d.tests.flatMap Tst.enc)) :
    ∀ {l : List Stp} {xs : List Value}, OwnStps w B l xs → OwnStps w B (l ++ [d]) (xs ++ [.string d.bond, .bool d.back, .string d.kind, u])
  | [], xs, h => by rw [show xs = [] from h]; exact ⟨u, [], by simp, h1, h2, h3, h4, rfl⟩
  | e :: l, xs, h => by
    obtain ⟨v, ys, rfl, k1, k2, k3, k4, k5⟩ := h
    exact ⟨v, ys ++ [.string d.bond, .bool d.back, .string d.kind, u], by simp, k1, k2, k3, k4, k5.snoc h1 h2 h3 h4⟩
theorem Own.tsts {w : World} {B : Nat} {e : TypeId} {v : Value} {l : List Tst} (h : Own w B e 5 v l.length (l.flatMap Tst.enc)) (hl : ∀ x ∈ l, x.ok) : Sl tstL w v l := h.flat Tst.enc_len hl
theorem OwnStps.row {w : World} {B : Nat} : ∀ {l : List Stp} {xs : List Value}, OwnStps w B l xs → Row stpL w l xs
  | [], _, h => h
  | _ :: _, _, h => by
    obtain ⟨u, ys, rfl, h1, h2, h3, h4, h5⟩ := h
    exact ⟨_, ys, rfl, ⟨u, rfl, h1, h2, h4.tsts h3⟩, h5.row⟩
theorem Own.stps {w : World} {B B' : Nat} {e : TypeId} {v : Value} {l : List Stp} {xs : List Value} (h : Own w B e 4 v l.length xs) (hn : OwnStps w B' l xs) : Sl stpL w v l := Own.row (L := stpL) h hn.row
theorem sl_none (w : World) : Sl stpL w (.slice none 0 0) [] := ⟨none, 0, rfl, Nat.le_refl _, Nat.zero_le _, fun i d hi => by simp at hi⟩
/-- What Parse answers. -/
def ParseR (s : ByteArray) (w : World) (e : Ending) (w' : World) : Prop := ∃ v, e = .returned (.tuple #[v, .int .i64 (readAN s.data.toList : Nat), errV (readAE s.data.toList)]) ∧ Sl stpL w' v (readAV s.data.toList) ∧ Below w.heap.size w w'
theorem read_err {l : List UInt8} {n : Nat} (h : askR l = .error n) : readAE l = 2 ∧ readAN l = l.length - n ∧ readAV l = [] := by unfold readAE readAN readAV; rw [h]; exact ⟨rfl, rfl, rfl⟩
theorem read_bad {l : List UInt8} {p : List Stp} (h : askR l = .ok p) (h2 : askE p ≠ 0) : readAE l = askE p ∧ readAN l = 0 ∧ readAV l = [] := by
  unfold readAE readAN readAV
  rw [h]
  exact ⟨rfl, rfl, if_neg h2⟩
theorem read_fine {l : List UInt8} {p : List Stp} (h : askR l = .ok p) (h2 : askE p = 0) : readAE l = 0 ∧ readAN l = 0 ∧ readAV l = p := by
  unfold readAE readAN readAV
  rw [h]
  exact ⟨h2, rfl, if_pos h2⟩
theorem ask_e {l : List UInt8} {n : Nat} (h : pKind .empty false l = .error n) : askR l = .error n := by unfold askR; rw [h]
theorem ask_go {l r : List UInt8} {x : Stp} (h : pKind .empty false l = .ok (x, r)) : askR l = pAsk [x] (r.length + 1) r := by unfold askR; rw [h]
theorem pAsk_end {acc : List Stp} {m : Nat} : pAsk acc (m + 1) [] = .ok acc := rfl
theorem pAsk_e {acc : List Stp} {m n : Nat} {l : List UInt8} (h0 : l ≠ []) (h : pStep l = .error n) : pAsk acc (m + 1) l = .error n := by
  show (if l = [] then _ else _) = _
  rw [if_neg h0, h]
theorem pAsk_go {acc : List Stp} {m : Nat} {l r : List UInt8} {x : Stp} (h0 : l ≠ []) (h : pStep l = .ok (x, r)) : pAsk acc (m + 1) l = pAsk (acc ++ [x]) m r := by
  show (if l = [] then _ else _) = _
  rw [if_neg h0, h]
theorem stp_len {l r : List UInt8} {x : Stp} (h : pStep l = .ok (x, r)) : r.length < l.length := by
  rw [pStep_ok h, List.length_append]
  have : 0 < (stpT false x).length := by
    unfold stpT linkT
    rw [if_neg (by decide)]
    split <;> simp
  omega
/-- What is deferred. -/
def dfr (b : Nat) : List Deferred := [{ target := .fn (.func 15) #[.pointer (some ⟨b, 0, none⟩), .pointer (some ⟨b + 1, 0, none⟩), .pointer (some ⟨b + 1 + 1, 0, none⟩)], args := #[] }]
set_option maxRecDepth 100000 in
set_option maxHeartbeats 4000000 in
theorem door_panic {s : ByteArray} {w w8 : World} {tmps : Array Value} {n m : Nat} {v0 v1 v2 : Value}
    (t2 : tmps[2]?.getD undef = .pointer (some ⟨w.heap.size, 0, none⟩)) (t3 : tmps[3]?.getD undef = .pointer (some ⟨w.heap.size + 1, 0, none⟩)) (t4 : tmps[4]?.getD undef = .pointer (some ⟨w.heap.size + 1 + 1, 0, none⟩))
    (h0 : w8.heap[w.heap.size]? = some (.cells #[v0] 24 (0, 0))) (h1 : w8.heap[w.heap.size + 1]? = some (.cells #[v1] 3 (0, 0))) (h2 : w8.heap[w.heap.size + 1 + 1]? = some (.cells #[v2] 26 (0, 0)))
    (hb : Below w.heap.size w w8) (hE : askR s.data.toList = .error n) (hm : m = s.size - n) :
    bodyPostD Tryd.prog Tryd.f8 (ParseR s w) (Exit.panic [{ v := .iface 51 (.agg #[.int .i64 (m : Int)]), recovered := false }]) ⟨tmps, dfr w.heap.size⟩ w8 := by
  obtain ⟨e1, e2, e3⟩ := read_err hE
  refine leaves_cons (f := 15) (args := #[.pointer (some ⟨w.heap.size, 0, none⟩), .pointer (some ⟨w.heap.size + 1, 0, none⟩), .pointer (some ⟨w.heap.size + 1 + 1, 0, none⟩)]) (by simp) (by simp [go_sem]) ?_
  refine (catch_wrong w.heap.size (m : Int) v0 v1 v2 w8 h0 h1 h2).mono ?_
  rintro e u' w9 ⟨rfl, rfl, hc⟩
  obtain ⟨c0, c1, c2, c3, c4⟩ := hc
  have y0 := block_cell c2 0
  have y1 := block_cell c3 0
  have y2 := block_cell c4 0
  have hP : ParseR s w (.returned (.tuple #[.slice none 0 0, .int .i64 (m : Int), .iface 46 (.int .i64 2)])) w9 := by
    refine ⟨_, ?_, by rw [e3]; exact sl_none _, hb.trans c0⟩
    rw [e1, e2, hm]
    have : s.data.toList.length = s.size := by rw [Array.length_toList]; rfl
    rw [this]; rfl
  simp [Leaves, settle, results, Tryd.results8, go_sem, t2, t3, t4, y0, y1, y2]
  exact hP
set_option maxRecDepth 100000 in
set_option maxHeartbeats 4000000 in
theorem door_ret {s : ByteArray} {w w8 : World} {tmps : Array Value} {v0 v1 v2 : Value}
    (t2 : tmps[2]?.getD undef = .pointer (some ⟨w.heap.size, 0, none⟩)) (t3 : tmps[3]?.getD undef = .pointer (some ⟨w.heap.size + 1, 0, none⟩)) (t4 : tmps[4]?.getD undef = .pointer (some ⟨w.heap.size + 1 + 1, 0, none⟩))
    (h0 : w8.heap[w.heap.size]? = some (.cells #[v0] 24 (0, 0))) (h1 : w8.heap[w.heap.size + 1]? = some (.cells #[v1] 3 (0, 0))) (h2 : w8.heap[w.heap.size + 1 + 1]? = some (.cells #[v2] 26 (0, 0)))
    (hP : ParseR s w (.returned (.tuple #[v0, v1, v2])) w8) :
    bodyPostD Tryd.prog Tryd.f8 (ParseR s w) Exit.ret ⟨tmps, dfr w.heap.size⟩ w8 := by
  refine leaves_cons (f := 15) (args := #[.pointer (some ⟨w.heap.size, 0, none⟩), .pointer (some ⟨w.heap.size + 1, 0, none⟩), .pointer (some ⟨w.heap.size + 1 + 1, 0, none⟩)]) (by simp) (by simp [go_sem]) ?_
  refine (catch_none _ _ _ w8).mono ?_
  rintro e u' w9 ⟨rfl, rfl, rfl⟩
  have y0 := block_cell h0 0
  have y1 := block_cell h1 0
  have y2 := block_cell h2 0
  simp [Leaves, settle, results, Tryd.results8, go_sem, t2, t3, t4, y0, y1, y2]
  exact hP
/-- What stands between two steps. -/
structure Pz (w : World) (acc : List Stp) (v : Value) (xs : List Value) (wr : World) : Prop where
  hl : wr.heap[w.heap.size]? = some (.cells #[v] 24 (0, 0))
  ha : wr.heap[w.heap.size + 1]? = some (.cells #[.int .i64 0] 3 (0, 0))
  he : wr.heap[w.heap.size + 1 + 1]? = some (.cells #[.nilIface] 26 (0, 0))
  own : Own wr (w.heap.size + 1 + 1 + 1 + 1) 30 4 v acc.length xs
  st : OwnStps wr w.heap.size acc xs
  bel : Below w.heap.size w wr
theorem Pz.same {w : World} {acc : List Stp} {v : Value} {xs : List Value} {wr w' : World} (h : Pz w acc v xs wr) (hu : ∀ k, k < wr.heap.size → k ≠ w.heap.size + 1 + 1 + 1 → (∀ c fr, wr.heap[k]? ≠ some (.cells c 55 fr)) → w'.heap[k]? = wr.heap[k]?) (hb : Below (w.heap.size + 1 + 1 + 1) wr w') (h3 : ∃ c fr, wr.heap[w.heap.size + 1 + 1 + 1]? = some (.cells c 55 fr)) : Pz w acc v xs w' := by
  have hs : ∀ T, 55 ≠ T → Same T wr w' := fun T hT k c fr hk => by
    refine (hu k (Array.getElem?_eq_some_iff.1 hk).1 (fun e => ?_) (fun c' fr' e => ?_)).trans hk
    · obtain ⟨c', fr', h3⟩ := h3
      rw [e] at hk
      rw [hk] at h3
      injection h3 with h3
      injection h3 with _ h3 _
      exact hT h3.symm
    · rw [hk] at e
      injection e with e
      injection e with _ e _
      exact hT e.symm
  exact ⟨hs _ (by decide) _ _ _ h.hl, hs _ (by decide) _ _ _ h.ha, hs _ (by decide) _ _ _ h.he, h.own.same (hs _ (by decide)), h.st.same (hs _ (by decide)), h.bel.trans (hb.mono (by omega))⟩
theorem Pz.rd {w : World} {acc : List Stp} {v : Value} {xs : List Value} {wr w' : World} {s : ByteArray} {l : List UInt8} (h : Pz w acc v xs wr) (hk : RdK (w.heap.size + 1 + 1 + 1) wr w') (ha : RdAt wr (w.heap.size + 1 + 1 + 1) s l) : Pz w acc v xs w' :=
  h.same (fun k h1 h2 _ => hk.up k h1 h2) hk.bel (by obtain ⟨p, _, _, h3⟩ := ha; exact ⟨_, _, h3⟩)
theorem Pz.push {w : World} {acc : List Stp} {v : Value} {xs : List Value} {w8 w9 : World} {x : Stp} {v3 v9 : Value} (h : Pz w acc v xs w8) (h1 : Sm x.bond) (h2 : Sm x.kind) (h3 : ∀ t ∈ x.tests, t.ok) (ho : Own w8 w.heap.size 40 5 v3 x.tests.length (x.tests.flatMap Tst.enc))
    (hg : (w8.alloc (.cells #[.string x.bond, .bool x.back, .string x.kind, v3] 30)).grownBy w9 v.ownBlock) (hown : Own w9 (w.heap.size + 1 + 1 + 1 + 1) 30 4 v9 (acc.length + 1) (xs ++ [.string x.bond, .bool x.back, .string x.kind, v3])) :
    Pz w (acc ++ [x]) v9 (xs ++ [.string x.bond, .bool x.back, .string x.kind, v3]) (w9.setCell ⟨w.heap.size, 0, none⟩ v9) := by
  have hba := (Below.refl w8.heap.size w8).alloc (Nat.le_refl _) (.cells #[.string x.bond, .bool x.back, .string x.kind, v3] 30)
  have hoA := h.own.alloc (.cells #[.string x.bond, .bool x.back, .string x.kind, v3] 30)
  have up : ∀ {k : Nat} {c : Array Value} {T : TypeId}, w8.heap[k]? = some (.cells c T (0, 0)) → T ≠ 30 → w9.heap[k]? = some (.cells c T (0, 0)) := fun hk hT =>
    grown_block hg ((hba.block _ (Array.getElem?_eq_some_iff.1 hk).1).trans hk) (hoA.ne_block ((hba.block _ (Array.getElem?_eq_some_iff.1 hk).1).trans hk) hT)
  have g0 := up h.hl (by decide)
  have hsT : Same 40 w8 (w9.setCell ⟨w.heap.size, 0, none⟩ v9) := ((Same.alloc w8 _).trans (Same.grown hoA (by decide) hg)).trans (Same.setCell (p := ⟨w.heap.size, 0, none⟩) g0 (by decide) _)
  have hlo : ∀ kk, v.ownBlock = some kk → w.heap.size + 1 + 1 + 1 + 1 ≤ kk := fun kk e => (hoA.lt kk e).1
  refine ⟨setCell_block g0 0 _, setCell_oth (up h.ha (by decide)) (by omega) 0 _, setCell_oth (up h.he (by decide)) (by omega) 0 _, ?_, ?_, ?_⟩
  · rw [List.length_append]
    exact hown.same (Same.setCell (p := ⟨w.heap.size, 0, none⟩) g0 (by decide) _)
  · exact (h.st.same hsT).snoc h1 h2 h3 (ho.same hsT)
  · exact ((h.bel.alloc h.bel.size _).grown hg (Nat.le_trans h.bel.size hba.size) (fun kk e => by have := hlo kk e; omega)).setCell (p := ⟨w.heap.size, 0, none⟩) (Nat.le_refl _) _
theorem RdAt.push {w : World} {s : ByteArray} {acc : List Stp} {v : Value} {xs : List Value} {w8 w9 : World} {o : Obj} {l : List UInt8} {v9 : Value} (h : RdAt w8 (w.heap.size + 1 + 1 + 1) s l) (_hq : Pz w acc v xs w8) (hg : (w8.alloc o).grownBy w9 v.ownBlock) (ho : Own (w8.alloc o) (w.heap.size + 1 + 1 + 1 + 1) 30 4 v acc.length xs) :
    RdAt (w9.setCell ⟨w.heap.size, 0, none⟩ v9) (w.heap.size + 1 + 1 + 1) s l := by
  obtain ⟨p', g1, g2, g3⟩ := h.below ((Below.refl w8.heap.size w8).alloc (Nat.le_refl _) o)
  exact ⟨p', g1, g2, setCell_oth (grown_block hg g3 (ho.ne_block g3 (by decide))) (by omega) 0 _⟩
set_option maxRecDepth 100000 in
set_option maxHeartbeats 16000000 in
theorem parse_any (s : ByteArray) (hs : Sm s) (w : World) (hT : TxOk w) (hG : Sgn5 w) :
    Calls Tryd.prog 8 #[.string s] w (ParseR s w) := by
  have hmf : ∀ (fn : Fn) (first cap : Array Value) (w : World), (Instr.makeFunc fn first cap).run Tryd.prog w = .ok (.func fn first cap) w := fun _ _ _ _ => rfl
  obtain ⟨i0, ei, ez, ez1, ez2⟩ := info_parts stp_info0
  obtain ⟨WA, hWA⟩ : ∃ x, x = w.alloc (.cells #[.slice none 0 0] 24) := ⟨_, rfl⟩
  obtain ⟨WB, hWB⟩ : ∃ x, x = WA.alloc (.cells #[.int .i64 0] 3) := ⟨_, rfl⟩
  obtain ⟨WC, hWC⟩ : ∃ x, x = WB.alloc (.cells #[.nilIface] 26) := ⟨_, rfl⟩
  obtain ⟨W1, hW1⟩ : ∃ x, x = WC.alloc (.cells #[.string s, .int .i64 0] 55) := ⟨_, rfl⟩
  have sA : WA.heap.size = w.heap.size + 1 := by rw [hWA]; simp
  have sB : WB.heap.size = w.heap.size + 1 + 1 := by rw [hWB]; simp [sA]
  have sC : WC.heap.size = w.heap.size + 1 + 1 + 1 := by rw [hWC]; simp [sB]
  have bA : Below w.heap.size w WA := by rw [hWA]; exact (Below.refl _ _).alloc (Nat.le_refl _) _
  have bC : Below w.heap.size w WC := by rw [hWC, hWB]; exact (bA.alloc (by omega) _).alloc (by simp; omega) _
  have qA : WA.heap[w.heap.size]? = some (.cells #[.slice none 0 0] 24 (0, 0)) := by rw [hWA]; exact heap_alloc_new _ _
  have qB : WB.heap[w.heap.size + 1]? = some (.cells #[.int .i64 0] 3 (0, 0)) := by rw [hWB, ← sA]; exact heap_alloc_new _ _
  have qC : WC.heap[w.heap.size + 1 + 1]? = some (.cells #[.nilIface] 26 (0, 0)) := by rw [hWC, ← sB]; exact heap_alloc_new _ _
  have qR : W1.heap[w.heap.size + 1 + 1 + 1]? = some (.cells #[.string s, .int .i64 0] 55 (0, 0)) := by rw [hW1, ← sC]; exact heap_alloc_new _ _
  have up : ∀ {W : World} {o o' : Obj} {k : Nat}, W.heap[k]? = some o → (W.alloc o').heap[k]? = some o := fun h => (((Below.refl _ _).alloc (Nat.le_refl _) _).block _ (Array.getElem?_eq_some_iff.1 h).1).trans h
  have HQ0 : Hid (Pz w [] (.slice none 0 0) [] W1) := by
    have c1 : Below WC.heap.size WC W1 := by rw [hW1]; exact (Below.refl _ _).alloc (Nat.le_refl _) _
    refine ⟨?_, ?_, ?_, Own.nil _ _ _ _, rfl, bC.trans (c1.mono (by omega))⟩
    · rw [hW1]; refine up ?_; rw [hWC]; refine up ?_; rw [hWB]; exact up qA
    · rw [hW1]; refine up ?_; rw [hWC]; exact up qB
    · rw [hW1]; exact up qC
  have HA0 : Hid (RdAt W1 (w.heap.size + 1 + 1 + 1) s s.data.toList) := ⟨0, by rw [Array.length_toList, Nat.zero_add]; rfl, rfl, qR⟩
  have HTC := Lib.hid hT
  have HGC := Lib.hid hG
  have H1 := Lib.hid hW1
  have HC := Lib.hid hWC
  have HB := Lib.hid hWB
  have HAA := Lib.hid hWA
  clear hT hG sA sB sC bA bC qA qB qC qR up hWA hWB hWC hW1
  go_enter_defers Tryd.func8, Tryd.ntmps8
  go_upto_region 3 with fail
  rw [← HAA.out, ← HB.out, ← HC.out, ← H1.out]
  clear HAA HB HC H1 hmf
  have HLS : Hid (s.size ≤ 1048576) := hs
  -- a cut: the mask [.k, .k, .k, .k, .k, .k, .k, .k, .k, .k, .k, .y 11, .y 12, .y 13, .y 14, .y 15, .k, .k, .k, .k, .k, .k, .k, .k, .k, .k, .k, .k, .k, .k, .k, .k, .k, .k], the slots 0 0 0 0, the relation fun _ _ _ _ wx => ∃ (acc : List Stp) (xs : List Value) (v : Value) (m : Nat) (l1 : List UInt8), Hid (askR s.data.toList = pAsk acc m l1) ∧ Hid (acc.length + l1.length ≤ 1048577 ∧ l1.length < m) ∧ Hid (Pz w acc v xs wx) ∧ Hid (RdAt wx (w.heap.size + 1 + 1 + 1) s l1)
  apply wp_cutm [.k, .k, .k, .k, .k, .k, .k, .k, .k, .k, .k, .y 11, .y 12, .y 13, .y 14, .y 15, .k, .k, .k, .k, .k, .k, .k, .k, .k, .k, .k, .k, .k, .k, .k, .k, .k, .k] 0 0 0 0 (by decide +kernel) (fun _ _ _ _ wx => ∃ (acc : List Stp) (xs : List Value) (v : Value) (m : Nat) (l1 : List UInt8), Hid (askR s.data.toList = pAsk acc m l1) ∧ Hid (acc.length + l1.length ≤ 1048577 ∧ l1.length < m) ∧ Hid (Pz w acc v xs wx) ∧ Hid (RdAt wx (w.heap.size + 1 + 1 + 1) s l1))
  case first =>
    -- within a cut
    intro JJ KK hmeet hnext
    have ha0 : RdAt W1.drew (w.heap.size + 1 + 1 + 1) s s.data.toList := HA0.out
    have HQD : Hid (Pz w [] (.slice none 0 0) [] W1.drew) := HQ0.out.rd (RdK.drew (RdK.refl _ _)) HA0.out
    have hx := step_rd true s hs (w.heap.size + 1 + 1 + 1) s.data.toList W1.drew w HTC.out HGC.out (by omega) HQD.out.bel ha0
    have HADd := Lib.hid ha0
    have z0 := block_cell HQ0.out.hl 0
    have z0d := block_cell HQD.out.hl 0
    clear ha0
    cases hp : pKind .empty false s.data.toList with
    | error n =>
      rw [show pFst true s.data.toList = .error n from hp] at hx
      have HERR := Lib.hid (ask_e hp)
      clear hp
      -- the reading stops in this step: true: the first one?; facts HQD, HADd, HERR, hx
      first
        | (go_region_law
             (first
               | (refine step_callp rfl 16 #[.pointer (some ⟨w.heap.size + 1 + 1 + 1, 0, none⟩), .bool true] (by kernel_rfl) hx ?_ ?_
                  · clear hx
                    rintro e w8 ⟨hk8, hn, rfl⟩
                    have hq8 := HQD.out.rd hk8 HADd.out
                    exact ⟨_, rfl, door_panic rfl rfl rfl hq8.hl hq8.ha hq8.he hq8.bel HERR.out rfl⟩)))
        | fail
      all_goals trivial
    | ok xr =>
      obtain ⟨x, l1⟩ := xr
      rw [show pFst true s.data.toList = .ok (x, l1) from hp] at hx
      have HGO := Lib.hid (ask_go hp)
      clear hp
      -- a step more, in a region that draws: 11, 14: the row's slot and the piece's; true: the first one?; []: the steps so far; .slice none 0 0: the row's value; []: its cells; 0: how many; facts HQD (Pz), HADd (RdAt), hx
      first
        | (go_region_law
             (first
               | (refine step_callx rfl 16 #[.pointer (some ⟨w.heap.size + 1 + 1 + 1, 0, none⟩), .bool true] (by kernel_rfl) hx ?_
                  clear hx
                  rintro e w8 ⟨hk8, u8, rfl, ⟨v3, hu8, hm1, hm2, hm3, ho3⟩, ha8⟩
                  subst hu8
                  obtain ⟨A3, c3, hv3, _, _⟩ := ho3.form
                  subst hv3
                  refine ⟨_, rfl, ?_⟩
                  have hq8 := HQD.out.rd hk8 HADd.out
                  have y8 := block_cell hq8.hl 0
                  have HQ8 := Lib.hid hq8
                  have HA8 := Lib.hid ha8
                  have HOT := Lib.hid ho3
                  have HMM := Lib.hid (And.intro hm1 (And.intro hm2 hm3))
                  have HO8 : Hid (Own (w8.alloc (.cells #[.string x.bond, .bool x.back, .string x.kind, .slice A3 x.tests.length c3] 30)) (w.heap.size + 1 + 1 + 1 + 1) 30 4 (.slice none 0 0) (0) ([])) := hq8.own.alloc _
                  have HN8 := Lib.hid (four_new0 w8 (.string x.bond) (.bool x.back) (.string x.kind) (.slice A3 x.tests.length c3) 30)
                  have hba := (Below.refl w8.heap.size w8).alloc (Nat.le_refl _) (.cells #[.string x.bond, .bool x.back, .string x.kind, .slice A3 x.tests.length c3] 30)
                  have HSA : Hid (w.heap.size + 1 + 1 + 1 + 1 ≤ (w8.alloc (.cells #[.string x.bond, .bool x.back, .string x.kind, .slice A3 x.tests.length c3] 30)).heap.size) := Nat.le_trans ha8.lt hba.size
                  have hzA := (hba.block _ (Array.getElem?_eq_some_iff.1 hq8.hl).1).trans hq8.hl
                  have yA := block_cell hzA 0
                  have HZA := Lib.hid hzA
                  clear hk8 ha8 hq8 hm1 hm2 hm3 ho3 hba hzA)
               | (refine step_here rfl ?_
                  refine wp_append_q _ (.tmp 11) (.tmp 14) _ rfl (w.heap.size + 1 + 1 + 1 + 1) 30 i0 (.agg #[.string .empty, .bool false, .string .empty, .slice none 0 0]) 4 64 Tryd.underlying24 ei ez ez1 ez2 rfl (by decide) (.slice none 0 0) (0) ([]) rfl HO8.out (some ⟨w8.heap.size, 0, none⟩) 1 1 [.string x.bond, .bool x.back, .string x.kind, .slice A3 x.tests.length c3] rfl rfl (fun _ => ⟨_, rfl, fun j u hj => by rw [addr_add, Nat.zero_add]; exact HN8.out j u hj⟩) (fun u hu => by simp at hu; rcases hu with rfl | rfl | rfl | rfl <;> rfl) (by go_light; unfold maxLen; omega) (by go_light; omega) HSA.out ?_
                  intro v9 w9 hown9 hg9 hat9
                  have hz9 := grown_block hg9 HZA.out (HO8.out.ne_block HZA.out (by decide))
                  have y9 := block_cell hz9 0
                  have f9 := block_free hz9 0
                  have hq9 := HQ8.out.push (x := x) HMM.out.1 HMM.out.2.1 HMM.out.2.2 HOT.out hg9 hown9
                  have ha9 := HA8.out.push (v9 := v9) HQ8.out hg9 HO8.out
                  obtain ⟨A9, c9, hv9, _, _⟩ := hown9.form
                  subst hv9
                  have HQ9 := Lib.hid hq9
                  have HA9 := Lib.hid ha9
                  clear hown9 hg9 hat9 hz9 hq9 ha9)))
        | fail
      all_goals
        have HNL : Hid (([] ++ [x] : List Stp).length + l1.length ≤ 1048577 ∧ l1.length < l1.length + 1) := by
          have g := HA9.out.len
          have g2 := HLS.out
          exact ⟨by show 1 + l1.length ≤ _; omega, Nat.lt_succ_self _⟩
        clear z0 z0d y8 yA y9 f9
        go_wp2_with fail
        -- a way's end
        refine Met.intro ?_
        go_step
        refine Forgot.at _ _ _ _ _ rfl rfl rfl rfl rfl rfl ?_
        exact ⟨_, _, _, _, l1, HGO, HNL, HQ9, HA9⟩
  case rest =>
  -- behind a cut: the names of the slots' values _ _ _ _ (four)
  intro ff _ _ _ _ wc hcut
  dsimp only [spread]
  clear HQ0 HA0
  obtain ⟨w2, hw2⟩ : ∃ y : World, y = wc := ⟨_, rfl⟩
  subst hw2
  obtain ⟨acc, xs, v, m, l1, HGO, HNL, HQ, HA⟩ := hcut
  go_upto_block 0 with fail
  -- a cut: the mask [.k, .k, .k, .k, .k, .k, .k, .k, .k, .k, .k, .k, .k, .k, .k, .k, .y 16, .y 17, .y 18, .y 19, .y 20, .y 21, .y 22, .y 23, .y 24, .y 25, .y 26, .y 27, .k, .k, .k, .k, .k, .k], the slots 0 0 0 0, the relation fun _ _ _ _ wx => ∃ (acc : List Stp) (xs : List Value) (v : Value), Hid (askR s.data.toList = .ok acc) ∧ Hid (Pz w acc v xs wx)
  apply wp_cutm [.k, .k, .k, .k, .k, .k, .k, .k, .k, .k, .k, .k, .k, .k, .k, .k, .y 16, .y 17, .y 18, .y 19, .y 20, .y 21, .y 22, .y 23, .y 24, .y 25, .y 26, .y 27, .k, .k, .k, .k, .k, .k] 0 0 0 0 (by decide +kernel) (fun _ _ _ _ wx => ∃ (acc : List Stp) (xs : List Value) (v : Value), Hid (askR s.data.toList = .ok acc) ∧ Hid (Pz w acc v xs wx))
  case first =>
    -- within a cut
    intro JJ KK hmeet hnext
    go_wp2_with fail
    -- a loop: the mask [.k, .k, .k, .k, .k, .k, .k, .k, .k, .k, .k, .k, .k, .k, .k, .k, .y 16, .y 17, .y 18, .y 19, .y 20, .y 21, .y 22, .y 23, .y 24, .y 25, .y 26, .y 27, .k, .k, .k, .k, .k, .k], the slots 0 0 0 0, the relation fun _ _ _ _ wr => ∃ (acc : List Stp) (xs : List Value) (v : Value) (m : Nat) (l1 : List UInt8), Hid (askR s.data.toList = pAsk acc m l1) ∧ Hid (acc.length + l1.length ≤ 1048577 ∧ l1.length < m) ∧ Hid (Pz w acc v xs wr) ∧ Hid (RdAt wr (w.heap.size + 1 + 1 + 1) s l1), the measure fun _ _ _ _ wr => rdM wr (w.heap.size + 1 + 1 + 1) s.size
    apply wp_loopm [.k, .k, .k, .k, .k, .k, .k, .k, .k, .k, .k, .k, .k, .k, .k, .k, .y 16, .y 17, .y 18, .y 19, .y 20, .y 21, .y 22, .y 23, .y 24, .y 25, .y 26, .y 27, .k, .k, .k, .k, .k, .k] 0 0 0 0 (by decide +kernel) rfl (fun _ _ _ _ wr => ∃ (acc : List Stp) (xs : List Value) (v : Value) (m : Nat) (l1 : List UInt8), Hid (askR s.data.toList = pAsk acc m l1) ∧ Hid (acc.length + l1.length ≤ 1048577 ∧ l1.length < m) ∧ Hid (Pz w acc v xs wr) ∧ Hid (RdAt wr (w.heap.size + 1 + 1 + 1) s l1)) (fun _ _ _ _ wr => rdM wr (w.heap.size + 1 + 1 + 1) s.size) _ _ _ _ rfl rfl rfl rfl
    case start => exact ⟨acc, xs, v, m, l1, HGO, HNL, HQ, HA⟩
    case round =>
      -- a round: the names _ _ _ _ (four), the world's name
      intro ff _ _ _ _ wr hrel
      dsimp only [spread]
      clear HGO HNL HQ HA
      obtain ⟨acc, xs, v, m, l1, HGO, HNL, HQ, HA⟩ := hrel
      obtain ⟨wo, hwo⟩ : ∃ wo : World, wo = wr := ⟨_, rfl⟩
      subst hwo
      have HM := Lib.hid (rdM_at HA.out)
      obtain ⟨p, hp1, hp2, hp3⟩ := HA.out
      have x1 := block_cell hp3 1
      obtain ⟨m', hm'⟩ : ∃ m', m = m' + 1 := ⟨m - 1, by have := HNL.out.2; omega⟩
      subst hm'
      cases l1 with
      | nil =>
        have hn : ¬ (p : Int) < (s.size : Int) := by simp at hp1; omega
        have HE : Hid (askR s.data.toList = .ok acc) := by unfold Hid; rw [HGO.out, pAsk_end]
        clear hp1 hp2 hp3
        go_wp2_with fail
        -- a way's end
        refine Met.intro ?_
        go_step
        refine Forgot.at _ _ _ _ _ rfl rfl rfl rfl rfl rfl ?_
        exact ⟨acc, xs, v, HE, HQ⟩
      | cons y l1 =>
        have hlt : (p : Int) < (s.size : Int) := by simp at hp1; omega
        clear hp1 hp2 hp3
        go_upto_region 5 with fail
        clear x1
        obtain ⟨Az, cz, hvz, _, _⟩ := HQ.out.own.form
        subst hvz
        have hal : acc.length ≤ 1048577 := by have := HNL.out.1; omega
        have ha0 : RdAt wo.drew (w.heap.size + 1 + 1 + 1) s (y :: l1) := HA.out
        have HQD : Hid (Pz w acc (.slice Az acc.length cz) xs wo.drew) := HQ.out.rd (RdK.drew (RdK.refl _ _)) HA.out
        have hx := step_rd false s hs (w.heap.size + 1 + 1 + 1) (y :: l1) wo.drew w HTC.out HGC.out (by omega) HQD.out.bel ha0
        have HADd := Lib.hid ha0
        have z0 := block_cell HQ.out.hl 0
        have z0d := block_cell HQD.out.hl 0
        clear ha0
        cases hp : pStep (y :: l1) with
        | error n =>
          rw [show pFst false (y :: l1) = .error n from hp] at hx
          have HERR : Hid (askR s.data.toList = .error n) := by unfold Hid; rw [HGO.out]; exact pAsk_e (by simp) hp
          clear hp
          -- the reading stops in this step: false: the first one?; facts HQD, HADd, HERR, hx
          first
            | (go_region_law
                 (first
                   | (refine step_callp rfl 16 #[.pointer (some ⟨w.heap.size + 1 + 1 + 1, 0, none⟩), .bool false] (by kernel_rfl) hx ?_ ?_
                      · clear hx
                        rintro e w8 ⟨hk8, hn, rfl⟩
                        have hq8 := HQD.out.rd hk8 HADd.out
                        exact ⟨_, rfl, door_panic rfl rfl rfl hq8.hl hq8.ha hq8.he hq8.bel HERR.out rfl⟩)))
            | fail
          all_goals trivial
        | ok xr =>
          obtain ⟨x, l2⟩ := xr
          rw [show pFst false (y :: l1) = .ok (x, l2) from hp] at hx
          have HGO2 : Hid (askR s.data.toList = pAsk (acc ++ [x]) m' l2) := by unfold Hid; rw [HGO.out]; exact pAsk_go (by simp) hp
          have HLT : Hid (l2.length < (y :: l1).length) := stp_len hp
          have HNL2 : Hid ((acc ++ [x]).length + l2.length ≤ 1048577 ∧ l2.length < m') := by
            have g1 := stp_len hp
            have g2 := HNL.out
            rw [List.length_cons] at g1 g2
            rw [List.length_append, List.length_singleton]
            exact ⟨by omega, by omega⟩
          clear hp
          -- a step more, in a region that draws: 23, 26: the row's slot and the piece's; false: the first one?; acc: the steps so far; .slice Az acc.length cz: the row's value; xs: its cells; acc.length: how many; facts HQD (Pz), HADd (RdAt), hx
          first
            | (go_region_law
                 (first
                   | (refine step_callx rfl 16 #[.pointer (some ⟨w.heap.size + 1 + 1 + 1, 0, none⟩), .bool false] (by kernel_rfl) hx ?_
                      clear hx
                      rintro e w8 ⟨hk8, u8, rfl, ⟨v3, hu8, hm1, hm2, hm3, ho3⟩, ha8⟩
                      subst hu8
                      obtain ⟨A3, c3, hv3, _, _⟩ := ho3.form
                      subst hv3
                      refine ⟨_, rfl, ?_⟩
                      have hq8 := HQD.out.rd hk8 HADd.out
                      have y8 := block_cell hq8.hl 0
                      have HQ8 := Lib.hid hq8
                      have HA8 := Lib.hid ha8
                      have HOT := Lib.hid ho3
                      have HMM := Lib.hid (And.intro hm1 (And.intro hm2 hm3))
                      have HO8 : Hid (Own (w8.alloc (.cells #[.string x.bond, .bool x.back, .string x.kind, .slice A3 x.tests.length c3] 30)) (w.heap.size + 1 + 1 + 1 + 1) 30 4 (.slice Az acc.length cz) (acc.length) (xs)) := hq8.own.alloc _
                      have HN8 := Lib.hid (four_new0 w8 (.string x.bond) (.bool x.back) (.string x.kind) (.slice A3 x.tests.length c3) 30)
                      have hba := (Below.refl w8.heap.size w8).alloc (Nat.le_refl _) (.cells #[.string x.bond, .bool x.back, .string x.kind, .slice A3 x.tests.length c3] 30)
                      have HSA : Hid (w.heap.size + 1 + 1 + 1 + 1 ≤ (w8.alloc (.cells #[.string x.bond, .bool x.back, .string x.kind, .slice A3 x.tests.length c3] 30)).heap.size) := Nat.le_trans ha8.lt hba.size
                      have hzA := (hba.block _ (Array.getElem?_eq_some_iff.1 hq8.hl).1).trans hq8.hl
                      have yA := block_cell hzA 0
                      have HZA := Lib.hid hzA
                      clear hk8 ha8 hq8 hm1 hm2 hm3 ho3 hba hzA)
                   | (refine step_here rfl ?_
                      refine wp_append_q _ (.tmp 23) (.tmp 26) _ rfl (w.heap.size + 1 + 1 + 1 + 1) 30 i0 (.agg #[.string .empty, .bool false, .string .empty, .slice none 0 0]) 4 64 Tryd.underlying24 ei ez ez1 ez2 rfl (by decide) (.slice Az acc.length cz) (acc.length) (xs) rfl HO8.out (some ⟨w8.heap.size, 0, none⟩) 1 1 [.string x.bond, .bool x.back, .string x.kind, .slice A3 x.tests.length c3] rfl rfl (fun _ => ⟨_, rfl, fun j u hj => by rw [addr_add, Nat.zero_add]; exact HN8.out j u hj⟩) (fun u hu => by simp at hu; rcases hu with rfl | rfl | rfl | rfl <;> rfl) (by go_light; unfold maxLen; omega) (by go_light; omega) HSA.out ?_
                      intro v9 w9 hown9 hg9 hat9
                      have hz9 := grown_block hg9 HZA.out (HO8.out.ne_block HZA.out (by decide))
                      have y9 := block_cell hz9 0
                      have f9 := block_free hz9 0
                      have hq9 := HQ8.out.push (x := x) HMM.out.1 HMM.out.2.1 HMM.out.2.2 HOT.out hg9 hown9
                      have ha9 := HA8.out.push (v9 := v9) HQ8.out hg9 HO8.out
                      obtain ⟨A9, c9, hv9, _, _⟩ := hown9.form
                      subst hv9
                      have HQ9 := Lib.hid hq9
                      have HA9 := Lib.hid ha9
                      clear hown9 hg9 hat9 hz9 hq9 ha9)))
            | fail
          all_goals
            have HM9 := Lib.hid (rdM_at HA9.out)
            clear z0 z0d y8 yA y9 f9
            go_wp2_with fail
            -- a round's end: the relation, the measure
            apply Rounded.at _ _ _ _ _ rfl rfl rfl rfl rfl rfl
            case rel => exact ⟨_, _, _, m', l2, HGO2, HNL2, HQ9, HA9⟩
            case measure => rw [HM9.out, HM.out]; exact HLT.out
  case rest =>
  -- behind a cut: the names of the slots' values _ _ _ _ (four)
  intro ff _ _ _ _ wc hcut
  dsimp only [spread]
  clear HGO HNL HQ HA
  obtain ⟨w3, hw3⟩ : ∃ y : World, y = wc := ⟨_, rfl⟩
  subst hw3
  obtain ⟨acc, xs, v, HE, HQ⟩ := hcut
  have hsl := HQ.out.own.stps HQ.out.st
  have HSL := Lib.hid hsl
  have hx := apath_any acc v w3 hsl
  obtain ⟨Az, cz, hvz, _, _⟩ := HQ.out.own.form
  subst hvz
  have z0 := block_cell HQ.out.hl 0
  obtain ⟨ae, hae⟩ : ∃ ae, ae = askE acc := ⟨_, rfl⟩
  have HAE := Lib.hid hae
  rw [← hae] at hx
  clear hsl hae
  go_wp2_with fail
  refine hx.mono ?_
  clear hx z0
  rintro e w4 ⟨rfl, hb4⟩
  have hl4 := (hb4.block _ (Array.getElem?_eq_some_iff.1 HQ.out.hl).1).trans HQ.out.hl
  have ha4 := (hb4.block _ (Array.getElem?_eq_some_iff.1 HQ.out.ha).1).trans HQ.out.ha
  have he4 := (hb4.block _ (Array.getElem?_eq_some_iff.1 HQ.out.he).1).trans HQ.out.he
  have HB4 := Lib.hid (HQ.out.bel.trans (hb4.mono HQ.out.bel.size))
  have HO4 := Lib.hid (HQ.out.own.below hb4)
  have HS4 := Lib.hid (HQ.out.st.same (Same.below hb4))
  have HH4 := Lib.hid (And.intro hl4 (And.intro ha4 he4))
  have z0 := block_cell hl4 0
  have z1 := block_cell ha4 0
  have z2 := block_cell he4 0
  have f0 := block_free hl4 0
  have f1 := block_free ha4 0
  have f2 := block_free he4 0
  clear hb4 hl4 ha4 he4
  by_cases hz : ae = 0
  · rw [errV_zero hz]
    have HR := Lib.hid (read_fine HE.out (by rw [← HAE.out]; exact hz))
    clear hz
    go_wp2_with fail
    have g0 := HH4.out.1
    have g1 := HH4.out.2.1
    have g2 := HH4.out.2.2
    have gA := setCell_block g0 0 (.slice Az acc.length cz)
    have gB : (w4.setCell ⟨w.heap.size, 0, none⟩ (.slice Az acc.length cz)).heap[w.heap.size + 1]? = _ := setCell_oth g1 (by omega) 0 (.slice Az acc.length cz)
    have gC : (w4.setCell ⟨w.heap.size, 0, none⟩ (.slice Az acc.length cz)).heap[w.heap.size + 1 + 1]? = _ := setCell_oth g2 (by omega) 0 (.slice Az acc.length cz)
    have gC2 := setCell_oth gC (by omega : w.heap.size + 1 + 1 ≠ w.heap.size + 1) 0 (.int .i64 0)
    have hS : ∀ T, 24 ≠ T → 3 ≠ T → 26 ≠ T → Same T w4 (((w4.setCell ⟨w.heap.size, 0, none⟩ (.slice Az acc.length cz)).setCell ⟨w.heap.size + 1, 0, none⟩ (.int .i64 0)).setCell ⟨w.heap.size + 1 + 1, 0, none⟩ (.nilIface)) := fun T t1 t2 t3 =>
      ((Same.setCell (p := ⟨w.heap.size, 0, none⟩) g0 t1 _).trans (Same.setCell (p := ⟨w.heap.size + 1, 0, none⟩) gB t2 _)).trans (Same.setCell (p := ⟨w.heap.size + 1 + 1, 0, none⟩) gC2 t3 _)
    refine door_ret rfl rfl rfl (setCell_oth (setCell_oth gA (by omega) 0 _) (by omega) 0 _) (setCell_oth (setCell_block gB 0 _) (by omega) 0 _) (setCell_block gC2 0 _) ⟨.slice Az acc.length cz, ?_, ?_, ?_⟩
    · rw [HR.out.1, HR.out.2.1]; rfl
    · rw [HR.out.2.2]
      exact (HO4.out.same (hS _ (by decide) (by decide) (by decide))).stps (HS4.out.same (hS _ (by decide) (by decide) (by decide)))
    · exact ((HB4.out.setCell (p := ⟨w.heap.size, 0, none⟩) (Nat.le_refl _) _).setCell (p := ⟨w.heap.size + 1, 0, none⟩) (Nat.le_succ _) _).setCell (p := ⟨w.heap.size + 1 + 1, 0, none⟩) (Nat.le_succ_of_le (Nat.le_succ _)) _
  · rw [errV_some hz]
    have HR := Lib.hid (read_bad HE.out (by rw [← HAE.out]; exact hz))
    have HES := Lib.hid (errV_some hz)
    clear hz
    go_wp2_with fail
    have g0 := HH4.out.1
    have g1 := HH4.out.2.1
    have g2 := HH4.out.2.2
    have gA := setCell_block g0 0 (.slice none 0 0)
    have gB : (w4.setCell ⟨w.heap.size, 0, none⟩ (.slice none 0 0)).heap[w.heap.size + 1]? = _ := setCell_oth g1 (by omega) 0 (.slice none 0 0)
    have gC : (w4.setCell ⟨w.heap.size, 0, none⟩ (.slice none 0 0)).heap[w.heap.size + 1 + 1]? = _ := setCell_oth g2 (by omega) 0 (.slice none 0 0)
    have gC2 := setCell_oth gC (by omega : w.heap.size + 1 + 1 ≠ w.heap.size + 1) 0 (.int .i64 0)
    have hS : ∀ T, 24 ≠ T → 3 ≠ T → 26 ≠ T → Same T w4 (((w4.setCell ⟨w.heap.size, 0, none⟩ (.slice none 0 0)).setCell ⟨w.heap.size + 1, 0, none⟩ (.int .i64 0)).setCell ⟨w.heap.size + 1 + 1, 0, none⟩ (.iface 46 (.int .i64 ae))) := fun T t1 t2 t3 =>
      ((Same.setCell (p := ⟨w.heap.size, 0, none⟩) g0 t1 _).trans (Same.setCell (p := ⟨w.heap.size + 1, 0, none⟩) gB t2 _)).trans (Same.setCell (p := ⟨w.heap.size + 1 + 1, 0, none⟩) gC2 t3 _)
    refine door_ret rfl rfl rfl (setCell_oth (setCell_oth gA (by omega) 0 _) (by omega) 0 _) (setCell_oth (setCell_block gB 0 _) (by omega) 0 _) (setCell_block gC2 0 _) ⟨.slice none 0 0, ?_, ?_, ?_⟩
    · rw [HR.out.1, HR.out.2.1, ← HAE.out, HES.out]; rfl
    · rw [HR.out.2.2]
      exact sl_none _
    · exact ((HB4.out.setCell (p := ⟨w.heap.size, 0, none⟩) (Nat.le_refl _) _).setCell (p := ⟨w.heap.size + 1, 0, none⟩) (Nat.le_succ _) _).setCell (p := ⟨w.heap.size + 1 + 1, 0, none⟩) (Nat.le_succ_of_le (Nat.le_succ _)) _
end Go.Proofs.YtakidgndipnciaaDoor
