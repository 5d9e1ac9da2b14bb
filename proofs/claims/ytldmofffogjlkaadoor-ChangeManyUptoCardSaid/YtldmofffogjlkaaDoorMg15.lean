/- Parts: OwnT, ChA, ChP. -/
import Derived.Test.YtldmofffogjlkaaDoorMg14
import Derived.Deep.RegionHeld3
import Derived.Deep.RegionLaw
/- Contract: index.OwnSchema. -/
namespace Go.Proofs.YtldmofffogjlkaaDoor
open Go Go.RowKit



theorem clone_bnds_info : (Tryd.prog.info? 36).map (fun i => (i.zero, i.size, i.bytes)) = some (some (.agg #[.string .empty, .string .empty, .string .empty, .int .i64 0, .int .i64 0]), 5, 64) := by kernel_rfl
set_option maxHeartbeats 2000000 in
theorem clone_bnds {w : World} {v : Value} {l : List Bnd} (hv : Sl bndL w v l) (hl : l.length ≤ 1048576) : Calls Tryd.prog 74 #[v] w (CloneR bndL 36 l w) := by
  obtain ⟨i0, ei, ez, ez1, ez2⟩ := info_parts clone_bnds_info
  obtain ⟨A, c, rfl, _, _⟩ := hv.form
  obtain ⟨xs, hr, hx⟩ := Row.of_sl hv
  have hlen := hr.len
  have h1 := hr.oneCell one_bnd
  have q22 : ∀ (w : World) (a : Option Addr) (n c n' c' : Nat), (binOp .eql 23 (.slice a n c) (.slice none n' c')).run Tryd.prog w = .ok (.bool a.isNone) w := fun w a n c n' c' => Lib.run_eql_slice_nil w _ _ a n c n' c' Tryd.underlying23
  cases A with
  | none =>
    have h0 : l = [] := by
      rcases Nat.eq_zero_or_pos l.length with h | h
      · exact List.eq_nil_of_length_eq_zero h
      · obtain ⟨_, _, hA, _⟩ := hx h; cases hA
    subst h0
    clear hv hr hx hlen h1
    go_enter Tryd.func74, Tryd.ntmps74
    go_wp2_with fail
    go_ret
    exact ⟨_, [], rfl, Own.nil _ _ _ _, rfl, Below.refl _ _⟩
  | some a =>
    have hX : Hid (0 < l.length → ∃ b o, (some a : Option Addr) = some ⟨b, o, none⟩ ∧ ∀ j u, xs[j]? = some u → w.cell? ⟨b, o + j, none⟩ = some u) := hx
    have hR := Lib.hid hr
    have hL := Lib.hid hlen
    have h1H := Lib.hid h1
    clear hv hr hx hlen h1
    go_enter Tryd.func74, Tryd.ntmps74
    go_wp2_with (at_builtin; refine wpList_append_q _ rfl (.tmp 5) (.tmp 6) 23 rfl w.heap.size 36 i0 (.agg #[.string .empty, .string .empty, .string .empty, .int .i64 0, .int .i64 0]) 5 64 Tryd.underlying23 ei ez ez1 ez2 rfl (by decide) (.slice (some ⟨w.heap.size, 0, none⟩) 0 0) 0 [] rfl Own.made (some a) l.length c xs rfl hL.out (fun hp => by
        obtain ⟨b, o, hA, hy⟩ := hX.out hp
        exact ⟨_, hA, fun j u hj => by rw [addr_add]; exact cell_below ((Below.refl _ _).alloc (Nat.le_refl _) _) (hy j u hj)⟩) h1H.out (by unfold maxLen; omega) (by omega) (by simp) ?_; intro v7 w7 hown7 hg7 hat7)
    have hb7 : Below w.heap.size w w7 := ((Below.refl _ _).alloc (Nat.le_refl _) _).grown hg7 (by simp) (fun k hk => Nat.le_of_eq (by simpa [Value.ownBlock] using hk))
    simp only [Nat.zero_add, List.nil_append] at hown7
    clear hg7 hat7
    go_ret
    exact ⟨_, xs, rfl, hown7, hR.out, hb7⟩
theorem clone_strs_info : (Tryd.prog.info? 9).map (fun i => (i.zero, i.size, i.bytes)) = some (some (.string .empty), 1, 16) := by kernel_rfl
set_option maxHeartbeats 2000000 in
theorem clone_strs {w : World} {v : Value} {l : List ByteArray} (hv : Sl strL w v l) (hl : l.length ≤ 1048576) : Calls Tryd.prog 76 #[v] w (CloneR strL 9 l w) := by
  obtain ⟨i0, ei, ez, ez1, ez2⟩ := info_parts clone_strs_info
  obtain ⟨A, c, rfl, _, _⟩ := hv.form
  obtain ⟨xs, hr, hx⟩ := Row.of_sl hv
  have hlen := hr.len
  have h1 := hr.oneCell one_str
  have q22 : ∀ (w : World) (a : Option Addr) (n c n' c' : Nat), (binOp .eql 31 (.slice a n c) (.slice none n' c')).run Tryd.prog w = .ok (.bool a.isNone) w := fun w a n c n' c' => Lib.run_eql_slice_nil w _ _ a n c n' c' Tryd.underlying31
  cases A with
  | none =>
    have h0 : l = [] := by
      rcases Nat.eq_zero_or_pos l.length with h | h
      · exact List.eq_nil_of_length_eq_zero h
      · obtain ⟨_, _, hA, _⟩ := hx h; cases hA
    subst h0
    clear hv hr hx hlen h1
    go_enter Tryd.func76, Tryd.ntmps76
    go_wp2_with fail
    go_ret
    exact ⟨_, [], rfl, Own.nil _ _ _ _, rfl, Below.refl _ _⟩
  | some a =>
    have hX : Hid (0 < l.length → ∃ b o, (some a : Option Addr) = some ⟨b, o, none⟩ ∧ ∀ j u, xs[j]? = some u → w.cell? ⟨b, o + j, none⟩ = some u) := hx
    have hR := Lib.hid hr
    have hL := Lib.hid hlen
    have h1H := Lib.hid h1
    clear hv hr hx hlen h1
    go_enter Tryd.func76, Tryd.ntmps76
    go_wp2_with (at_builtin; refine wpList_append_q _ rfl (.tmp 5) (.tmp 6) 31 rfl w.heap.size 9 i0 (.string .empty) 1 16 Tryd.underlying31 ei ez ez1 ez2 rfl (by decide) (.slice (some ⟨w.heap.size, 0, none⟩) 0 0) 0 [] rfl Own.made (some a) l.length c xs rfl hL.out (fun hp => by
        obtain ⟨b, o, hA, hy⟩ := hX.out hp
        exact ⟨_, hA, fun j u hj => by rw [addr_add]; exact cell_below ((Below.refl _ _).alloc (Nat.le_refl _) _) (hy j u hj)⟩) h1H.out (by unfold maxLen; omega) (by omega) (by simp) ?_; intro v7 w7 hown7 hg7 hat7)
    have hb7 : Below w.heap.size w w7 := ((Below.refl _ _).alloc (Nat.le_refl _) _).grown hg7 (by simp) (fun k hk => Nat.le_of_eq (by simpa [Value.ownBlock] using hk))
    simp only [Nat.zero_add, List.nil_append] at hown7
    clear hg7 hat7
    go_ret
    exact ⟨_, xs, rfl, hown7, hR.out, hb7⟩
theorem clone_flds_info : (Tryd.prog.info? 38).map (fun i => (i.zero, i.size, i.bytes)) = some (some (.agg #[.string .empty, .int .i64 0, .bool false, .bool false]), 4, 32) := by kernel_rfl
set_option maxHeartbeats 2000000 in
theorem clone_flds {w : World} {v : Value} {l : List Fld} (hv : Sl fldL w v l) (hl : l.length ≤ 1048576) : Calls Tryd.prog 77 #[v] w (CloneR fldL 38 l w) := by
  obtain ⟨i0, ei, ez, ez1, ez2⟩ := info_parts clone_flds_info
  obtain ⟨A, c, rfl, _, _⟩ := hv.form
  obtain ⟨xs, hr, hx⟩ := Row.of_sl hv
  have hlen := hr.len
  have h1 := hr.oneCell one_fld
  have q22 : ∀ (w : World) (a : Option Addr) (n c n' c' : Nat), (binOp .eql 32 (.slice a n c) (.slice none n' c')).run Tryd.prog w = .ok (.bool a.isNone) w := fun w a n c n' c' => Lib.run_eql_slice_nil w _ _ a n c n' c' Tryd.underlying32
  cases A with
  | none =>
    have h0 : l = [] := by
      rcases Nat.eq_zero_or_pos l.length with h | h
      · exact List.eq_nil_of_length_eq_zero h
      · obtain ⟨_, _, hA, _⟩ := hx h; cases hA
    subst h0
    clear hv hr hx hlen h1
    go_enter Tryd.func77, Tryd.ntmps77
    go_wp2_with fail
    go_ret
    exact ⟨_, [], rfl, Own.nil _ _ _ _, rfl, Below.refl _ _⟩
  | some a =>
    have hX : Hid (0 < l.length → ∃ b o, (some a : Option Addr) = some ⟨b, o, none⟩ ∧ ∀ j u, xs[j]? = some u → w.cell? ⟨b, o + j, none⟩ = some u) := hx
    have hR := Lib.hid hr
    have hL := Lib.hid hlen
    have h1H := Lib.hid h1
    clear hv hr hx hlen h1
    go_enter Tryd.func77, Tryd.ntmps77
    go_wp2_with (at_builtin; refine wpList_append_q _ rfl (.tmp 5) (.tmp 6) 32 rfl w.heap.size 38 i0 (.agg #[.string .empty, .int .i64 0, .bool false, .bool false]) 4 32 Tryd.underlying32 ei ez ez1 ez2 rfl (by decide) (.slice (some ⟨w.heap.size, 0, none⟩) 0 0) 0 [] rfl Own.made (some a) l.length c xs rfl hL.out (fun hp => by
        obtain ⟨b, o, hA, hy⟩ := hX.out hp
        exact ⟨_, hA, fun j u hj => by rw [addr_add]; exact cell_below ((Below.refl _ _).alloc (Nat.le_refl _) _) (hy j u hj)⟩) h1H.out (by unfold maxLen; omega) (by omega) (by simp) ?_; intro v7 w7 hown7 hg7 hat7)
    have hb7 : Below w.heap.size w w7 := ((Below.refl _ _).alloc (Nat.le_refl _) _).grown hg7 (by simp) (fun k hk => Nat.le_of_eq (by simpa [Value.ownBlock] using hk))
    simp only [Nat.zero_add, List.nil_append] at hown7
    clear hg7 hat7
    go_ret
    exact ⟨_, xs, rfl, hown7, hR.out, hb7⟩
theorem clonec_knds_info : (Tryd.prog.info? 34).map (fun i => (i.zero, i.size, i.bytes)) = some (some (.agg #[.string .empty, .slice none 0 0, .slice none 0 0]), 3, 64) := by kernel_rfl
set_option maxHeartbeats 2000000 in
theorem clonec_knds {w : World} {A : Option Addr} {n c : Nat} {xs : List Value} (hlen : xs.length = n * 3) (h1 : ∀ u ∈ xs, u.oneCell' = true) (hx : 0 < n → ∃ b o, A = some ⟨b, o, none⟩ ∧ ∀ j u, xs[j]? = some u → w.cell? ⟨b, o + j, none⟩ = some u) (hl : n ≤ 1048576) :
    Calls Tryd.prog 75 #[.slice A n c] w fun e w' => ∃ u, e = .returned u ∧ Own w' w.heap.size 34 3 u n xs ∧ Below w.heap.size w w' := by
  obtain ⟨i0, ei, ez, ez1, ez2⟩ := info_parts clonec_knds_info
  have q22 : ∀ (w : World) (a : Option Addr) (n c n' c' : Nat), (binOp .eql 22 (.slice a n c) (.slice none n' c')).run Tryd.prog w = .ok (.bool a.isNone) w := fun w a n c n' c' => Lib.run_eql_slice_nil w _ _ a n c n' c' Tryd.underlying22
  cases A with
  | none =>
    have h0 : n = 0 := by
      rcases Nat.eq_zero_or_pos n with h | h
      · exact h
      · obtain ⟨_, _, hA, _⟩ := hx h; cases hA
    subst h0
    have hx0 : xs = [] := List.eq_nil_of_length_eq_zero (by rw [hlen, Nat.zero_mul])
    subst hx0
    clear hx hlen h1
    go_enter Tryd.func75, Tryd.ntmps75
    go_wp2_with fail
    go_ret
    exact ⟨_, rfl, Own.nil _ _ _ _, Below.refl _ _⟩
  | some a =>
    have hX : Hid (0 < n → ∃ b o, (some a : Option Addr) = some ⟨b, o, none⟩ ∧ ∀ j u, xs[j]? = some u → w.cell? ⟨b, o + j, none⟩ = some u) := hx
    have hL := Lib.hid hlen
    have h1H := Lib.hid h1
    clear hx hlen h1
    go_enter Tryd.func75, Tryd.ntmps75
    go_wp2_with (at_builtin; refine wpList_append_q _ rfl (.tmp 5) (.tmp 6) 22 rfl w.heap.size 34 i0 (.agg #[.string .empty, .slice none 0 0, .slice none 0 0]) 3 64 Tryd.underlying22 ei ez ez1 ez2 rfl (by decide) (.slice (some ⟨w.heap.size, 0, none⟩) 0 0) 0 [] rfl Own.made (some a) n c xs rfl hL.out (fun hp => by
        obtain ⟨b, o, hA, hy⟩ := hX.out hp
        exact ⟨_, hA, fun j u hj => by rw [addr_add]; exact cell_below ((Below.refl _ _).alloc (Nat.le_refl _) _) (hy j u hj)⟩) h1H.out (by unfold maxLen; omega) (by omega) (by simp) ?_; intro v7 w7 hown7 hg7 hat7)
    have hb7 : Below w.heap.size w w7 := ((Below.refl _ _).alloc (Nat.le_refl _) _).grown hg7 (by simp) (fun k hk => Nat.le_of_eq (by simpa [Value.ownBlock] using hk))
    simp only [Nat.zero_add, List.nil_append] at hown7
    clear hg7 hat7
    go_ret
    exact ⟨_, rfl, hown7, hb7⟩
set_option maxRecDepth 100000 in
set_option maxHeartbeats 8000000 in
theorem ownSchema_any (s : Scm) (vk vb : Value) (w : World) (hg : ScmR w vk vb s) (hn : s.kinds.length ≤ 1000) (hbl : s.bonds.length ≤ 1000) (hp : ∀ d ∈ s.kinds, d.ofs.length ≤ 1000 ∧ d.fields.length ≤ 1000) :
    Calls Tryd.prog 33 #[.agg #[vk, vb]] w fun e w' => ∃ un ut xs, e = .returned (.agg #[un, ut]) ∧ OwnS w' w.heap.size un ut s xs ∧ Below w.heap.size w w' := by
  obtain ⟨An, cn, rfl, _, _⟩ := hg.1.form
  obtain ⟨At, ct, rfl, _, _⟩ := hg.2.form
  have hb0 : Below w.heap.size w ((w.alloc (.cells #[.slice An s.kinds.length cn, .slice At s.bonds.length ct] 25)).alloc (.cells #[.slice none 0 0, .slice none 0 0] 25)) := ((Below.refl _ _).alloc (Nat.le_refl _) _).alloc (by simp) _
  obtain ⟨xs0, hrow, hx0⟩ := Row.of_sl hg.1
  have hct := clone_bnds (hg.2.below hb0) (by omega)
  have g0 : ((w.alloc (.cells #[.slice An s.kinds.length cn, .slice At s.bonds.length ct] 25)).alloc (.cells #[.slice none 0 0, .slice none 0 0] 25)).heap[w.heap.size]? = some (.cells #[.slice An s.kinds.length cn, .slice At s.bonds.length ct] 25 (0, 0)) := by
    rw [Below.heap_alloc _ _ _ (by simp)]; exact heap_alloc_new _ _
  have g1 : ((w.alloc (.cells #[.slice An s.kinds.length cn, .slice At s.bonds.length ct] 25)).alloc (.cells #[.slice none 0 0, .slice none 0 0] 25)).heap[w.heap.size + 1]? = some (.cells #[.slice none 0 0, .slice none 0 0] 25 (0, 0)) := by
    have := heap_alloc_new (w.alloc (.cells #[.slice An s.kinds.length cn, .slice At s.bonds.length ct] 25)) (.cells #[.slice none 0 0, .slice none 0 0] 25); simpa using this
  have x0 := block_cell g0 0
  have x1 := block_cell g0 1
  have HX := Lib.hid hx0
  have HROW := Lib.hid hrow
  have hsz : ((w.alloc (.cells #[.slice An s.kinds.length cn, .slice At s.bonds.length ct] 25)).alloc (.cells #[.slice none 0 0, .slice none 0 0] 25)).heap.size = w.heap.size + 2 := by simp
  clear hg hrow hx0
  go_enter Tryd.func33, Tryd.ntmps33
  go_wp2_with fail
  refine hct.mono ?_
  clear hct
  rintro e w1 ⟨vt, xt, rfl, hot, hrt, hb1⟩
  obtain ⟨rfl, hok⟩ := Row.flat hrt
  have hot := Own.mono (B' := w.heap.size) hot (by rw [hsz]; omega)
  have hB1 := hb0.trans (hb1.mono hb0.size)
  have k0 := (hb1.block _ (Array.getElem?_eq_some_iff.1 g0).1).trans g0
  have k1 := (hb1.block _ (Array.getElem?_eq_some_iff.1 g1).1).trans g1
  have HK := Lib.hid hok
  obtain ⟨At2, ct2, rfl, _, _⟩ := hot.form
  have hs1 := hb1.size
  rw [hsz] at hs1
  have m0 := setCell_block k0 1 (.slice At2 s.bonds.length ct2)
  have m1 : (w1.setCell ⟨w.heap.size, 1, none⟩ (.slice At2 s.bonds.length ct2)).heap[w.heap.size + 1]? = some (.cells #[.slice none 0 0, .slice none 0 0] 25 (0, 0)) := by rw [Below.heap_setCell _ _ _ _ (by simp)]; exact k1
  have hot2 := hot.same (Same.setCell (T := 36) (p := ⟨w.heap.size, 1, none⟩) k0 (by decide) (.slice At2 s.bonds.length ct2))
  have hB2 : Below w.heap.size w (w1.setCell ⟨w.heap.size, 1, none⟩ (.slice At2 s.bonds.length ct2)) := hB1.setCell (p := ⟨w.heap.size, 1, none⟩) (Nat.le_refl _) _
  have hcn := clonec_knds (A := An) (n := s.kinds.length) (c := cn) (w := w1.setCell ⟨w.heap.size, 1, none⟩ (.slice At2 s.bonds.length ct2)) HROW.out.len (HROW.out.oneCell one_knd) (fun hp => by
    obtain ⟨b, o, hA, hy⟩ := HX.out hp
    exact ⟨b, o, hA, fun j u hj => cell_below hB2 (hy j u hj)⟩) (by omega)
  have f0 := block_free k0 1
  have c0 := block_cell k0 1
  have d0 := block_cell m0 0
  have d1 := block_free m0 0
  have d2 := block_cell m0 1
  have M0 := Lib.hid m0
  have M1 := Lib.hid m1
  have HOT := Lib.hid hot2
  have hs2 : (w1.setCell ⟨w.heap.size, 1, none⟩ (.slice At2 s.bonds.length ct2)).heap.size = w1.heap.size := by simp [World.setCell]
  clear g0 g1 k0 k1 m0 m1 hot hot2 hrt hok x0 x1 hb1 hB1
  go_wp2_with fail
  refine hcn.mono ?_
  clear hcn
  rintro e w3 ⟨vn, rfl, hon, hb3⟩
  have hon := Own.mono (B' := w.heap.size) hon (by omega)
  have hB3 := hB2.trans (hb3.mono hB2.size)
  have n0 := (hb3.block _ (Array.getElem?_eq_some_iff.1 M0.out).1).trans M0.out
  have n1 := (hb3.block _ (Array.getElem?_eq_some_iff.1 M1.out).1).trans M1.out
  obtain ⟨An2, cn2, rfl, _, _⟩ := hon.form
  have hI0 : OwnSI w (w3.setCell ⟨w.heap.size, 0, none⟩ (.slice An2 s.kinds.length cn2)) s xs0 (.slice An2 s.kinds.length cn2) (.slice At2 s.bonds.length ct2) 0 [] := by
    have hs : ∀ T, 25 ≠ T → Same T w3 (w3.setCell ⟨w.heap.size, 0, none⟩ (.slice An2 s.kinds.length cn2)) := fun T hT => Same.setCell (p := ⟨w.heap.size, 0, none⟩) n0 hT _
    refine ⟨hB3.setCell (p := ⟨w.heap.size, 0, none⟩) (Nat.le_refl _) _, ?_, ?_, ?_, ?_, rfl, ?_, FDist.nil⟩
    · have := hb3.size; simp [World.setCell] at this ⊢; omega
    · have := setCell_block n0 0 (.slice An2 s.kinds.length cn2); simpa using this
    · rw [Below.heap_setCell _ _ _ _ (by simp)]; exact n1
    · rw [Nat.zero_mul, List.drop_zero, List.nil_append]; exact hon.same (hs _ (by decide))
    · exact (HOT.out.below hb3).same (hs _ (by decide))
  have HI0 := Lib.hid hI0
  have e0 := block_cell n0 0
  have e1 := block_free n0 0
  have e2 := block_cell hI0.q 0
  have e3 := block_cell hI0.q 1
  have hn' : (s.kinds.length : Int) ≤ 1000 := by omega
  clear n0 n1 hon hI0 hb3 hB3 hB2 d0 d1 d2 c0 f0
  go_wp2_with fail
  go_loopw [16] (fun i wr => ∃ (k : Nat) (ys : List Value), k ≤ s.kinds.length ∧ i = .int .i64 k ∧ OwnSI w wr s xs0 (.slice An2 s.kinds.length cn2) (.slice At2 s.bonds.length ct2) k ys) (fun i _ => s.kinds.length - (intOf i).toNat)
  case atStart => exact ⟨0, [], Nat.zero_le _, rfl, HI0.out⟩
  case round =>
    clear HI0 e0 e1 e2 e3
    obtain ⟨k, ys, hk, rfl, hI⟩ := hrel
    have HI := Lib.hid hI
    have y0 := block_cell hI.q 0
    have y1 := block_cell hI.q 1
    have hrz := hI.z
    by_cases hlt : k < s.kinds.length
    · obtain ⟨d, hd⟩ : ∃ d, s.kinds[k]? = some d := ⟨_, List.getElem?_eq_getElem hlt⟩
      have hlt' : (k : Int) < (s.kinds.length : Int) := by omega
      obtain ⟨gb, o, c2, hv, hgb1, hgb2⟩ := hI.n.addr (by omega)
      injection hv with hv1 hv2 hv3
      subst hv1; subst hv3
      obtain ⟨cs, hcs, hcx⟩ := HROW.out.get hd
      obtain ⟨u, x, rfl, h1, h2, h3⟩ := hcs
      have hyl : ys.length = k * 3 := by rw [hI.o.len, List.length_take, Nat.min_eq_left hk]
      have hat : ∀ j v, [Value.string d.name, u, x][j]? = some v → wr.cell? ⟨gb, o + (k * 3 + j), none⟩ = some v := fun j v hj => by
        refine hI.n.cell rfl ?_
        rw [List.getElem?_append_right (by omega), hyl, List.getElem?_drop, show k * 3 + (k * 3 + j - k * 3) = k * 3 + j by omega]
        exact hcx j v hj
      have z0 := hat 0 _ rfl
      have z1 : wr.cell? ⟨gb, o + k * 3 + 1, none⟩ = some u := hat 1 _ rfl
      have z2 : wr.cell? ⟨gb, o + k * 3 + 2, none⟩ = some x := hat 2 _ rfl
      rw [Nat.add_zero] at z0
      have HX0 : Hid (xs0[k * 3]? = some (.string d.name)) := by have := hcx 0 _ rfl; rwa [Nat.add_zero] at this
      obtain ⟨Au, cu, rfl, _, _⟩ := h2.form
      obtain ⟨Ax, cx, rfl, _, _⟩ := h3.form
      obtain ⟨hdp1, hdp2⟩ := hp d (List.mem_of_getElem? hd)
      have hbx : Below wr.heap.size wr (wr.alloc (.cells #[.string d.name, .slice Au d.ofs.length cu, .slice Ax d.fields.length cx] 34)) := (Below.refl _ _).alloc (Nat.le_refl _) _
      have hc1 := clone_strs ((((h2.below hI.b).below hbx).below (Below.refl _ _).drew)) (by omega)
      have HF := Lib.hid ((h3.below hI.b).below hbx)
      have HXL := Lib.hid HROW.out.len
      obtain ⟨b0, b1, b2⟩ := cell_box3 wr (.string d.name) (.slice Au d.ofs.length cu) (.slice Ax d.fields.length cx) 34
      have q0 := cell_below hbx y0
      have HD := Lib.hid hd
      clear hd hcx hat hI h2 h3
      go_wp2_with fail
      have hne1 : gb ≠ w.heap.size := fun e => by
        have := HI.out.n.ne_block HI.out.q (by decide)
        exact this (by rw [← e]; rfl)
      have hne2 : gb ≠ wr.heap.size := by omega
      have hkeep := And.intro q0 (And.intro b1 b2)
      go_region_held3 (fun w' => w'.cell? ⟨w.heap.size, 0, none⟩ = some (.slice (some ⟨gb, o, none⟩) s.kinds.length cn2) ∧ w'.cell? ⟨wr.heap.size, 1, none⟩ = some (.slice Au d.ofs.length cu) ∧ w'.cell? ⟨wr.heap.size, 2, none⟩ = some (.slice Ax d.fields.length cx))
        (first
          | exact hkeep
          | go_keep)
        (first
          | (go_at_call 76
             refine hc1.mono ?_
             rintro e w2 ⟨u2, xu, rfl, hou, hru, hb2⟩
             have hfl2 := Row.flat hru
             have hb2' := hbx.drew.trans (hb2.mono hbx.drew.size)
             have hb2x := (Below.refl (wr.alloc (.cells #[.string d.name, .slice Au d.ofs.length cu, .slice Ax d.fields.length cx] 34)).heap.size (wr.alloc (.cells #[.string d.name, .slice Au d.ofs.length cu, .slice Ax d.fields.length cx] 34))).drew.trans hb2
             have hkeep := And.intro (cell_below hb2' y0) (And.intro (cell_below hb2x b1) (cell_below hb2x b2))
             obtain ⟨A2, c3, rfl, _, _⟩ := hou.form
             have hc2 := clone_flds (HF.out.below hb2x) (by omega))
          | (go_at_call 77
             refine hc2.mono ?_
             rintro e w4 ⟨u4, xv, rfl, hov, hrv, hb4⟩
             have hfl4 := Row.flat hrv
             have hb24 := hb2'.trans (hb4.mono hb2'.size)
             have hkeep := And.intro (cell_below hb24 y0) (And.intro (cell_below hb4 (cell_below hb2x b1)) (cell_below hb4 (cell_below hb2x b2)))
             have on2 := HI.out.n.below hb24
             have z0' := cell_below hb24 z0
             have z1' := cell_below hb24 z1
             have z2' := cell_below hb24 z2
             have f0 := on2.frozen rfl (o + k * 3)
             have f1 := on2.frozen rfl (o + k * 3 + 1)
             have f2 := on2.frozen rfl (o + k * 3 + 2)
             obtain ⟨A4, c5, rfl, _, _⟩ := hov.form))
      obtain ⟨rfl, hok2⟩ := hfl2
      obtain ⟨rfl, hok4⟩ := hfl4
      have a3 : Own w4 wr.heap.size 9 1 (.slice A2 d.ofs.length c3) d.ofs.length (d.ofs.map Value.string) := by
        rw [List.map_eq_flatMap]; exact (Own.mono (B' := wr.heap.size) hou hbx.drew.size).below hb4
      have a5 : Own w4 wr.heap.size 38 4 (.slice A4 d.fields.length c5) d.fields.length (d.fields.flatMap Fld.enc) := Own.mono (B' := wr.heap.size) hov hb2'.size
      have HN := Lib.hid (HI.out.step HD.out h1 HXL.out HX0.out hb24 hok2 a3 hok4 a5)
      clear a3 a5 hou hov hru hrv on2 z0' z1' z2' f0 f1 f2 q0 b0 b1 b2 z0 z1 z2 y0 y1 hb2 hb4 hkeep HI
      go_wp2_with fail
      go_roundw
      case rel => exact ⟨k + 1, _, by omega, by go_num, HN.out⟩
      case measure => simp [intOf]; omega
    · obtain rfl : k = s.kinds.length := by omega
      have hF : Hid (∀ W, (∀ T, 25 ≠ T → Same T wr W) → OwnS W w.heap.size (.slice An2 s.kinds.length cn2) (.slice At2 s.bonds.length ct2) s ys) := fun W hs => by
        have hn := HI.out.n
        have ho := HI.out.o
        rw [List.drop_of_length_le (by rw [HROW.out.len]; exact Nat.le_refl _), List.append_nil] at hn
        rw [List.take_length] at ho
        exact ⟨hn.same (hs _ (by decide)), ho.same (hs _ (by decide)) (hs _ (by decide)), HI.out.t.same (hs _ (by decide)), HK.out, HI.out.dd⟩
      have m1 := hI.r
      have x0 := block_cell m1 0
      have x1 := block_cell m1 1
      have f0 := block_free m1 0
      have f1 := block_free m1 1
      have hb := hI.b
      have m2 := setCell_block m1 0 (.slice An2 s.kinds.length cn2)
      have m3 := setCell_block m2 1 (.slice At2 s.bonds.length ct2)
      have HM1 := Lib.hid m1
      have HM2 := Lib.hid m2
      have HM3 := Lib.hid m3
      clear hI m1 m2 m3
      go_wp2_with fail
      have k2 := block_cell HM3.out 0
      have k3 := block_cell HM3.out 1
      exact bodyPost_ret (v := .agg #[.slice An2 s.kinds.length cn2, .slice At2 s.bonds.length ct2]) (by simp [results, Tryd.results33, go_sem, k2, k3]) rfl ⟨_, _, ys, rfl, hF.out _ (fun T hT => (Same.setCell (p := ⟨w.heap.size + 1, 0, none⟩) HM1.out hT _).trans (Same.setCell (p := ⟨w.heap.size + 1, 1, none⟩) HM2.out hT _)),
        (hb.setCell (p := ⟨w.heap.size + 1, 0, none⟩) (by show w.heap.size ≤ w.heap.size + 1; omega) _).setCell (p := ⟨w.heap.size + 1, 1, none⟩) (by show w.heap.size ≤ w.heap.size + 1; omega) _⟩
end Go.Proofs.YtldmofffogjlkaaDoor

/- Contracts: change.field, change.add. -/
namespace Go.Proofs.YtldmofffogjlkaaDoor
open Go Go.RowKit


def cpos (fs : List Fld) (nm : ByteArray) : Nat := lowI (fldC nm) fs
def chas (fs : List Fld) (nm : ByteArray) : Bool := eqAt (fldC nm) fs (cpos fs nm)
theorem cfield1_any (d : Fld) (name : ByteArray) (w : World) :
    Calls Tryd.prog 144 #[.agg #[.string d.name, .int .i64 d.ty, .bool d.must, .bool d.key], .string name] w fun e w' => e = .returned (.int .i64 (cmpS d.name name)) ∧ Below w.heap.size w w' := by
  go_enter Tryd.func144, Tryd.ntmps144
  go_wp2_with (go_at_call 99; refine (scmp_any _ _ _).mono ?_; rintro e w' ⟨rfl, rfl⟩)
  go_ret
  exact ⟨rfl, (Below.refl _ _).alloc (Nat.le_refl _) _⟩
theorem cfield_any (knm : ByteArray) (fs : List Fld) (nm : ByteArray) (A : Option Addr) (n c : Nat) (vf : Value) (w : World) (hv : Sl fldL w vf fs) (hc : chain fldLt fs = true) (hl : fs.length ≤ 1000) :
    Calls Tryd.prog 119 #[.agg #[.string knm, .slice A n c, vf], .string nm] w fun e w' => e = .returned (.tuple #[.int .i64 (cpos fs nm), .bool (chas fs nm)]) ∧ Below w.heap.size w w' := by
  have hb0 : Below w.heap.size w (w.alloc (.cells #[.string knm, .slice A n c, vf] 34)) := (Below.refl _ _).alloc (Nat.le_refl _) _
  have hcall := bs_fld 144 #[] (by intro args w; kernel_rfl) (.string nm) (fldC nm) fs _ _ (hv.below hb0) (fun x u wx _ hu => by obtain ⟨rfl, _⟩ := hu; exact cfield1_any x nm wx) (cpos fs nm) hl (lowI_le _ _)
    (fun i d h hi => low_lt (c := fldC nm) h hi) (fun i d h hi => low_ge (c := fldC nm) hc (fldC_mono nm) h hi)
  obtain ⟨A', c', rfl, _, _⟩ := hv.form
  have HE : Hid (chas fs nm = eqAt (fldC nm) fs (cpos fs nm)) := rfl
  clear hv hc
  generalize eqAt (fldC nm) fs (cpos fs nm) = B at hcall HE
  generalize cpos fs nm = K at hcall HE ⊢
  go_enter Tryd.func119, Tryd.ntmps119
  go_wp2_with (go_at_call 143; refine hcall.mono ?_; rintro e w' ⟨rfl, hb⟩)
  go_ret2
  exact ⟨by rw [HE.out]; rfl, hb0.trans (hb.mono hb0.size)⟩
theorem OwnKnds.get {w : World} {B : Nat} : ∀ {l : List Knd} {xs : List Value} {i : Nat} {d : Knd}, OwnKnds w B l xs → l[i]? = some d →
    ∃ u x, xs[i * 3]? = some (.string d.name) ∧ xs[i * 3 + 1]? = some u ∧ xs[i * 3 + 2]? = some x ∧ Sm d.name ∧ (∀ p ∈ d.ofs, Sm p) ∧ Own w B 9 1 u d.ofs.length (d.ofs.map Value.string) ∧ (∀ p ∈ d.fields, p.ok) ∧ Own w B 38 4 x d.fields.length (d.fields.flatMap Fld.enc)
  | [], xs, i, d, h, hi => by simp at hi
  | e :: l, xs, 0, d, h, hi => by
    simp at hi
    subst hi
    obtain ⟨u, x, ys, rfl, a1, a2, a3, a4, a5, _⟩ := h
    exact ⟨u, x, rfl, rfl, rfl, a1, a2, a3, a4, a5⟩
  | e :: l, xs, i + 1, d, h, hi => by
    obtain ⟨u, x, ys, rfl, _, _, _, _, _, a6⟩ := h
    obtain ⟨u', x', b1, b2, b3, hr⟩ := OwnKnds.get a6 (by simpa using hi)
    have e1 : (i + 1) * 3 = i * 3 + 1 + 1 + 1 := by omega
    have e2 : (i + 1) * 3 + 1 = i * 3 + 1 + 1 + 1 + 1 := by omega
    have e3 : (i + 1) * 3 + 2 = i * 3 + 2 + 1 + 1 + 1 := by omega
    exact ⟨u', x', by rw [e1]; exact b1, by rw [e2]; exact b2, by rw [e3]; exact b3, hr⟩
/-- Another row of fields in the place of one: what is read of the other rows lies where it lay. -/
theorem OwnKnds.put {w w' : World} {B : Nat} {fs : List Fld} {v : Value} (h1 : Same 9 w w') (hk : ∀ p ∈ fs, p.ok) (ho : Own w' B 38 4 v fs.length (fs.flatMap Fld.enc)) :
    ∀ {l : List Knd} {xs : List Value} {i : Nat} {d : Knd}, OwnKnds w B l xs → l[i]? = some d → (∀ j e x n ys, j ≠ i → l[j]? = some e → xs[j * 3 + 2]? = some x → Own w B 38 4 x n ys → Own w' B 38 4 x n ys) →
    OwnKnds w' B (l.set i ⟨d.name, d.ofs, fs⟩) (xs.set (i * 3 + 2) v)
  | [], xs, i, d, h, hi, _ => by simp at hi
  | e :: l, xs, 0, d, h, hi, hoth => by
    simp at hi
    subst hi
    obtain ⟨u, x, ys, rfl, a1, a2, a3, a4, a5, a6⟩ := h
    refine ⟨u, v, ys, rfl, a1, a2, a3.same h1, hk, ho, ?_⟩
    have : ∀ {l : List Knd} {ys : List Value}, OwnKnds w B l ys → (∀ j e x n zs, l[j]? = some e → ys[j * 3 + 2]? = some x → Own w B 38 4 x n zs → Own w' B 38 4 x n zs) → OwnKnds w' B l ys := by
      intro l
      induction l with
      | nil => intro ys h _; exact h
      | cons e l ih =>
        intro ys h hh
        obtain ⟨u, x, zs, rfl, b1, b2, b3, b4, b5, b6⟩ := h
        exact ⟨u, x, zs, rfl, b1, b2, b3.same h1, b4, hh 0 e x _ _ rfl rfl b5, ih b6 (fun j e' x' n zs' hj hx => hh (j + 1) e' x' n zs' (by simpa using hj) (by rw [show (j + 1) * 3 + 2 = j * 3 + 2 + 1 + 1 + 1 by omega]; exact hx))⟩
    exact this a6 (fun j e' x' n zs' hj hx => hoth (j + 1) e' x' n zs' (by omega) (by simpa using hj) (by rw [show (j + 1) * 3 + 2 = j * 3 + 2 + 1 + 1 + 1 by omega]; exact hx))
  | e :: l, xs, i + 1, d, h, hi, hoth => by
    obtain ⟨u, x, ys, rfl, a1, a2, a3, a4, a5, a6⟩ := h
    have e3 : (i + 1) * 3 + 2 = i * 3 + 2 + 1 + 1 + 1 := by omega
    rw [e3]
    exact ⟨u, x, ys.set (i * 3 + 2) v, rfl, a1, a2, a3.same h1, a4, hoth 0 e x _ _ (by omega) rfl rfl a5, OwnKnds.put h1 hk ho a6 (by simpa using hi) (fun j e' x' n zs' hj hx hxx => hoth (j + 1) e' x' n zs' (by omega) (by simpa using hx) (by rw [show (j + 1) * 3 + 2 = j * 3 + 2 + 1 + 1 + 1 by omega]; exact hxx))⟩
end Go.Proofs.YtldmofffogjlkaaDoor

/- Plain: the fields of one kind of an owned schema are others. -/
namespace Go.Proofs.YtldmofffogjlkaaDoor
open Go Go.RowKit

def setF (s : Scm) (i : Nat) (d : Knd) (fs : List Fld) : Scm := ⟨s.kinds.set i ⟨d.name, d.ofs, fs⟩, s.bonds⟩
theorem field_put {Wx W5 : World} {B gb o ck i : Nat} {vb x u5 : Value} {s : Scm} {d : Knd} {xs : List Value} {fs : List Fld}
    (hS : OwnS Wx B (.slice (some ⟨gb, o, none⟩) s.kinds.length ck) vb s xs) (hd : s.kinds[i]? = some d) (hx : xs[i * 3 + 2]? = some x)
    (ho : Own W5 B 38 4 u5 fs.length (fs.flatMap Fld.enc)) (hg : Wx.grownBy W5 x.ownBlock) (hat : u5.ownBlock = x.ownBlock ∨ ∃ k, u5.ownBlock = some k ∧ Wx.heap.size ≤ k) (hok : ∀ p ∈ fs, p.ok) :
    OwnS (W5.setCell ⟨gb, o + i * 3 + 2, none⟩ u5) B (.slice (some ⟨gb, o, none⟩) s.kinds.length ck) vb (setF s i d fs) (xs.set (i * 3 + 2) u5) ∧
      (∀ T, 38 ≠ T → 34 ≠ T → Same T Wx (W5.setCell ⟨gb, o + i * 3 + 2, none⟩ u5)) ∧ W5.frozen? ⟨gb, o + i * 3 + 2, none⟩ = false ∧ W5.cell? ⟨gb, o + i * 3 + 2, none⟩ = some x ∧ B ≤ gb := by
  obtain ⟨_, x', _, _, k2, _, _, _, _, ox⟩ := hS.o.get hd
  obtain rfl := Option.some.inj (hx.symm.trans k2)
  have hil := (List.getElem?_eq_some_iff.1 hd).1
  have hSk : ∀ T, 38 ≠ T → Same T Wx W5 := fun T hT => Same.grown ox hT hg
  have n5 := hS.n.same (hSk _ (by decide))
  have hset : ∀ T, 34 ≠ T → Same T W5 (W5.setCell ⟨gb, o + i * 3 + 2, none⟩ u5) := fun T hT => Same.cellOf n5 hT _ _
  have hdist : ∀ (j : Nat) (y : Value) (b : Nat), j ≠ i → xs[j * 3 + 2]? = some y → y.ownBlock = some b → x.ownBlock ≠ some b := fun j y b hji hy hb hxb => by
    rcases Nat.lt_or_ge j i with h | h
    · exact hS.d j i y x b h hy hx hb hxb
    · exact hS.d i j x y b (by omega) hx hy hxb hb
  refine ⟨⟨?_, ?_, (hS.b.same (hSk _ (by decide))).same (hset _ (by decide)), hS.k, hS.d.put fun j y b hji hy hb => ?_⟩, fun T h1 h2 => (hSk T h1).trans (hset T h2), n5.frozen rfl _, n5.cell (j := i * 3 + 2) rfl hx, (n5.lt gb rfl).1⟩
  · have := n5.store (i * 3 + 2) (by omega) u5
    show Own _ B 34 3 _ (s.kinds.set i ⟨d.name, d.ofs, fs⟩).length _
    rw [List.length_set]
    exact this
  · refine (OwnKnds.put (hSk _ (by decide)) hok ho hS.o hd (fun j e y n ys hji _ hy hoy => ?_)).same (hset _ (by decide)) (hset _ (by decide))
    refine hoy.grown hg ?_
    cases hyb : y.ownBlock with
    | none => exact .inl rfl
    | some b => exact .inr (fun e => hdist j y b hji hy hyb e.symm)
  · rcases hat with h | ⟨k, h, hk⟩
    · rw [h]; exact hdist j y b hji hy hb
    · rw [h]
      intro e
      injection e with e
      subst e
      have := hS.o.flt j y _ hy hb
      omega
end Go.Proofs.YtldmofffogjlkaaDoor
