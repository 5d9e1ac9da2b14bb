/- Parts: RgI, RcC, Numb, NrA. -/
import Derived.Test.YtflidfmpmakggaaGreatDoorMg12
import Derived.Test.YtflidfmpmakggaaGreatDoorMg16
import Derived.Test.YtflidfmpmakggaaGreatDoorMg08
import Derived.Test.YtflidfmpmakggaaGreatDoorMg03
import Derived.Test.YtflidfmpmakggaaGreatDoorMg01
import Derived.Test.YtflidfmpmakggaaGreatDoorRows
import Derived.Deep.RegionLaw
import Derived.Test.YtflidfmpmakggaaGreatDoorMg06
import Derived.IntWalk
/- Plain: what stands between two lines of kinref2.ReadGraph. No condition. -/
namespace Go.Proofs.YtflidfmpmakggaaGreatDoor
open Go Go.RowKit

theorem str_nil {l : List UInt8} : ((bs l).toList = []) = (l = []) := by
  have h := bs_lit (K := l) (L := []) (M := []) (by decide +kernel)
  exact h
/-- The cells of a new block of three. -/
theorem three_new (w : World) (a b c : Value) (T : TypeId) : ∀ (j : Nat) (u' : Value), ([a, b, c] : List Value)[j]? = some u' → (w.alloc (.cells #[a, b, c] T)).cell? ⟨w.heap.size, j, none⟩ = some u' := fun j u' hj => by
  rw [World.cell?_alloc_at _ _ _ _ rfl]; simpa using hj
structure Rg (w : World) (P : List (List UInt8)) (g : Grf) (An At : Option Addr) (cn ct : Nat) (xs : List Value) (k : Nat) (W : World) : Prop where
  z : W.heap[w.heap.size]? = some (.cells #[.slice none 0 0, .slice none 0 0] 25 (0, 0))
  gb : W.heap[w.heap.size + 1]? = some (.cells #[.slice An g.nodes.length cn, .slice At g.ties.length ct] 25 (0, 0))
  on : Own W w.heap.size 98 3 (.slice An g.nodes.length cn) g.nodes.length xs
  nn : OwnNods W w.heap.size g.nodes xs
  ot : Own W w.heap.size 102 3 (.slice At g.ties.length ct) g.ties.length (g.ties.flatMap Tie.enc)
  tt : ∀ t ∈ g.ties, t.ok
  run : rrun ⟨[], []⟩ 0 P = rrun g k (P.drop k)
  len : g.nodes.length + g.ties.length ≤ k
  bel : Below w.heap.size w W
theorem Rg.below {w W W' : World} {P : List (List UInt8)} {g : Grf} {An At : Option Addr} {cn ct : Nat} {xs : List Value} {k : Nat} (h : Rg w P g An At cn ct xs k W) (hb : Below W.heap.size W W') : Rg w P g An At cn ct xs k W' where
  z := (hb.block _ (Array.getElem?_eq_some_iff.1 h.z).1).trans h.z
  gb := (hb.block _ (Array.getElem?_eq_some_iff.1 h.gb).1).trans h.gb
  on := h.on.below hb
  nn := h.nn.same (.below hb)
  ot := h.ot.below hb
  tt := h.tt
  run := h.run
  len := h.len
  bel := h.bel.trans (hb.mono h.bel.size)
section
variable {w V X : World} {P : List (List UInt8)} {g : Grf} {An At : Option Addr} {cn ct : Nat} {xs : List Value} {k : Nat}
/-- A node more is stored. -/
theorem Rg.node (h : Rg w P g An At cn ct xs k V) {A7 : Option Addr} {c7 : Nat} {d : Nod} {u : Value} (hg : V.grownBy X (Value.slice An g.nodes.length cn).ownBlock) (ho : Own X w.heap.size 98 3 (.slice A7 (g.nodes.length + 1) c7) (g.nodes.length + 1) (xs ++ [.int .i64 d.id, .string d.kind, u]))
    (h1 : I64 d.id) (h2 : Sm d.kind) (h3 : ∀ p ∈ d.props, p.ok) (h4 : Own V w.heap.size 181 4 u d.props.length (d.props.flatMap Prp.enc))
    (hr : rrun ⟨[], []⟩ 0 P = rrun ⟨g.nodes ++ [d], g.ties⟩ (k + 1) (P.drop (k + 1))) :
    Rg w P ⟨g.nodes ++ [d], g.ties⟩ A7 At c7 ct (xs ++ [.int .i64 d.id, .string d.kind, u]) (k + 1) (X.setCell ⟨w.heap.size + 1, 0, none⟩ (.slice A7 (g.nodes.length + 1) c7)) := by
  have z1 := grown_block hg h.z (h.on.ne_block h.z (by decide))
  have g1 := grown_block hg h.gb (h.on.ne_block h.gb (by decide))
  have hs : ∀ T, 25 ≠ T → Same T X (X.setCell ⟨w.heap.size + 1, 0, none⟩ (.slice A7 (g.nodes.length + 1) c7)) := fun T hT => .setCell (p := ⟨w.heap.size + 1, 0, none⟩) g1 hT _
  have hl : (g.nodes ++ [d]).length = g.nodes.length + 1 := by simp
  refine ⟨setCell_other z1 (by omega) _ _, ?_, ?_, ?_, (h.ot.same (.grown h.on (by decide) hg)).same (hs _ (by decide)), h.tt, hr, ?_, ?_⟩
  · rw [hl]; exact setCell_block g1 0 _
  · rw [hl]; exact ho.same (hs _ (by decide))
  · exact OwnNods.snoc h1 h2 h3 ((h4.same (.grown h.on (by decide) hg)).same (hs _ (by decide))) ((h.nn.same (.grown h.on (by decide) hg)).same (hs _ (by decide)))
  · have := h.len; simp; omega
  · exact (h.bel.grown hg h.bel.size (fun kk e => (h.on.lt kk e).1)).setCell (p := ⟨w.heap.size + 1, 0, none⟩) (by show w.heap.size ≤ w.heap.size + 1; omega) _
/-- A tie more is stored. -/
theorem Rg.tie (h : Rg w P g An At cn ct xs k V) {A7 : Option Addr} {c7 : Nat} {d : Tie} (hg : V.grownBy X (Value.slice At g.ties.length ct).ownBlock) (ho : Own X w.heap.size 102 3 (.slice A7 (g.ties.length + 1) c7) (g.ties.length + 1) (g.ties.flatMap Tie.enc ++ Tie.enc d))
    (h1 : d.ok) (hr : rrun ⟨[], []⟩ 0 P = rrun ⟨g.nodes, g.ties ++ [d]⟩ (k + 1) (P.drop (k + 1))) :
    Rg w P ⟨g.nodes, g.ties ++ [d]⟩ An A7 cn c7 xs (k + 1) (X.setCell ⟨w.heap.size + 1, 1, none⟩ (.slice A7 (g.ties.length + 1) c7)) := by
  have z1 := grown_block hg h.z (h.ot.ne_block h.z (by decide))
  have g1 := grown_block hg h.gb (h.ot.ne_block h.gb (by decide))
  have hs : ∀ T, 25 ≠ T → Same T X (X.setCell ⟨w.heap.size + 1, 1, none⟩ (.slice A7 (g.ties.length + 1) c7)) := fun T hT => .setCell (p := ⟨w.heap.size + 1, 1, none⟩) g1 hT _
  have hl : (g.ties ++ [d]).length = g.ties.length + 1 := by simp
  have hf : (g.ties ++ [d]).flatMap Tie.enc = g.ties.flatMap Tie.enc ++ Tie.enc d := by simp
  refine ⟨setCell_other z1 (by omega) _ _, ?_, (h.on.same (.grown h.ot (by decide) hg)).same (hs _ (by decide)), (h.nn.same (.grown h.ot (by decide) hg)).same (hs _ (by decide)), ?_, ?_, hr, ?_, ?_⟩
  · rw [hl]; exact setCell_block g1 1 _
  · rw [hl, hf]; exact ho.same (hs _ (by decide))
  · intro t ht
    rcases List.mem_append.1 ht with h2 | h2
    · exact h.tt t h2
    · rw [List.mem_singleton.1 h2]; exact h1
  · have := h.len; simp; omega
  · exact (h.bel.grown hg h.bel.size (fun kk e => (h.ot.lt kk e).1)).setCell (p := ⟨w.heap.size + 1, 1, none⟩) (by show w.heap.size ≤ w.heap.size + 1; omega) _
/-- What an append leaves of the boxes. -/
theorem Rg.boxes_n (h : Rg w P g An At cn ct xs k V) (hg : V.grownBy X (Value.slice An g.nodes.length cn).ownBlock) : X.heap[w.heap.size]? = some (.cells #[.slice none 0 0, .slice none 0 0] 25 (0, 0)) ∧ X.heap[w.heap.size + 1]? = some (.cells #[.slice An g.nodes.length cn, .slice At g.ties.length ct] 25 (0, 0)) ∧ Below w.heap.size w X :=
  ⟨grown_block hg h.z (h.on.ne_block h.z (by decide)), grown_block hg h.gb (h.on.ne_block h.gb (by decide)), h.bel.grown hg h.bel.size (fun kk e => (h.on.lt kk e).1)⟩
theorem Rg.boxes_t (h : Rg w P g An At cn ct xs k V) (hg : V.grownBy X (Value.slice At g.ties.length ct).ownBlock) : X.heap[w.heap.size]? = some (.cells #[.slice none 0 0, .slice none 0 0] 25 (0, 0)) ∧ X.heap[w.heap.size + 1]? = some (.cells #[.slice An g.nodes.length cn, .slice At g.ties.length ct] 25 (0, 0)) ∧ Below w.heap.size w X :=
  ⟨grown_block hg h.z (h.ot.ne_block h.z (by decide)), grown_block hg h.gb (h.ot.ne_block h.gb (by decide)), h.bel.grown hg h.bel.size (fun kk e => (h.ot.lt kk e).1)⟩
/-- The result is stored. -/
theorem res2g {v0 v1 : Value} {c0 c1 : Value} (hB : Below w.heap.size w V) (h : V.heap[w.heap.size]? = some (.cells #[c0, c1] 25 (0, 0))) :
    Below w.heap.size w ((V.setCell ⟨w.heap.size, 0, none⟩ v0).setCell ⟨w.heap.size, 1, none⟩ v1) ∧ ((V.setCell ⟨w.heap.size, 0, none⟩ v0).setCell ⟨w.heap.size, 1, none⟩ v1).heap[w.heap.size]? = some (.cells #[v0, v1] 25 (0, 0)) ∧ ∀ T, 25 ≠ T → Same T V ((V.setCell ⟨w.heap.size, 0, none⟩ v0).setCell ⟨w.heap.size, 1, none⟩ v1) :=
  ⟨(hB.setCell (p := ⟨_, 0, none⟩) (Nat.le_refl _) _).setCell (p := ⟨_, 1, none⟩) (Nat.le_refl _) _, setCell_block (setCell_block h 0 v0) 1 v1,
   fun _ hT => (Same.setCell (p := ⟨w.heap.size, 0, none⟩) h hT v0).trans (Same.setCell (p := ⟨w.heap.size, 1, none⟩) (setCell_block h 0 v0) hT v1)⟩
end

/-- Cut at each that is in no quotes, if these count. -/
def rcutG (c : UInt8) (qs : Bool) : Bool → List UInt8 → List UInt8 → List (List UInt8)
  | _, cur, [] => [cur]
  | q, cur, x :: l => if x = 39 then rcutG c qs (q != qs) (cur ++ [x]) l else if x = c ∧ q = false then cur :: rcutG c qs false [] l else rcutG c qs q (cur ++ [x]) l
theorem rcutG_cons (c : UInt8) (qs q : Bool) (cur : List UInt8) (x : UInt8) (l : List UInt8) : rcutG c qs q cur (x :: l) = if x = 39 then rcutG c qs (q != qs) (cur ++ [x]) l else if x = c ∧ q = false then cur :: rcutG c qs false [] l else rcutG c qs q (cur ++ [x]) l := rfl
def rcutL (c : UInt8) (qs : Bool) (l : List UInt8) : List (List UInt8) := rcutG c qs false [] l
theorem rcutG_true (c : UInt8) : ∀ (l : List UInt8) (q : Bool) (cur : List UInt8), rcutG c true q cur l = cutF c q cur l
  | [], _, _ => rfl
  | x :: l, q, cur => by
    rw [rcutG_cons, cutF_cons, rcutG_true c l, rcutG_true c l, rcutG_true c l]
    cases q <;> rfl
theorem rcut_quotes (c : UInt8) (l : List UInt8) : rcutL c true l = cutL c l := rcutG_true c l _ _
theorem rcutG_plain {c : UInt8} (hc : c ≠ 39) : ∀ (n : Nat) (l : List UInt8), l.length ≤ n → ∀ cur : List UInt8, (∀ a r, Lib.split l [c] = a :: r → rcutG c false false cur l = (cur ++ a) :: r)
  | n, l, hn, cur => by
    have hno : ∀ (a : List UInt8) (cur : List UInt8) (t : List UInt8), noB c a → rcutG c false false cur (a ++ t) = rcutG c false false (cur ++ a) t := by
      intro a
      induction a with
      | nil => intro cur t _; simp
      | cons x a ih =>
        intro cur t h
        have h1 : x ≠ c := h x (by simp)
        show rcutG c false false cur (x :: (a ++ t)) = _
        rw [rcutG_cons]
        have h2 := ih (cur ++ [x]) t (fun y hy => h y (List.mem_cons_of_mem _ hy))
        by_cases h39 : x = 39
        · rw [if_pos h39]
          show rcutG c false false (cur ++ [x]) (a ++ t) = _
          rw [h2]; simp
        · rw [if_neg h39, if_neg (fun e => h1 e.1), h2]; simp
    intro a r hs
    rcases first_sign c l with h | ⟨b, t, rfl, h⟩
    · rw [split_no h] at hs
      injection hs with h1 h2
      subst h1; subst h2
      have := hno l cur [] h
      rw [List.append_nil] at this
      rw [this]; rfl
    · rw [split_sign h] at hs
      injection hs with h1 h2
      subst h1
      rw [hno b cur (c :: t) h, rcutG_cons, if_neg hc, if_pos ⟨rfl, rfl⟩]
      cases n with
      | zero => simp at hn
      | succ n =>
        cases hq : Lib.split t [c] with
        | nil => exact absurd hq (split_ne c t)
        | cons u v =>
          rw [rcutG_plain hc n t (by simp at hn; omega) [] u v hq, ← h2, hq]; rfl
theorem rcut_plain {c : UInt8} (hc : c ≠ 39) (l : List UInt8) : rcutL c false l = Lib.split l [c] := by
  cases hq : Lib.split l [c] with
  | nil => exact absurd hq (split_ne c l)
  | cons u v => exact (rcutG_plain hc l.length l (Nat.le_refl _) [] u v hq).trans (by simp)
set_option maxRecDepth 100000 in
set_option maxHeartbeats 8000000 in
theorem rcut_any (s : ByteArray) (c : UInt8) (hc39 : c ≠ 39) (qs : Bool) (w : World) (hs : Sm s) :
    Calls Tryz.prog 52 #[.string s, .int .u8 c.toNat, .bool qs] w fun e w' => ∃ A k, e = .returned (.slice A (rcutL c qs s.data.toList).length k) ∧ Own w' w.heap.size 9 1 (.slice A (rcutL c qs s.data.toList).length k) (rcutL c qs s.data.toList).length (wv (rcutL c qs s.data.toList)) ∧ Below w.heap.size w w' := by
  obtain ⟨i0, ei, ez, ez1, ez2⟩ := info_parts str_info
  have hle : s.data.toList.length = s.size := by rw [Array.length_toList]; rfl
  unfold Sm at hs
  have HLE := Lib.hid hle
  clear hle
  go_enter Tryz.func52, Tryz.ntmps52
  go_wp2_with fail
  go_loopw [7, 8, 9, 10] (fun x7 x8 x9 x10 wr => ∃ (k f : Nat) (done : List (List UInt8)) (q : Bool), k ≤ s.size ∧ f ≤ k ∧ done.length ≤ k ∧ x10 = .int .i64 k ∧ x8 = .int .i64 f ∧ x9 = .bool q ∧ Below w.heap.size w wr ∧ Hid (Own wr w.heap.size 9 1 x7 done.length (wv done)) ∧ Hid (done ++ rcutG c qs q ((s.data.toList.drop f).take (k - f)) (s.data.toList.drop k) = rcutL c qs s.data.toList)) (fun _ _ _ x10 _ => s.size - (intOf x10).toNat)
  case atStart => exact ⟨0, 0, [], false, Nat.zero_le _, Nat.le_refl _, Nat.le_refl _, rfl, rfl, rfl, Below.refl _ _, Own.nil _ _ _ _, rfl⟩
  case round =>
    obtain ⟨k, f, done, q, hk, hfk, hdk, rfl, rfl, rfl, hbr, HO, HX⟩ := hrel
    obtain ⟨wo, hwo⟩ : ∃ wo : World, wo = wr := ⟨_, rfl⟩
    subst hwo
    obtain ⟨A4, c4, rfl, hc4, _⟩ := HO.out.form
    by_cases hlt : k < s.size
    · have hlt' : (k : Int) < (s.size : Int) := by omega
      have hx : s.data.toList[k]? = some s[k] := by
        rw [List.getElem?_eq_getElem (by rw [HLE.out]; exact hlt)]; rfl
      have HX1 := Lib.hid (take_more hfk hx)
      have HX2 := Lib.hid (drop_one hx)
      have HST : Hid (done ++ rcutG c qs q ((s.data.toList.drop f).take (k - f)) (s[k] :: s.data.toList.drop (k + 1)) = rcutL c qs s.data.toList) := by
        unfold Hid; rw [← HX2.out]; exact HX.out
      generalize hsk : s[k] = x at *
      have HSK := Lib.hid hsk
      clear hx HX HX2
      by_cases h39 : x = 39
      · have hb39 : ((s[k].toNat : Int) == 39) = true := by rw [HSK.out, h39]; rfl
        have hbc : ((s[k].toNat : Int) == (c.toNat : Int)) = false := by
          rw [HSK.out, beq_eq_false_iff_ne]
          intro e
          exact hc39 (by rw [← h39]; exact UInt8.toNat_inj.1 (by omega))
        have HN : Hid (done ++ rcutG c qs (q != qs) ((s.data.toList.drop f).take (k + 1 - f)) (s.data.toList.drop (k + 1)) = rcutL c qs s.data.toList) := by
          unfold Hid; rw [HX1.out, ← HST.out, rcutG_cons, if_pos h39]
        clear h39 hsk HST HX1 hc39
        cases qs with
        | true =>
          have HN : Hid (done ++ rcutG c true (!q) ((s.data.toList.drop f).take (k + 1 - f)) (s.data.toList.drop (k + 1)) = rcutL c true s.data.toList) := by
            have h := HN.out; rw [show (q != true) = !q from by cases q <;> rfl] at h; exact h
          -- no cut here: (!q): in quotes behind it
          go_wp2_with fail
          go_roundw
          case rel => exact ⟨k + 1, f, done, (!q), by omega, by omega, by omega, by go_num, by go_num, rfl, hbr, HO, HN⟩
          case measure => simp [intOf]; omega
        | false =>
          have HN : Hid (done ++ rcutG c false q ((s.data.toList.drop f).take (k + 1 - f)) (s.data.toList.drop (k + 1)) = rcutL c false s.data.toList) := by
            have h := HN.out; rw [show (q != false) = q from by cases q <;> rfl] at h; exact h
          -- no cut here: q: in quotes behind it
          go_wp2_with fail
          go_roundw
          case rel => exact ⟨k + 1, f, done, q, by omega, by omega, by omega, by go_num, by go_num, rfl, hbr, HO, HN⟩
          case measure => simp [intOf]; omega
      · have hb39 : ((s[k].toNat : Int) == 39) = false := by
          rw [HSK.out, beq_eq_false_iff_ne]
          intro e
          exact h39 (UInt8.toNat_inj.1 (by show x.toNat = 39; omega))
        by_cases hc : x = c
        · have hbc : ((s[k].toNat : Int) == (c.toNat : Int)) = true := by rw [HSK.out, hc]; simp
          cases q with
          | true =>
            have HN : Hid (done ++ rcutG c qs true ((s.data.toList.drop f).take (k + 1 - f)) (s.data.toList.drop (k + 1)) = rcutL c qs s.data.toList) := by
              unfold Hid; rw [HX1.out, ← HST.out, rcutG_cons, if_neg h39, if_neg (fun e => by cases e.2)]
            clear h39 hsk HST HX1 hc hc39
            -- no cut here: true: in quotes behind it
            go_wp2_with fail
            go_roundw
            case rel => exact ⟨k + 1, f, done, true, by omega, by omega, by omega, by go_num, by go_num, rfl, hbr, HO, HN⟩
            case measure => simp [intOf]; omega
          | false =>
            have HN : Hid ((done ++ [(s.data.toList.drop f).take (k - f)]) ++ rcutG c qs false ((s.data.toList.drop (k + 1)).take (k + 1 - (k + 1))) (s.data.toList.drop (k + 1)) = rcutL c qs s.data.toList) := by
              unfold Hid; rw [← HST.out, rcutG_cons, if_neg h39, if_pos ⟨hc, rfl⟩]; simp
            clear h39 hsk HST HX1 hc hc39
            -- an append of s[f:k]: 35, 40: the temporaries; wo: the world; k: the piece's end, spelled
            have HOA : Hid (Own (wo.alloc (.cells #[.string (s.extract f k)] 9)) w.heap.size 9 1 (.slice A4 done.length c4) done.length (wv done)) := HO.out.alloc _
            have HN : Hid (∀ j u, ([.string (s.extract f k)] : List Value)[j]? = some u → (wo.alloc (.cells #[.string (s.extract f k)] 9)).cell? ⟨wo.heap.size, j, none⟩ = some u) := fun j u hj => by
              rw [World.cell?_alloc_at _ _ _ _ rfl]; simpa using hj
            have hA4 := hbr.alloc hbr.size (.cells #[.string (s.extract f k)] 9)
            clear hbr HO
            go_wp2_with (at_builtin; refine wpList_append_q _ rfl (.tmp 35) (.tmp 40) _ rfl w.heap.size 9 i0 (.string .empty) 1 16 Tryz.underlying58 ei ez ez1 ez2 rfl (by decide) (.slice A4 done.length c4) done.length (wv done) rfl HOA.out (some ⟨wo.heap.size, 0, none⟩) 1 1 [.string (s.extract f k)] rfl rfl (fun _ => ⟨_, rfl, fun j u hj => by rw [addr_add, Nat.zero_add]; exact HN.out j u hj⟩) (fun u hu => by simp at hu; subst hu; rfl) (by unfold maxLen; omega) (by omega) (by have := hA4.size; exact this) ?_; intro v9 w9 hown9 hg9 hat9)
            have hB9 : Below w.heap.size w w9 := hA4.grown hg9 hA4.size (fun kk e => (HOA.out.lt kk e).1)
            have HO9 : Hid (Own w9 w.heap.size 9 1 v9 (done.length + 1) (wv (done ++ [(s.data.toList.drop f).take (k - f)]))) := by
              unfold Hid wv
              rw [List.map_append]
              have h := hown9
              rw [ext_list] at h
              exact h
            clear hg9 hat9 hown9 HOA HN hA4
            go_wp2_with fail
            go_roundw
            case rel => exact ⟨k + 1, k + 1, done ++ [(s.data.toList.drop f).take (k - f)], false, by omega, by omega, by simp; omega, by go_num, by go_num, rfl, hB9, by rw [List.length_append]; exact HO9, HN⟩
            case measure => simp [intOf]; omega
        · have hbc : ((s[k].toNat : Int) == (c.toNat : Int)) = false := by
            rw [HSK.out, beq_eq_false_iff_ne]
            intro e
            exact hc (UInt8.toNat_inj.1 (by omega))
          have HN : Hid (done ++ rcutG c qs q ((s.data.toList.drop f).take (k + 1 - f)) (s.data.toList.drop (k + 1)) = rcutL c qs s.data.toList) := by
            unfold Hid; rw [HX1.out, ← HST.out, rcutG_cons, if_neg h39, if_neg (fun e => hc e.1)]
          clear h39 hsk HST HX1 hc hc39
          -- no cut here: q: in quotes behind it
          go_wp2_with fail
          go_roundw
          case rel => exact ⟨k + 1, f, done, q, by omega, by omega, by omega, by go_num, by go_num, rfl, hbr, HO, HN⟩
          case measure => simp [intOf]; omega
    · obtain rfl : k = s.size := by omega
      have HN : Hid (done ++ [(s.data.toList.drop f).take (s.size - f)] = rcutL c qs s.data.toList) := by
        have h := HX.out
        have e : s.data.toList.drop s.size = [] := List.drop_eq_nil_of_le (by rw [HLE.out]; exact Nat.le_refl _)
        rw [e] at h
        exact h
      clear hlt hk HX
      -- an append of s[f:s.size]: 44, 48: the temporaries; wo: the world; s.size: the piece's end, spelled
      have HOA : Hid (Own (wo.alloc (.cells #[.string (s.extract f s.size)] 9)) w.heap.size 9 1 (.slice A4 done.length c4) done.length (wv done)) := HO.out.alloc _
      have HN : Hid (∀ j u, ([.string (s.extract f s.size)] : List Value)[j]? = some u → (wo.alloc (.cells #[.string (s.extract f s.size)] 9)).cell? ⟨wo.heap.size, j, none⟩ = some u) := fun j u hj => by
        rw [World.cell?_alloc_at _ _ _ _ rfl]; simpa using hj
      have hA4 := hbr.alloc hbr.size (.cells #[.string (s.extract f s.size)] 9)
      clear hbr HO
      go_wp2_with (at_builtin; refine wpList_append_q _ rfl (.tmp 44) (.tmp 48) _ rfl w.heap.size 9 i0 (.string .empty) 1 16 Tryz.underlying58 ei ez ez1 ez2 rfl (by decide) (.slice A4 done.length c4) done.length (wv done) rfl HOA.out (some ⟨wo.heap.size, 0, none⟩) 1 1 [.string (s.extract f s.size)] rfl rfl (fun _ => ⟨_, rfl, fun j u hj => by rw [addr_add, Nat.zero_add]; exact HN.out j u hj⟩) (fun u hu => by simp at hu; subst hu; rfl) (by unfold maxLen; omega) (by omega) (by have := hA4.size; exact this) ?_; intro v9 w9 hown9 hg9 hat9)
      have hB9 : Below w.heap.size w w9 := hA4.grown hg9 hA4.size (fun kk e => (HOA.out.lt kk e).1)
      have HO9 : Hid (Own w9 w.heap.size 9 1 v9 (done.length + 1) (wv (done ++ [(s.data.toList.drop f).take (s.size - f)]))) := by
        unfold Hid wv
        rw [List.map_append]
        have h := hown9
        rw [ext_list] at h
        exact h
      clear hg9 hat9 hown9 HOA HN hA4
      go_wp2_with fail
      have hn9 : done.length + 1 = (rcutL c qs s.data.toList).length := by rw [← HN.out]; simp
      obtain ⟨A9, c9, rfl, _, _⟩ := HO9.out.form
      have HF : Hid (Own w9 w.heap.size 9 1 (.slice A9 (rcutL c qs s.data.toList).length c9) (rcutL c qs s.data.toList).length (wv (rcutL c qs s.data.toList))) := by
        have h := HO9.out
        rw [HN.out, hn9] at h
        exact h
      have HN9 := Lib.hid hn9
      clear hn9 HN HO9
      go_ret
      exact ⟨A9, c9, by first | rfl | (rw [HN9.out]; rfl), HF.out, hB9⟩

/-- A step of a region that draws, as it stands. -/
theorem step_here {P : Program} {ops : Array Oper} {o : Oper} {a : Act} {w : World} {K : Act → World → Prop} {Q : Exit → Act → World → Prop} {E : Prop} (hg : o.guard = none) (h : Oper.wp P o a w K Q) :
    if Region.wanted o (yielded ops a.tmps) = true then Oper.wp P o a w K Q else E := by
  rw [if_pos (by simp [Region.wanted, hg])]; exact h

theorem numL_bad {l : List UInt8} {m : Nat} (h : l = [] ∨ m < l.length ∨ (l.head? = some 48 ∧ 1 < l.length)) : numL l m = none := by unfold numL; rw [if_pos h]
theorem numL_go {l : List UInt8} {m : Nat} (h : ¬ (l = [] ∨ m < l.length ∨ (l.head? = some 48 ∧ 1 < l.length))) : numL l m = Lib.decFrom 0 l := by unfold numL; rw [if_neg h]
theorem head_at {s : ByteArray} (h : 0 < s.size) : s.data.toList.head? = some s[0] := by
  have := bytes_at s 0 h
  rw [← List.head?_eq_getElem?] at this; exact this
set_option maxHeartbeats 4000000 in
theorem rnumber_any (s : ByteArray) (hs : Sm s) (m : Nat) (hm : m ≤ 9) (w : World) :
    Calls Tryz.prog 54 #[.string s, .int .i64 (m : Int)] w fun e w' => ∃ n : Nat, e = .returned (.tuple #[.int .i64 (n : Int), .bool (numL s.data.toList m).isSome]) ∧ (∀ u, numL s.data.toList m = some u → n = u) ∧ (numL s.data.toList m = none → n = 0) ∧ w' = w := by
  have hle : s.data.toList.length = s.size := by rw [Array.length_toList]; rfl
  unfold Sm at hs
  have hE : (s.toList = []) = (s.data.toList = []) := by
    have h := bs_lit (K := s.data.toList) (L := []) (M := []) (by decide +kernel)
    rw [bs_of] at h; exact h
  by_cases h0 : s.size = 0
  · have hnil : s.data.toList = [] := List.length_eq_zero_iff.1 (by omega)
    have b1 : s.toList = [] := by rw [hE]; exact hnil
    have b2 : (s.toList == []) = true := by rw [b1]; rfl
    have b3 : s.toList.isEmpty = true := by rw [b1]; rfl
    clear hE h0 hs hle hm
    -- the answer: none
    have HE := Lib.hid (numL_bad (l := s.data.toList) (m := m) (.inl hnil))
    go_enter Tryz.func54, Tryz.ntmps54
    go_wp2_with fail
    go_ret2
    exact ⟨0, by rw [HE.out]; rfl, (fun u hu => by rw [HE.out] at hu; cases hu), (fun _ => rfl), rfl⟩
  have hnn : ¬ s.data.toList = [] := fun e => h0 (by rw [← hle, e]; rfl)
  have b1 : ¬ s.toList = [] := by rw [hE]; exact hnn
  have b2 : (s.toList == []) = false := beq_eq_false_iff_ne.2 b1
  have b3 : s.toList.isEmpty = false := List.isEmpty_eq_false_iff.2 b1
  by_cases hlm : m < s.size
  · have hlm' : (m : Int) < (s.size : Int) := by omega
    have hlm2 : m < s.data.toList.length := by omega
    clear hE h0 hs hle hm hlm hnn
    -- the answer: none
    have HE := Lib.hid (numL_bad (l := s.data.toList) (m := m) (.inr (.inl hlm2)))
    go_enter Tryz.func54, Tryz.ntmps54
    go_wp2_with fail
    go_ret2
    exact ⟨0, by rw [HE.out]; rfl, (fun u hu => by rw [HE.out] at hu; cases hu), (fun _ => rfl), rfl⟩
  have hlm' : ¬ (m : Int) < (s.size : Int) := by omega
  have hpos : 0 < s.size := by omega
  have hhd := head_at hpos
  have hpos' : (0 : Int) < (s.size : Int) := by omega
  by_cases h48 : s[0] = 48 ∧ 1 < s.size
  · have c1 : ((s[0].toNat : Int) == 48) = true := by rw [h48.1]; rfl
    have c1' : (s[0].toNat : Int) = 48 := by rw [h48.1]; rfl
    have c2 : (1 : Int) < (s.size : Int) := by have := h48.2; omega
    have hbd : s.data.toList = [] ∨ m < s.data.toList.length ∨ (s.data.toList.head? = some 48 ∧ 1 < s.data.toList.length) := .inr (.inr ⟨by rw [hhd, h48.1], by rw [hle]; exact h48.2⟩)
    clear hE h0 hs hle hm hlm hnn hhd h48
    -- the answer: none
    have HE := Lib.hid (numL_bad (l := s.data.toList) (m := m) hbd)
    go_enter Tryz.func54, Tryz.ntmps54
    go_wp2_with fail
    go_ret2
    exact ⟨0, by rw [HE.out]; rfl, (fun u hu => by rw [HE.out] at hu; cases hu), (fun _ => rfl), rfl⟩
  have HG : Hid (numL s.data.toList m = Lib.decFrom 0 s.data.toList) := numL_go (by
    rintro (h | h | ⟨h, h2⟩)
    · exact hnn h
    · omega
    · rw [hhd] at h; exact h48 ⟨Option.some.inj h, by omega⟩)
  have hs9 : s.size ≤ 9 := by omega
  have HLE := Lib.hid hle
  obtain ⟨qb, hq⟩ : ∃ qb, ((s[0].toNat : Int) == 48) = qb := ⟨_, rfl⟩
  have hqc : qb = true → ¬ (1 : Int) < (s.size : Int) := fun h => by
    rw [h] at hq
    have h1 : (s[0].toNat : Int) = 48 := by simpa using hq
    have h2 : s[0] = 48 := UInt8.toNat_inj.1 (by have : s[0].toNat = 48 := by omega
                                                 rw [this]; rfl)
    intro h3
    exact h48 ⟨h2, by omega⟩
  clear hE h0 hs hle hm hlm hnn hhd h48
  cases qb with
  | true =>
    have hq2 : (s[0].toNat : Int) = 48 := by simpa using hq
    have h1 := hqc rfl
    have h1d : decide ((1 : Int) < (s.size : Int)) = false := decide_eq_false h1
    clear hqc
    go_enter Tryz.func54, Tryz.ntmps54
    go_wp2_with fail
    clear hq hq2
    go_loop [6, 7] (fun av i => ∃ (k a : Nat), k ≤ s.size ∧ i = .int .i64 k ∧ av = .int .i64 (a : Int) ∧ Hid (a < 10 ^ k) ∧ Hid (Lib.decFrom 0 s.data.toList = Lib.decFrom a (s.data.toList.drop k))) (fun _ i => s.size - (intOf i).toNat)
    case atStart => exact ⟨0, 0, Nat.zero_le _, rfl, rfl, (by unfold Hid; omega), by rw [List.drop_zero]; rfl⟩
    case round =>
      obtain ⟨k, a, hk, rfl, rfl, HA, HF⟩ := hrel
      by_cases hlt : k < s.size
      · have hlt' : (k : Int) < (s.size : Int) := by omega
        have HB := Lib.hid (bytes_at s k hlt)
        have hD := drop_cons_of HB.out
        by_cases hlo : (s[k].toNat : Int) < 48
        · have HN : Hid (numL s.data.toList m = none) := by unfold Hid; rw [HG.out, HF.out, hD, decFrom_bad (digit_none (.inl (by omega)))]
          clear hD HF HB HA
          go_wp2_with fail
          go_ret2
          exact ⟨0, by rw [HN.out]; rfl, (fun u hu => by rw [HN.out] at hu; cases hu), (fun _ => rfl), rfl⟩
        · have hlo' : (48 : Int) ≤ (s[k].toNat : Int) := by omega
          by_cases hhi : (57 : Int) < (s[k].toNat : Int)
          · have HN : Hid (numL s.data.toList m = none) := by unfold Hid; rw [HG.out, HF.out, hD, decFrom_bad (digit_none (.inr (by omega)))]
            clear hD HF HB HA hlo
            go_wp2_with fail
            go_ret2
            exact ⟨0, by rw [HN.out]; rfl, (fun u hu => by rw [HN.out] at hu; cases hu), (fun _ => rfl), rfl⟩
          · have hhi' : (s[k].toNat : Int) ≤ 57 := by omega
            have HF2 : Hid (Lib.decFrom 0 s.data.toList = Lib.decFrom (a * 10 + (s[k].toNat - 48)) (s.data.toList.drop (k + 1))) := by unfold Hid; rw [HF.out, hD, decFrom_good (digit_some (by omega) (by omega))]
            have ha9 : a < 10 ^ 9 := Nat.lt_of_lt_of_le HA.out (Nat.pow_le_pow_right (by omega) (by omega))
            have ha9' : a < 1000000000 := by simpa using ha9
            have HA2 : Hid (a * 10 + (s[k].toNat - 48) < 10 ^ (k + 1)) := by
              have := HA.out
              unfold Hid; rw [Nat.pow_succ]; omega
            clear hD HF HB HA hlo hhi ha9
            go_wp2_with fail
            go_round
            case rel => exact ⟨k + 1, a * 10 + (s[k].toNat - 48), by omega, by go_num, by go_num, HA2, HF2⟩
            case measure => simp [intOf]; omega
      · obtain rfl : k = s.size := by omega
        have HN : Hid (numL s.data.toList m = some a) := by
          unfold Hid; rw [HG.out, HF.out, ← HLE.out, List.drop_length]; rfl
        go_wp2_with fail
        go_ret2
        exact ⟨a, by rw [HN.out]; rfl, (fun u hu => by rw [HN.out] at hu; exact Option.some.inj hu), (fun h => by rw [HN.out] at h; cases h), rfl⟩
  | false =>
    have hq2 : ¬ (s[0].toNat : Int) = 48 := by simpa using hq
    clear hqc
    go_enter Tryz.func54, Tryz.ntmps54
    go_wp2_with fail
    clear hq hq2
    go_loop [6, 7] (fun av i => ∃ (k a : Nat), k ≤ s.size ∧ i = .int .i64 k ∧ av = .int .i64 (a : Int) ∧ Hid (a < 10 ^ k) ∧ Hid (Lib.decFrom 0 s.data.toList = Lib.decFrom a (s.data.toList.drop k))) (fun _ i => s.size - (intOf i).toNat)
    case atStart => exact ⟨0, 0, Nat.zero_le _, rfl, rfl, (by unfold Hid; omega), by rw [List.drop_zero]; rfl⟩
    case round =>
      obtain ⟨k, a, hk, rfl, rfl, HA, HF⟩ := hrel
      by_cases hlt : k < s.size
      · have hlt' : (k : Int) < (s.size : Int) := by omega
        have HB := Lib.hid (bytes_at s k hlt)
        have hD := drop_cons_of HB.out
        by_cases hlo : (s[k].toNat : Int) < 48
        · have HN : Hid (numL s.data.toList m = none) := by unfold Hid; rw [HG.out, HF.out, hD, decFrom_bad (digit_none (.inl (by omega)))]
          clear hD HF HB HA
          go_wp2_with fail
          go_ret2
          exact ⟨0, by rw [HN.out]; rfl, (fun u hu => by rw [HN.out] at hu; cases hu), (fun _ => rfl), rfl⟩
        · have hlo' : (48 : Int) ≤ (s[k].toNat : Int) := by omega
          by_cases hhi : (57 : Int) < (s[k].toNat : Int)
          · have HN : Hid (numL s.data.toList m = none) := by unfold Hid; rw [HG.out, HF.out, hD, decFrom_bad (digit_none (.inr (by omega)))]
            clear hD HF HB HA hlo
            go_wp2_with fail
            go_ret2
            exact ⟨0, by rw [HN.out]; rfl, (fun u hu => by rw [HN.out] at hu; cases hu), (fun _ => rfl), rfl⟩
          · have hhi' : (s[k].toNat : Int) ≤ 57 := by omega
            have HF2 : Hid (Lib.decFrom 0 s.data.toList = Lib.decFrom (a * 10 + (s[k].toNat - 48)) (s.data.toList.drop (k + 1))) := by unfold Hid; rw [HF.out, hD, decFrom_good (digit_some (by omega) (by omega))]
            have ha9 : a < 10 ^ 9 := Nat.lt_of_lt_of_le HA.out (Nat.pow_le_pow_right (by omega) (by omega))
            have ha9' : a < 1000000000 := by simpa using ha9
            have HA2 : Hid (a * 10 + (s[k].toNat - 48) < 10 ^ (k + 1)) := by
              have := HA.out
              unfold Hid; rw [Nat.pow_succ]; omega
            clear hD HF HB HA hlo hhi ha9
            go_wp2_with fail
            go_round
            case rel => exact ⟨k + 1, a * 10 + (s[k].toNat - 48), by omega, by go_num, by go_num, HA2, HF2⟩
            case measure => simp [intOf]; omega
      · obtain rfl : k = s.size := by omega
        have HN : Hid (numL s.data.toList m = some a) := by
          unfold Hid; rw [HG.out, HF.out, ← HLE.out, List.drop_length]; rfl
        go_wp2_with fail
        go_ret2
        exact ⟨a, by rw [HN.out]; rfl, (fun u hu => by rw [HN.out] at hu; exact Option.some.inj hu), (fun h => by rw [HN.out] at h; cases h), rfl⟩
end Go.Proofs.YtflidfmpmakggaaGreatDoor
