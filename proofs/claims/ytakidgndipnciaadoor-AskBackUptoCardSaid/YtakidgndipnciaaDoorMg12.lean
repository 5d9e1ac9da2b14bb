/- Parts: RxD. -/
import Derived.Test.YtakidgndipnciaaDoorMg09
import Derived.Test.YtakidgndipnciaaDoorMg11
/- Contract of the reader of a path: value. Conditions: the text is not too long; the library's errors are laid. -/
namespace Go.Proofs.YtakidgndipnciaaDoor
open Go Go.RowKit



/-- A box of a value, new since w. -/
def BoxW (w : World) (b : Nat) (v : Val) (wx : World) : Prop := wx.heap[b]? = some (.cells #[.int .i64 v.ty, .int .i64 v.n, .string v.s] 38 (0, 0)) ∧ w.heap.size ≤ b ∧ Below w.heap.size w wx
theorem BoxW.late {w w3 : World} {v : Val} (h : Below w.heap.size w w3) : BoxW w w3.heap.size v (w3.alloc (.cells #[.int .i64 v.ty, .int .i64 v.n, .string v.s] 38)) :=
  ⟨heap_alloc_new _ _, h.size, h.alloc h.size _⟩
theorem BoxW.soon {w w3 : World} {v : Val} {b : Nat} {c0 c1 c2 : Value} (h : Below w.heap.size w w3) (hb : w.heap.size ≤ b) (hq : w3.heap[b]? = some (.cells #[c0, c1, c2] 38 (0, 0))) :
    BoxW w b v (((w3.setCell ⟨b, 0, none⟩ (.int .i64 v.ty)).setCell ⟨b, 1, none⟩ (.int .i64 v.n)).setCell ⟨b, 2, none⟩ (.string v.s)) :=
  ⟨setCell_block (setCell_block (setCell_block hq 0 _) 1 _) 2 _, hb, ((h.setCell (p := ⟨b, 0, none⟩) hb _).setCell (p := ⟨b, 1, none⟩) hb _).setCell (p := ⟨b, 2, none⟩) hb _⟩
theorem RdK.setNew {r q i : Nat} {w w' : World} (h : RdK r w w') (hq : w.heap.size ≤ q) (hr : r ≤ q) (u : Value) : RdK r w (w'.setCell ⟨q, i, none⟩ u) :=
  ⟨h.bel.setCell (p := ⟨q, i, none⟩) hr u, fun k hk hkr => (Below.heap_setCell w' ⟨q, i, none⟩ u k (fun e => by have e : k = q := e; omega)).trans (h.up k hk hkr)⟩
theorem setCell_oth {w : World} {k q : Nat} {o : Obj} (h : w.heap[k]? = some o) (hne : k ≠ q) (i : Nat) (v : Value) : (w.setCell ⟨q, i, none⟩ v).heap[k]? = some o := (Below.heap_setCell w ⟨q, i, none⟩ v k hne).trans h
theorem valF_stop {q : Bool} {x : UInt8} {b : List UInt8} (h : q = false ∧ (x = 44 ∨ x = 93)) : valF q (x :: b) = ([], x :: b) := by show (if _ then _ else _) = _; rw [if_pos h]
theorem valF_go {q : Bool} {x : UInt8} {b : List UInt8} (h : ¬ (q = false ∧ (x = 44 ∨ x = 93))) : valF q (x :: b) = (x :: (valF (q != decide (x = 39)) b).1, (valF (q != decide (x = 39)) b).2) := by
  show (if _ then _ else _) = _
  rw [if_neg h]
  have e : (if x = 39 then !q else q) = (q != decide (x = 39)) := by
    by_cases h3 : x = 39
    · rw [if_pos h3, decide_eq_true h3]; cases q <;> rfl
    · rw [if_neg h3, decide_eq_false h3]; cases q <;> rfl
  rw [e]
theorem u8_eq (x : UInt8) (n : Nat) (hn : n < 256) : ((x.toNat : Int) == (n : Int)) = decide (x = UInt8.ofNat n) := by
  by_cases h : x = UInt8.ofNat n
  · rw [decide_eq_true h, h]
    have : (UInt8.ofNat n).toNat = n := by simp; omega
    rw [this]; exact beq_self_eq_true _
  · rw [decide_eq_false h, beq_eq_false_iff_ne]
    intro e
    apply h
    apply UInt8.toNat_inj.1
    have : (UInt8.ofNat n).toNat = n := by simp; omega
    omega
/-- Does the value go on? -/
def goB (q : Bool) : List UInt8 → Bool
  | [] => false
  | x :: _ => q || (!decide (x = 44) && !decide (x = 93))
theorem goB_cons (q : Bool) (x : UInt8) (b : List UInt8) : goB q (x :: b) = (q || (!decide (x = 44) && !decide (x = 93))) := rfl
set_option maxRecDepth 100000 in
set_option maxHeartbeats 8000000 in
theorem value_rd (s : ByteArray) (hs : Sm s) (r : Nat) (l : List UInt8) (w : World) (wB : World) (hT : TxOk wB) (hBr : wB.heap.size ≤ r) (hBw : Below wB.heap.size wB w) (h : RdAt w r s l) :
    Calls Tryd.prog 40 #[.pointer (some ⟨r, 0, none⟩)] w fun e w' => Rd r s w (pVal l) (fun v u _ => u = .agg #[.int .i64 v.ty, .int .i64 v.n, .string v.s]) e w' := by
  have hrl := h.lt
  obtain ⟨p, hp1, hp2, hp3⟩ := h
  unfold Sm at hs
  have HT : Hid (∀ W, Below r w W → TxOk W) := fun W h => hT.below (hBw.trans (h.mono hBr))
  have ha := (Below.refl w.heap.size w).alloc (Nat.le_refl _) (.cells #[.int .i64 0, .int .i64 0, .string ⟨#[]⟩] 38)
  have hz := heap_alloc_new w (.cells #[.int .i64 0, .int .i64 0, .string ⟨#[]⟩] 38)
  have hp3 := (ha.block r hrl).trans hp3
  have x1 := block_cell hp3 1
  have HRA : Hid (RdAt (w.alloc (.cells #[.int .i64 0, .int .i64 0, .string ⟨#[]⟩] 38)) r s l) := ⟨p, hp1, hp2, hp3⟩
  have HP := Lib.hid (And.intro hp1 hp2)
  have HRL := Lib.hid hrl
  have HNE : Hid (w.heap.size ≠ r) := by unfold Hid; omega
  have HK0 := Lib.hid (RdK.of (Nat.le_of_lt hrl) ha)
  have HZK : Hid (Below r w (w.alloc (.cells #[.int .i64 0, .int .i64 0, .string ⟨#[]⟩] 38))) := HK0.out.bel
  clear hp1 hp2 hT hp3 hrl ha hBw hBr
  go_enter Tryd.func40, Tryd.ntmps40
  go_upto_region 1 with fail
  generalize w.alloc (.cells #[.int .i64 0, .int .i64 0, .string ⟨#[]⟩] 38) = W0 at *
  generalize hq : w.heap.size = q at *
  have HZ := Lib.hid hz
  clear hz
  go_wp2_with fail
  -- a loop: the mask [.k, .k, .k, .k, .a, .k, .k, .k, .k, .k, .k, .y 11, .y 12, .y 13, .y 14, .y 15, .y 16, .y 17, .y 18, .y 19, .y 20, .y 21, .y 22, .y 23, .y 24, .y 25, .y 26, .y 27, .y 28, .y 29, .y 30, .y 31, .y 32, .y 33, .y 34, .y 35, .y 36, .y 37, .y 38, .y 39, .y 40, .y 41, .y 42, .y 43, .y 44, .y 45, .y 46, .y 47, .y 48, .y 49, .y 50, .y 51, .y 52, .y 53, .y 54, .y 55, .y 56, .y 57, .y 58, .y 59, .y 60, .y 61, .y 62, .y 63, .y 64, .y 65, .y 66, .k, .k, .k, .k, .k, .k, .k, .k, .k, .k, .k, .k, .k, .k, .k, .k, .k, .k, .k, .k], the slots 4 0 0 0, the relation fun x4 _ _ _ wr => ∃ (q1 : Bool) (a b : List UInt8), x4 = .bool q1 ∧ Hid (l = a ++ b ∧ valF false l = (a ++ (valF q1 b).1, (valF q1 b).2)) ∧ Hid (RdK r W0 wr) ∧ Hid (RdAt wr r s b), the measure fun _ _ _ _ wr => rdM wr r s.size
  apply wp_loopm [.k, .k, .k, .k, .a, .k, .k, .k, .k, .k, .k, .y 11, .y 12, .y 13, .y 14, .y 15, .y 16, .y 17, .y 18, .y 19, .y 20, .y 21, .y 22, .y 23, .y 24, .y 25, .y 26, .y 27, .y 28, .y 29, .y 30, .y 31, .y 32, .y 33, .y 34, .y 35, .y 36, .y 37, .y 38, .y 39, .y 40, .y 41, .y 42, .y 43, .y 44, .y 45, .y 46, .y 47, .y 48, .y 49, .y 50, .y 51, .y 52, .y 53, .y 54, .y 55, .y 56, .y 57, .y 58, .y 59, .y 60, .y 61, .y 62, .y 63, .y 64, .y 65, .y 66, .k, .k, .k, .k, .k, .k, .k, .k, .k, .k, .k, .k, .k, .k, .k, .k, .k, .k, .k, .k] 4 0 0 0 (by decide +kernel) rfl (fun x4 _ _ _ wr => ∃ (q1 : Bool) (a b : List UInt8), x4 = .bool q1 ∧ Hid (l = a ++ b ∧ valF false l = (a ++ (valF q1 b).1, (valF q1 b).2)) ∧ Hid (RdK r W0 wr) ∧ Hid (RdAt wr r s b)) (fun _ _ _ _ wr => rdM wr r s.size) _ _ _ _ rfl rfl rfl rfl
  case start => exact ⟨false, [], l, rfl, ⟨rfl, by simp⟩, RdK.refl _ _, HRA⟩
  case round =>
    -- a round: the names u4 _ _ _ (four), the world's name
    intro ff u4 _ _ _ wr hrel
    dsimp only [spread]
    clear HRA
    obtain ⟨q1, a, b, rfl, HAB, HK, HA⟩ := hrel
    obtain ⟨wo, hwo⟩ : ∃ wo : World, wo = wr := ⟨_, rfl⟩
    subst hwo
    have HM := Lib.hid (rdM_at HA.out)
    obtain ⟨p2, hp21, hp22, hp23⟩ := HA.out
    have HB3 := Lib.hid hp23
    have y0 := block_cell hp23 0
    have y1 := block_cell hp23 1
    have HP2 := Lib.hid (And.intro hp21 hp22)
    clear x1
    obtain ⟨gob, hgo⟩ : ∃ gob : Bool, gob = goB q1 b := ⟨_, rfl⟩
    have HGO := Lib.hid hgo
    clear hgo
    have hps : p2 ≤ s.size := by omega
    have hp0' : (0 : Int) ≤ (p2 : Int) := Int.natCast_nonneg p2
    go_upto_region 2 with fail
    -- a cut: the mask [.k, .k, .k, .k, .k, .k, .k, .k, .k, .k, .k, .y 11, .y 12, .y 13, .y 14, .y 15, .y 16, .y 17, .y 18, .y 19, .y 20, .y 21, .y 22, .y 23, .y 24, .y 25, .y 26, .y 27, .y 28, .y 29, .y 30, .y 31, .y 32, .y 33, .y 34, .y 35, .y 36, .y 37, .y 38, .y 39, .y 40, .y 41, .y 42, .y 43, .y 44, .y 45, .y 46, .a, .k, .k, .k, .k, .k, .k, .k, .k, .k, .k, .k, .k, .k, .k, .k, .k, .k, .k, .k, .k, .k, .k, .k, .k, .k, .k, .k, .k, .k, .k, .k, .k, .k, .k, .k, .k, .k, .k, .k], the slots 47 0 0 0, the relation fun v _ _ _ wx => v = .bool gob ∧ ∃ n, wx = wo.drewN n
    apply wp_cutm [.k, .k, .k, .k, .k, .k, .k, .k, .k, .k, .k, .y 11, .y 12, .y 13, .y 14, .y 15, .y 16, .y 17, .y 18, .y 19, .y 20, .y 21, .y 22, .y 23, .y 24, .y 25, .y 26, .y 27, .y 28, .y 29, .y 30, .y 31, .y 32, .y 33, .y 34, .y 35, .y 36, .y 37, .y 38, .y 39, .y 40, .y 41, .y 42, .y 43, .y 44, .y 45, .y 46, .a, .k, .k, .k, .k, .k, .k, .k, .k, .k, .k, .k, .k, .k, .k, .k, .k, .k, .k, .k, .k, .k, .k, .k, .k, .k, .k, .k, .k, .k, .k, .k, .k, .k, .k, .k, .k, .k, .k, .k] 47 0 0 0 (by decide +kernel) (fun v _ _ _ wx => v = .bool gob ∧ ∃ n, wx = wo.drewN n)
    case first =>
      -- within a cut
      intro JJ KK hmeet hnext
      -- of what is to be done behind only the innermost is kept
      rename ∀ (a : Act) (w : World), Code.wp _ _ _ a w → _ => hkeep
      revert hkeep
      repeat (rename ∀ (a : Act) (w : World), Code.wp _ _ _ a w → _ => hz; clear hz)
      intro hkeep
      cases b with
      | nil =>
        have hd : decide ((p2 : Int) < (s.size : Int)) = false := decide_eq_false (by have := hp21; simp at this; omega)
        have hd' : decide (p2 < s.size) = false := decide_eq_false (by have := hp21; simp at this; omega)
        clear hp21 hp22 hp23
        go_quiet (fail)
        go_wp2_with fail
        -- a way's end
        refine Met.intro ?_
        go_step
        refine Forgot.at _ _ _ _ _ rfl rfl rfl rfl rfl rfl ?_
        exact ⟨by rw [HGO.out]; rfl, _, rfl⟩
      | cons x b' =>
        obtain ⟨hpx, _⟩ := rd_cons hp22
        obtain ⟨hp, hbx⟩ := rd_byte hpx
        have hd : decide ((p2 : Int) < (s.size : Int)) = true := decide_eq_true (Int.ofNat_lt.2 hp)
        have hd' : decide (p2 < s.size) = true := decide_eq_true hp
        have hlt : (p2 : Int) < (s.size : Int) := Int.ofNat_lt.2 hp
        clear hp21 hp22 hp23 hpx
        cases q1 with
        | true =>
          go_quiet (fail)
          go_wp2_with fail
          -- a way's end
          refine Met.intro ?_
          go_step
          refine Forgot.at _ _ _ _ _ rfl rfl rfl rfl rfl rfl ?_
          exact ⟨by rw [HGO.out]; rfl, _, rfl⟩
        | false =>
          have e44 := u8_eq x 44 (by decide)
          have e93 := u8_eq x 93 (by decide)
          have e44' : ((x.toNat : Int) == 44) = decide (x = 44) := e44
          have e93' : ((x.toNat : Int) == 93) = decide (x = 93) := e93
          have n44' : ((x.toNat : Int) != 44) = !decide (x = 44) := by unfold bne; rw [e44']
          have n93' : ((x.toNat : Int) != 93) = !decide (x = 93) := by unfold bne; rw [e93']
          clear e44 e93
          by_cases h44 : x = 44
          · have hD := Lib.hid (decide_eq_true h44)
            rw [hD.out] at e44' n44'
            clear h44
            go_quiet (fail)
            go_wp2_with fail
            -- a way's end
            refine Met.intro ?_
            go_step
            refine Forgot.at _ _ _ _ _ rfl rfl rfl rfl rfl rfl ?_
            exact ⟨by rw [HGO.out]; rw [goB_cons, hD.out]; rfl, _, rfl⟩
          · have hD := Lib.hid (decide_eq_false h44)
            rw [hD.out] at e44' n44'
            clear h44
            by_cases h93 : x = 93
            · have hD9 := Lib.hid (decide_eq_true h93)
              rw [hD9.out] at e93' n93'
              clear h93
              go_quiet (fail)
              go_wp2_with fail
              -- a way's end
              refine Met.intro ?_
              go_step
              refine Forgot.at _ _ _ _ _ rfl rfl rfl rfl rfl rfl ?_
              exact ⟨by rw [HGO.out]; rw [goB_cons, hD.out, hD9.out]; rfl, _, rfl⟩
            · have hD9 := Lib.hid (decide_eq_false h93)
              rw [hD9.out] at e93' n93'
              clear h93
              go_quiet (fail)
              go_wp2_with fail
              -- a way's end
              refine Met.intro ?_
              go_step
              refine Forgot.at _ _ _ _ _ rfl rfl rfl rfl rfl rfl ?_
              exact ⟨by rw [HGO.out]; rw [goB_cons, hD.out, hD9.out]; rfl, _, rfl⟩
    case rest =>
    -- behind a cut: the names of the slots' values u47 _ _ _ (four)
    intro ff u47 _ _ _ wc hcut
    dsimp only [spread]
    obtain ⟨w3, hw3⟩ : ∃ y : World, y = wc := ⟨_, rfl⟩
    subst hw3
    obtain ⟨rfl, nw, hnw⟩ := hcut
    have hB3 : w3.heap[r]? = some (.cells #[.string s, .int .i64 (p2 : Int)] 55 (0, 0)) := by rw [hnw]; exact HB3.out
    have HK3 : Hid (RdK r W0 w3) := HK.out.trans (by rw [hnw]; exact ⟨Go.below_drewN (Below.refl _ _) nw, fun _ _ _ => rfl⟩)
    clear y0 y1 hnw HK HA
    have y0 := block_cell hB3 0
    have y1 := block_cell hB3 1
    cases gob with
    | true =>
      obtain ⟨x, b', hb, hgo⟩ : ∃ x b', b = x :: b' ∧ ¬ (q1 = false ∧ (x = 44 ∨ x = 93)) := by
        cases b with
        | nil => exact absurd HGO.out (by show ¬ (true = false); decide)
        | cons x b' =>
          refine ⟨x, b', rfl, fun h => ?_⟩
          have e := HGO.out
          rw [goB_cons, h.1] at e
          rcases h.2 with h2 | h2
          · rw [decide_eq_true h2] at e; cases e
          · rw [decide_eq_true h2, Bool.not_true, Bool.and_false] at e; cases e
      subst hb
      have HVF := Lib.hid (valF_go (b := b') hgo)
      obtain ⟨hpx, hpl⟩ := rd_cons hp22
      obtain ⟨hp, hbx⟩ := rd_byte hpx
      have hlt : (p2 : Int) < (s.size : Int) := Int.ofNat_lt.2 hp
      have e39 : ((x.toNat : Int) == 39) = decide (x = 39) := u8_eq x 39 (by decide)
      have HNX : Hid (p2 + 1 + b'.length = s.size ∧ s.data.toList.drop (p2 + 1) = b') := ⟨by have := hp21; simp at this; omega, hpl⟩
      obtain ⟨q2, hq2⟩ : ∃ q2, q2 = (q1 != decide (x = 39)) := ⟨_, rfl⟩
      have HQ2 := Lib.hid hq2
      generalize decide (x = 39) = c39 at *
      clear hgo hpx hpl hq2 hp21 hp22 hp23 HGO
      go_upto_region 3 with fail
      -- a cut: the mask [.k, .k, .k, .k, .a, .k, .k, .k, .k, .k, .k, .k, .k, .k, .k, .k, .k, .k, .k, .k, .k, .k, .k, .k, .k, .k, .k, .k, .k, .k, .k, .k, .k, .k, .k, .k, .k, .k, .k, .k, .k, .k, .k, .k, .k, .k, .k, .k, .y 48, .y 49, .y 50, .y 51, .y 52, .y 53, .y 54, .y 55, .y 56, .y 57, .y 58, .y 59, .k, .k, .k, .k, .k, .k, .k, .k, .k, .k, .k, .k, .k, .k, .k, .k, .k, .k, .k, .k, .k, .k, .k, .k, .k, .k, .k], the slots 4 0 0 0, the relation fun v _ _ _ wx => v = .bool q2 ∧ ∃ n, wx = w3.drewN n
      apply wp_cutm [.k, .k, .k, .k, .a, .k, .k, .k, .k, .k, .k, .k, .k, .k, .k, .k, .k, .k, .k, .k, .k, .k, .k, .k, .k, .k, .k, .k, .k, .k, .k, .k, .k, .k, .k, .k, .k, .k, .k, .k, .k, .k, .k, .k, .k, .k, .k, .k, .y 48, .y 49, .y 50, .y 51, .y 52, .y 53, .y 54, .y 55, .y 56, .y 57, .y 58, .y 59, .k, .k, .k, .k, .k, .k, .k, .k, .k, .k, .k, .k, .k, .k, .k, .k, .k, .k, .k, .k, .k, .k, .k, .k, .k, .k, .k] 4 0 0 0 (by decide +kernel) (fun v _ _ _ wx => v = .bool q2 ∧ ∃ n, wx = w3.drewN n)
      case first =>
        -- within a cut
        intro JJ KK hmeet hnext
        -- of what is to be done behind only the innermost is kept
        rename ∀ (a : Act) (w : World), Code.wp _ _ _ a w → _ => hkeep
        revert hkeep
        repeat (rename ∀ (a : Act) (w : World), Code.wp _ _ _ a w → _ => hz; clear hz)
        intro hkeep
        cases q1 <;> cases c39 <;>
        · go_quiet (fail)
          go_wp2_with fail
          -- a way's end
          refine Met.intro ?_
          go_step
          refine Forgot.at _ _ _ _ _ rfl rfl rfl rfl rfl rfl ?_
          exact ⟨by rw [HQ2.out]; rfl, _, rfl⟩
      case rest =>
      -- behind a cut: the names of the slots' values u4 _ _ _ (four)
      intro ff u4 _ _ _ wc hcut
      dsimp only [spread]
      obtain ⟨w4, hw4⟩ : ∃ y : World, y = wc := ⟨_, rfl⟩
      subst hw4
      obtain ⟨rfl, nw, hnw⟩ := hcut
      have hB4 : w4.heap[r]? = some (.cells #[.string s, .int .i64 (p2 : Int)] 55 (0, 0)) := by rw [hnw]; exact hB3
      have HK4 : Hid (RdK r W0 w4) := HK3.out.trans (by rw [hnw]; exact ⟨Go.below_drewN (Below.refl _ _) nw, fun _ _ _ => rfl⟩)
      clear y0 y1 hnw hB3 HK3
      have y1 := block_cell hB4 1
      have f1 := block_free hB4 1
      have hw1 : IntKind.i64.wrap ((p2 : Int) + 1) = (p2 : Int) + 1 := IntWalk.i64_in _ (by omega)
      have HB5 := Lib.hid (setCell_block hB4 1 (.int .i64 ((p2 : Int) + 1)))
      have HK5 := Lib.hid (HK4.out.trans (RdK.set r 1 w4 (.int .i64 ((p2 : Int) + 1))))
      clear hB4
      have HA5 : Hid (RdAt (w4.setCell ⟨r, 1, none⟩ (.int .i64 ((p2 : Int) + 1))) r s b') := ⟨p2 + 1, HNX.out.1, HNX.out.2, HB5.out⟩
      have HM5 := Lib.hid (rdM_at HA5.out)
      go_wp2_with fail
      -- a round's end: the relation, the measure
      apply Rounded.at _ _ _ _ _ rfl rfl rfl rfl rfl rfl
      case rel => exact ⟨q2, a ++ [x], b', rfl, ⟨by rw [HAB.out.1]; simp, by rw [HAB.out.2, HVF.out, HQ2.out]; simp⟩, HK5, HA5⟩
      case measure => rw [HM5.out, HM.out]; exact Nat.lt_succ_self _
    | false =>
      have HVL : Hid (valF q1 b = ([], b)) := by
        unfold Hid
        cases b with
        | nil => rfl
        | cons x b' =>
          refine valF_stop ?_
          have e := HGO.out
          rw [goB_cons] at e
          cases q1 with
          | true => cases e
          | false =>
            refine ⟨rfl, ?_⟩
            by_cases h4 : x = 44
            · exact .inl h4
            · by_cases h9 : x = 93
              · exact .inr h9
              · rw [decide_eq_false h4, decide_eq_false h9] at e; cases e
      have HPV : Hid (pVal l = if readE a = 0 then .ok (readV a, b) else .error l.length) := by
        unfold Hid pVal
        rw [HAB.out.2, HVL.out, List.append_nil]
      have hpp : p + a.length = p2 := by have h1 := HP.out.1; rw [HAB.out.1, List.length_append] at h1; omega
      have hpp' : (p : Int) ≤ (p2 : Int) := by omega
      have hps' : (p2 : Int) ≤ (s.size : Int) := by omega
      have hp0 : (0 : Int) ≤ (p : Int) := Int.natCast_nonneg p
      have HEX : Hid (s.extract p p2 = bs a) := by
        unfold Hid
        rw [ext_rd, HP.out.2, HAB.out.1, show p2 - p = a.length by omega, List.take_left]
      have hal : a.length ≤ 1048576 := by omega
      have HPF : Hid (p ≤ s.size ∧ l.length = s.size - p) := by have h1 := HP.out.1; exact ⟨by omega, by omega⟩
      have HA3 : Hid (RdAt w3 r s b) := ⟨p2, hp21, hp22, hB3⟩
      have hr3 : r < w3.heap.size := HA3.out.lt
      have hne : w3.heap.size ≠ r := by omega
      have HZ3 := Lib.hid (HK3.out.block HZ.out HNE.out)
      have HTX : Hid (∀ W, Below w3.heap.size w3 W → TxOk W) := fun W hW => HT.out W (HZK.out.trans (HK3.out.bel.trans (hW.mono (Nat.le_of_lt hr3))))
      have HKY : Hid (∀ W, Below w3.heap.size w3 W → Calls Tryd.prog 50 #[.string (bs a)] W fun e w' => e = .returned (.tuple #[.agg #[.int .i64 (readV a).ty, .int .i64 (readV a).n, .string (readV a).s], errV (readE a)]) ∧ Below W.heap.size W w') := fun W hW => by
        have hx := vparse_any (bs a) (by unfold Sm; rw [bs_size]; exact hal) W (HTX.out W hW)
        rw [bs_list] at hx
        exact hx
      have hbd : Below w3.heap.size w3 w3.drew := (Below.refl _ _).drew
      have hbx : Below w3.heap.size w3 (w3.alloc (.cells #[.int .i64 0, .int .i64 0, .string ⟨#[]⟩] 38)).drew := ((Below.refl _ _).alloc (Nat.le_refl _) _).drew
      have hzx : ((w3.alloc (.cells #[.int .i64 0, .int .i64 0, .string ⟨#[]⟩] 38)).drew).heap[w3.heap.size]? = some (.cells #[.int .i64 0, .int .i64 0, .string ⟨#[]⟩] 38 (0, 0)) := heap_alloc_new w3 _
      have hkeep := And.intro (cell_below hbd y0) (cell_below hbd y1)
      have hex := HEX.out
      generalize readV a = va at *
      generalize readE a = ea at *
      obtain ⟨vt, vn, vs⟩ := va
      clear hp21 hp22 hp23 HGO HVL HM HB3 hB3 HTX hal hpp
      go_upto_region 5 with fail
      -- a cut: the mask [.k, .k, .k, .k, .k, .a, .b, .k, .k, .k, .k, .k, .k, .k, .k, .k, .k, .k, .k, .k, .k, .k, .k, .k, .k, .k, .k, .k, .k, .k, .k, .k, .k, .k, .k, .k, .k, .k, .k, .k, .k, .k, .k, .k, .k, .k, .k, .k, .k, .k, .k, .k, .k, .k, .k, .k, .k, .k, .k, .k, .k, .k, .k, .k, .k, .k, .k, .y 67, .y 68, .y 69, .y 70, .y 71, .y 72, .y 73, .y 74, .y 75, .y 76, .y 77, .y 78, .y 79, .y 80, .k, .k, .k, .k, .k, .k], the slots 5 6 0 0, the relation fun pp z _ _ wx => ∃ b, pp = .pointer (some ⟨b, 0, none⟩) ∧ z = errV ea ∧ BoxW w3 b ⟨vt, vn, vs⟩ wx
      apply wp_cutm [.k, .k, .k, .k, .k, .a, .b, .k, .k, .k, .k, .k, .k, .k, .k, .k, .k, .k, .k, .k, .k, .k, .k, .k, .k, .k, .k, .k, .k, .k, .k, .k, .k, .k, .k, .k, .k, .k, .k, .k, .k, .k, .k, .k, .k, .k, .k, .k, .k, .k, .k, .k, .k, .k, .k, .k, .k, .k, .k, .k, .k, .k, .k, .k, .k, .k, .k, .y 67, .y 68, .y 69, .y 70, .y 71, .y 72, .y 73, .y 74, .y 75, .y 76, .y 77, .y 78, .y 79, .y 80, .k, .k, .k, .k, .k, .k] 5 6 0 0 (by decide +kernel) (fun pp z _ _ wx => ∃ b, pp = .pointer (some ⟨b, 0, none⟩) ∧ z = errV ea ∧ BoxW w3 b ⟨vt, vn, vs⟩ wx)
      case first =>
        -- within a cut
        intro JJ KK hmeet hnext
        -- of what is to be done behind only the innermost is kept
        rename ∀ (a : Act) (w : World), Code.wp _ _ _ a w → _ => hkeep
        revert hkeep
        repeat (rename ∀ (a : Act) (w : World), Code.wp _ _ _ a w → _ => hz; clear hz)
        intro hkeep
        go_region_held3 (fun w' => w'.cell? ⟨r, 0, none⟩ = some (.string s) ∧ w'.cell? ⟨r, 1, none⟩ = some (.int .i64 (p2 : Int)))
          (first
            | exact hkeep
            | go_keep)
          (first
            | (go_at_call 50
               first
                 | (refine (HKY.out _ hbd).mono ?_
                    rintro e w5 ⟨rfl, hb5⟩
                    have hb25 := hbd.trans (hb5.mono hbd.size)
                    have hkeep := And.intro (cell_below hb25 y0) (cell_below hb25 y1)
                    have hfin := BoxW.late (v := ⟨vt, vn, vs⟩) hb25)
                 | (refine (HKY.out _ hbx).mono ?_
                    rintro e w5 ⟨rfl, hb5⟩
                    have hb25 := hbx.trans (hb5.mono hbx.size)
                    have hz5 := (hb5.block _ (Array.getElem?_eq_some_iff.1 hzx).1).trans hzx
                    have a0 := block_free hz5 0
                    have a1 := block_free hz5 1
                    have a2 := block_free hz5 2
                    have a3 := block_cell hz5 0
                    have a4 := block_cell hz5 1
                    have a5 := block_cell hz5 2
                    have hkeep := And.intro (cell_below hb25 y0) (cell_below hb25 y1)
                    have hfin := BoxW.soon (v := ⟨vt, vn, vs⟩) hb25 (Nat.le_refl _) hz5)))
        all_goals
          clear hkeep hb5 hb25 HKY hbd hbx hzx
          go_wp2_with fail
          -- a way's end
          refine Met.intro ?_
          go_step
          refine Forgot.at _ _ _ _ _ rfl rfl rfl rfl rfl rfl ?_
          exact ⟨_, rfl, rfl, hfin⟩
      case rest =>
      -- behind a cut: the names of the slots' values u5 u6 _ _ (four)
      intro ff u5 u6 _ _ wc hcut
      dsimp only [spread]
      clear hkeep hbd hbx hzx HKY y0 y1
      obtain ⟨w5, hw5⟩ : ∃ y : World, y = wc := ⟨_, rfl⟩
      subst hw5
      obtain ⟨bx, rfl, rfl, hbv⟩ := hcut
      have HB5 := Lib.hid hbv.2.2
      have HBX := Lib.hid hbv.1
      have HK5 : Hid (RdK r w w5) := (HK0.out.trans HK3.out).trans (RdK.of (Nat.le_of_lt hr3) hbv.2.2)
      have HA5 := Lib.hid (HA3.out.below hbv.2.2)
      clear hbv
      by_cases hz : ea = 0
      · have HPV : Hid (pVal l = .ok (⟨vt, vn, vs⟩, b)) := by unfold Hid; rw [HPV.out, if_pos hz]
        rw [errV_zero hz]
        have HZ5 := Lib.hid ((HB5.out.block _ (Array.getElem?_eq_some_iff.1 HZ3.out).1).trans HZ3.out)
        have c0 := block_cell HBX.out 0
        have c1 := block_cell HBX.out 1
        have c2 := block_cell HBX.out 2
        have f0 := block_free HZ5.out 0
        have f1 := block_free HZ5.out 1
        have f2 := block_free HZ5.out 2
        have e0 := block_cell HZ5.out 0
        have e1 := block_cell HZ5.out 1
        have e2 := block_cell HZ5.out 2
        have HZ6 := Lib.hid (setCell_block (setCell_block (setCell_block HZ5.out 0 (.int .i64 vt)) 1 (.int .i64 vn)) 2 (.string vs))
        have hqr : r ≤ q := by have := HRL.out; omega
        have hqw : w.heap.size ≤ q := by omega
        have HK6 := Lib.hid (((HK5.out.setNew hqw hqr (i := 0) (.int .i64 vt)).setNew hqw hqr (i := 1) (.int .i64 vn)).setNew hqw hqr (i := 2) (.string vs))
        have HA6 : Hid (RdAt (((w5.setCell ⟨q, 0, none⟩ (.int .i64 vt)).setCell ⟨q, 1, none⟩ (.int .i64 vn)).setCell ⟨q, 2, none⟩ (.string vs)) r s b) := by
          obtain ⟨p', g1, g2, g3⟩ := HA5.out
          exact ⟨p', g1, g2, setCell_oth (setCell_oth (setCell_oth g3 HNE.out.symm 0 _) HNE.out.symm 1 _) HNE.out.symm 2 _⟩
        clear hz hqr hqw
        go_wp2_with fail
        have p0 := block_cell HZ6.out 0
        have p1 := block_cell HZ6.out 1
        have p2' := block_cell HZ6.out 2
        rw [HPV.out]
        exact bodyPost_ret (v := .agg #[.int .i64 vt, .int .i64 vn, .string vs]) (by simp [results, Tryd.results40, go_sem, p0, p1, p2']) rfl ⟨HK6.out, _, rfl, rfl, HA6.out⟩
      · have HPV : Hid (pVal l = .error l.length) := by unfold Hid; rw [HPV.out, if_neg hz]
        rw [errV_some hz]
        clear hz
        go_wp2_with fail
        rw [HPV.out]
        exact ⟨rfl, HK5.out, by have := HPF.out; omega, by rw [HPF.out.2, Nat.sub_sub_self HPF.out.1]⟩
end Go.Proofs.YtakidgndipnciaaDoor
