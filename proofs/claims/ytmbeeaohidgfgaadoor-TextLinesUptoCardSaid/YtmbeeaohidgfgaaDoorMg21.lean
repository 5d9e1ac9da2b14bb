/- Parts: Many. -/
import Derived.Test.YtmbeeaohidgfgaaDoorMg11
import Derived.Test.YtmbeeaohidgfgaaDoorMg14
import Derived.Test.YtmbeeaohidgfgaaDoorMg20
/- Contracts: kinlaw4.number, kinlaw4.many: so many nodes in a row. -/
namespace Go.Proofs.YtmbeeaohidgfgaaDoor
open Go Go.RowKit

def manyNod (i : Nat) : Nod := ⟨(i : Int) + 1, ⟨#[97]⟩, [⟨⟨#[107]⟩, ⟨1, (i : Int) + 1, .empty⟩⟩]⟩
def manyTie (i : Nat) : Tie := ⟨⟨#[112]⟩, (i : Int) + 1, (i : Int) + 2⟩
def manyG (n t : Nat) : Grf := ⟨(List.range n).map manyNod, (List.range t).map manyTie⟩
theorem nod_info : (Tryd.prog.info? 49).map (fun i => (i.zero, i.size, i.bytes)) = some (some (.agg #[.int .i64 0, .string .empty, .slice none 0 0]), 3, 48) := by kernel_rfl
theorem tie_info : (Tryd.prog.info? 54).map (fun i => (i.zero, i.size, i.bytes)) = some (some (.agg #[.string .empty, .int .i64 0, .int .i64 0]), 3, 32) := by kernel_rfl
theorem many_snoc (k : Nat) : (List.range (k + 1)).map manyNod = (List.range k).map manyNod ++ [manyNod k] := by rw [List.range_succ, List.map_append]; rfl
theorem many_tsnoc (k : Nat) : (List.range (k + 1)).map manyTie = (List.range k).map manyTie ++ [manyTie k] := by rw [List.range_succ, List.map_append]; rfl

theorem cell_new2 {W : World} {o : Obj} {cs : Array Value} {T : TypeId} {j : Nat} : ((W.alloc o).alloc (.cells cs T)).cell? ⟨W.heap.size + 1, j, none⟩ = cs[j]? := by rw [World.cell?_alloc_at _ _ _ _ (by simp)]
/-- What stands between two rounds. -/
structure ManyI (B : Nat) (w wr : World) (v u : Value) (k m : Nat) (xs ys : List Value) : Prop where
  b : Below B w wr
  r : wr.heap[B]? = some (.cells #[.slice none 0 0, .slice none 0 0] 25 (0, 0))
  g : wr.heap[B + 1]? = some (.cells #[v, u] 25 (0, 0))
  n : Own wr B 49 3 v k xs
  o : OwnNods wr B ((List.range k).map manyNod) xs
  t : Own wr B 54 3 u m ys
  f : ys = ((List.range m).map manyTie).flatMap Tie.enc

theorem ManyI.step {B : Nat} {w wr w2 w7 : World} {v u v7 : Value} {k m : Nat} {xs ys : List Value} (hk : k < 1000) (hI : ManyI B w wr v u k m xs ys) (hb2 : Below wr.heap.size wr w2)
    (hown7 : Own w7 B 49 3 v7 (k + 1) (xs ++ [.int .i64 ((k : Int) + 1), .string ⟨#[97]⟩, .slice (some ⟨w2.heap.size, 0, none⟩) 1 1]))
    (hg7 : ((w2.alloc (.cells #[.string ⟨#[107]⟩, .int .i64 1, .int .i64 ((k : Int) + 1), .string .empty] 58)).alloc (.cells #[.int .i64 ((k : Int) + 1), .string ⟨#[97]⟩, .slice (some ⟨w2.heap.size, 0, none⟩) 1 1] 49)).grownBy w7 v.ownBlock) :
    ManyI B w (w7.setCell ⟨B + 1, 0, none⟩ v7) v7 u (k + 1) m (xs ++ [.int .i64 ((k : Int) + 1), .string ⟨#[97]⟩, .slice (some ⟨w2.heap.size, 0, none⟩) 1 1]) ys := by
  have hbw := hI.b.size
  have hw2 := hb2.size
  have hlB := (Array.getElem?_eq_some_iff.1 hI.g).1
  have up : ∀ (j : Nat) (o : Obj), wr.heap[j]? = some o → ((w2.alloc (.cells #[.string ⟨#[107]⟩, .int .i64 1, .int .i64 ((k : Int) + 1), .string .empty] 58)).alloc (.cells #[.int .i64 ((k : Int) + 1), .string ⟨#[97]⟩, .slice (some ⟨w2.heap.size, 0, none⟩) 1 1] 49)).heap[j]? = some o := fun j o h => by
    have hl := (Array.getElem?_eq_some_iff.1 h).1
    rw [Below.heap_alloc _ _ _ (by simp; omega), Below.heap_alloc _ _ _ (by omega)]
    exact (hb2.block j hl).trans h
  have hoW : Own ((w2.alloc (.cells #[.string ⟨#[107]⟩, .int .i64 1, .int .i64 ((k : Int) + 1), .string .empty] 58)).alloc (.cells #[.int .i64 ((k : Int) + 1), .string ⟨#[97]⟩, .slice (some ⟨w2.heap.size, 0, none⟩) 1 1] 49)) B 49 3 v k xs := ((hI.n.below hb2).alloc _).alloc _
  have hgW := up _ _ hI.g
  have hg7g := grown_block hg7 hgW (hoW.ne_block hgW (by decide))
  have hrW := up _ _ hI.r
  have hr7 := grown_block hg7 hrW (hoW.ne_block hrW (by decide))
  have hsame : ∀ T, 49 ≠ T → 25 ≠ T → Same T ((w2.alloc (.cells #[.string ⟨#[107]⟩, .int .i64 1, .int .i64 ((k : Int) + 1), .string .empty] 58)).alloc (.cells #[.int .i64 ((k : Int) + 1), .string ⟨#[97]⟩, .slice (some ⟨w2.heap.size, 0, none⟩) 1 1] 49)) (w7.setCell ⟨B + 1, 0, none⟩ v7) := fun T h1 h2 =>
    (Same.grown hoW h1 hg7).trans (Same.setCell (p := ⟨B + 1, 0, none⟩) hg7g h2 v7)
  have hfull : ∀ T, 49 ≠ T → 25 ≠ T → Same T wr (w7.setCell ⟨B + 1, 0, none⟩ v7) := fun T h1 h2 => (Same.below hb2).trans ((Same.alloc _ _).trans ((Same.alloc _ _).trans (hsame T h1 h2)))
  have hpb : ((w2.alloc (.cells #[.string ⟨#[107]⟩, .int .i64 1, .int .i64 ((k : Int) + 1), .string .empty] 58)).alloc (.cells #[.int .i64 ((k : Int) + 1), .string ⟨#[97]⟩, .slice (some ⟨w2.heap.size, 0, none⟩) 1 1] 49)).heap[w2.heap.size]? = some (.cells #[.string ⟨#[107]⟩, .int .i64 1, .int .i64 ((k : Int) + 1), .string .empty] 58 (0, 0)) := by
    rw [Below.heap_alloc _ _ _ (by simp)]; exact heap_alloc_new _ _
  have hop : Own ((w2.alloc (.cells #[.string ⟨#[107]⟩, .int .i64 1, .int .i64 ((k : Int) + 1), .string .empty] 58)).alloc (.cells #[.int .i64 ((k : Int) + 1), .string ⟨#[97]⟩, .slice (some ⟨w2.heap.size, 0, none⟩) 1 1] 49)) B 58 4 (.slice (some ⟨w2.heap.size, 0, none⟩) 1 1) 1 [.string ⟨#[107]⟩, .int .i64 1, .int .i64 ((k : Int) + 1), .string .empty] :=
    own_of_block hpb (by omega) rfl (by simp [maxLen])
  refine ⟨?_, ?_, ?_, ?_, ?_, ?_, hI.f⟩
  · have h1 : Below B w w2 := hI.b.trans (hb2.mono (by omega))
    have h2 := ((h1.alloc (by omega) (.cells #[.string ⟨#[107]⟩, .int .i64 1, .int .i64 ((k : Int) + 1), .string .empty] 58)).alloc (by simp; omega) (.cells #[.int .i64 ((k : Int) + 1), .string ⟨#[97]⟩, .slice (some ⟨w2.heap.size, 0, none⟩) 1 1] 49))
    exact (h2.grown hg7 (by simp; omega) (fun j e => (hoW.lt j e).1)).setCell (p := ⟨B + 1, 0, none⟩) (by simp) v7
  · rw [Below.heap_setCell _ _ _ _ (by simp)]; exact hr7
  · exact setCell_block hg7g 0 v7
  · exact hown7.setCell _ _ (fun e => (hown7.ne_block hg7g (by decide)) e.symm)
  · rw [many_snoc]
    exact (hI.o.same (hfull _ (by decide) (by decide))).snoc (d := manyNod k) (by show I64 ((k : Int) + 1); unfold I64; omega) (by show 1 ≤ 1048576; omega)
      (fun p hp => by simp [manyNod] at hp; subst hp; exact ⟨by show 1 ≤ 1048576; omega, by show I64 (1 : Int); unfold I64; omega, by show I64 ((k : Int) + 1); unfold I64; omega, by show 0 ≤ 1048576; omega⟩) (hop.same (hsame _ (by decide) (by decide)))
  · exact hI.t.same (hfull _ (by decide) (by decide))

theorem ManyI.stepT {B : Nat} {w wr w7 : World} {v u u7 : Value} {k m : Nat} {xs ys : List Value} (hI : ManyI B w wr v u k m xs ys)
    (hown7 : Own w7 B 54 3 u7 (m + 1) (ys ++ [.string ⟨#[112]⟩, .int .i64 ((m : Int) + 1), .int .i64 ((m : Int) + 2)]))
    (hg7 : (wr.alloc (.cells #[.string ⟨#[112]⟩, .int .i64 ((m : Int) + 1), .int .i64 ((m : Int) + 2)] 54)).grownBy w7 u.ownBlock) :
    ManyI B w (w7.setCell ⟨B + 1, 1, none⟩ u7) v u7 k (m + 1) xs (ys ++ [.string ⟨#[112]⟩, .int .i64 ((m : Int) + 1), .int .i64 ((m : Int) + 2)]) := by
  have hlB := (Array.getElem?_eq_some_iff.1 hI.g).1
  have up : ∀ (j : Nat) (o : Obj), wr.heap[j]? = some o → (wr.alloc (.cells #[.string ⟨#[112]⟩, .int .i64 ((m : Int) + 1), .int .i64 ((m : Int) + 2)] 54)).heap[j]? = some o := fun j o h => by
    rw [Below.heap_alloc _ _ _ (Array.getElem?_eq_some_iff.1 h).1]; exact h
  have hoW := hI.t.alloc (.cells #[.string ⟨#[112]⟩, .int .i64 ((m : Int) + 1), .int .i64 ((m : Int) + 2)] 54)
  have hgW := up _ _ hI.g
  have hg7g := grown_block hg7 hgW (hoW.ne_block hgW (by decide))
  have hrW := up _ _ hI.r
  have hr7 := grown_block hg7 hrW (hoW.ne_block hrW (by decide))
  have hfull : ∀ T, 54 ≠ T → 25 ≠ T → Same T wr (w7.setCell ⟨B + 1, 1, none⟩ u7) := fun T h1 h2 => (Same.alloc _ _).trans ((Same.grown hoW h1 hg7).trans (Same.setCell (p := ⟨B + 1, 1, none⟩) hg7g h2 u7))
  refine ⟨?_, ?_, ?_, ?_, ?_, ?_, ?_⟩
  · exact ((hI.b.alloc (by omega) _).grown hg7 (by simp; omega) (fun j e => (hoW.lt j e).1)).setCell (p := ⟨B + 1, 1, none⟩) (by simp) u7
  · rw [Below.heap_setCell _ _ _ _ (by simp)]; exact hr7
  · exact setCell_block hg7g 1 u7
  · exact hI.n.same (hfull _ (by decide) (by decide))
  · exact hI.o.same (hfull _ (by decide) (by decide))
  · exact hown7.setCell _ _ (fun e => (hown7.ne_block hg7g (by decide)) e.symm)
  · rw [many_tsnoc, List.flatMap_append, ← hI.f]; rfl
theorem ManyI.ends {B : Nat} {w wr wF : World} {v u : Value} {k m : Nat} {xs ys : List Value} (hm : m ≤ 1000) (hI : ManyI B w wr v u k m xs ys) (hs : ∀ T, 25 ≠ T → Same T wr wF) : GrfR wF v u (manyG k m) := by
  have h1 := hI.n.same (hs _ (by decide))
  have h2 := hI.o.same (hs _ (by decide))
  have h3 := hI.t.same (hs _ (by decide))
  rw [hI.f] at h3
  have hn : k = (manyG k m).nodes.length := by simp [manyG]
  have ht : m = (manyG k m).ties.length := by simp [manyG]
  refine ⟨Own.nods (by rw [← hn]; exact h1) h2, Own.ties (by rw [← ht]; exact h3) fun x hx => ?_⟩
  simp only [manyG, List.mem_map, List.mem_range] at hx
  obtain ⟨j, hj, rfl⟩ := hx
  exact ⟨by show 1 ≤ 1048576; omega, by show I64 ((j : Int) + 1); unfold I64; omega, by show I64 ((j : Int) + 2); unfold I64; omega⟩

/-- The row is the call's own. -/
structure ManyO (B : Nat) (wF : World) (v u : Value) (k m : Nat) (xs : List Value) : Prop where
  n : Own wF B 49 3 v k xs
  o : OwnNods wF B ((List.range k).map manyNod) xs
  t : Own wF B 54 3 u m (((List.range m).map manyTie).flatMap Tie.enc)
theorem ManyI.own {B : Nat} {w wr wF : World} {v u : Value} {k m : Nat} {xs ys : List Value} (hI : ManyI B w wr v u k m xs ys) (hs : ∀ T, 25 ≠ T → Same T wr wF) : ManyO B wF v u k m xs := by
  have h3 := hI.t.same (hs _ (by decide))
  rw [hI.f] at h3
  exact ⟨hI.n.same (hs _ (by decide)), hI.o.same (hs _ (by decide)), h3⟩
set_option maxRecDepth 100000 in
set_option maxHeartbeats 8000000 in
theorem manyO_any (n t : Nat) (w : World) (hn : n ≤ 1000) (ht : t ≤ 1000) :
    Calls Tryd.prog 7 #[.int .i64 n, .int .i64 t] w fun e w' => ∃ v u xs, e = .returned (.agg #[v, u]) ∧ ManyO w.heap.size w' v u n t xs ∧ GrfR w' v u (manyG n t) ∧ Below w.heap.size w w' := by
  have hn' : (n : Int) ≤ 1000 := by omega
  have ht' : (t : Int) ≤ 1000 := by omega
  obtain ⟨i0, ei, ez, ez1, ez2⟩ := info_parts nod_info
  have hI0 : ManyI w.heap.size w ((w.alloc (.cells #[.slice none 0 0, .slice none 0 0] 25)).alloc (.cells #[.slice none 0 0, .slice none 0 0] 25)) (.slice none 0 0) (.slice none 0 0) 0 0 [] [] :=
    ⟨((Below.refl _ _).alloc (Nat.le_refl _) _).alloc (by simp) _, by rw [Below.heap_alloc _ _ _ (by simp)]; exact heap_alloc_new _ _, by have := heap_alloc_new (w.alloc (.cells #[.slice none 0 0, .slice none 0 0] 25)) (.cells #[.slice none 0 0, .slice none 0 0] 25); simpa using this, Own.nil _ _ _ _, rfl, Own.nil _ _ _ _, rfl⟩
  go_enter Tryd.func7, Tryd.ntmps7
  go_wp2_with fail
  go_loopw [6] (fun i wr => ∃ (k : Nat) (v : Value) (xs : List Value), k ≤ n ∧ i = .int .i64 ((k : Int) + 1) ∧ ManyI w.heap.size w wr v (.slice none 0 0) k 0 xs []) (fun i _ => n + 1 - (intOf i).toNat)
  case atStart => exact ⟨0, _, _, Nat.zero_le _, rfl, hI0⟩
  case round =>
    obtain ⟨k, v, xs, hk, rfl, hI⟩ := hrel
    have HI := Lib.hid hI
    have hbs := hI.b.size
    have c0 := block_cell hI.g 0
    have c1 := block_cell hI.g 1
    obtain ⟨Av, cv, rfl, _, _⟩ := hI.n.form
    clear hI0 hI
    by_cases hlt : k < n
    · have hlt' : (k : Int) + 1 ≤ (n : Int) := by omega
      go_wp2_with fail
      go_region_law
        (first
          | (refine step_call rfl 16 #[.int .i64 ((k : Int) + 1)] (by kernel_rfl) _ (number_any _ _) ?_
             intro w2 hb2
             have d0 := cell_below hb2 c0
             have hl2 := World.block_lt_of_cell? _ _ d0
             have d1 := fun o => cell_below ((Below.refl w2.heap.size w2).alloc (Nat.le_refl _) o) d0
             have d2 := fun o o' => cell_below ((Below.refl (w2.alloc o).heap.size (w2.alloc o)).alloc (Nat.le_refl _) o') (d1 o))
          | (refine step_here rfl ?_
             refine wp_append_q _ (.tmp 14) (.tmp 21) 22 rfl w.heap.size 49 i0 (.agg #[.int .i64 0, .string .empty, .slice none 0 0]) 3 48 Tryd.underlying22 ei ez ez1 ez2 rfl (by decide) (.slice Av k cv) k xs rfl (((Own.below (w := wr.drew) HI.out.n hb2).alloc _).alloc _) (some ⟨w2.heap.size + 1, 0, none⟩) 1 1 [.int .i64 ((k : Int) + 1), .string ⟨#[97]⟩, .slice (some ⟨w2.heap.size, 0, none⟩) 1 1] rfl rfl
               (fun _ => ⟨_, rfl, fun j u hj => by rw [addr_add, Nat.zero_add, cell_new2]; simpa using hj⟩) (fun u hu => by simp at hu; rcases hu with rfl | rfl | rfl <;> rfl) (by unfold maxLen; omega) (by omega) (by have := hb2.size; simp at this ⊢; omega) ?_
             intro v7 w7 hown7 hg7 hat7
             have hg2 : w2.heap[w.heap.size + 1]? = some (.cells #[.slice Av k cv, .slice none 0 0] 25 (0, 0)) := (hb2.block _ (Array.getElem?_eq_some_iff.1 HI.out.g).1).trans HI.out.g
             have hgb : ((w2.alloc (.cells #[.string ⟨#[107]⟩, .int .i64 1, .int .i64 ((k : Int) + 1), .string .empty] 58)).alloc (.cells #[.int .i64 ((k : Int) + 1), .string ⟨#[97]⟩, .slice (some ⟨w2.heap.size, 0, none⟩) 1 1] 49)).heap[w.heap.size + 1]? = some (.cells #[.slice Av k cv, .slice none 0 0] 25 (0, 0)) := by
               have hl := (Array.getElem?_eq_some_iff.1 hg2).1
               rw [Below.heap_alloc _ _ _ (by simp; omega), Below.heap_alloc _ _ _ hl]; exact hg2
             have hoo : Own ((w2.alloc (.cells #[.string ⟨#[107]⟩, .int .i64 1, .int .i64 ((k : Int) + 1), .string .empty] 58)).alloc (.cells #[.int .i64 ((k : Int) + 1), .string ⟨#[97]⟩, .slice (some ⟨w2.heap.size, 0, none⟩) 1 1] 49)) w.heap.size 49 3 (.slice Av k cv) k xs := (((Own.below (w := wr.drew) HI.out.n hb2).alloc _).alloc _)
             have hg7b := grown_block hg7 hgb (hoo.ne_block hgb (by decide))
             have e0 := block_cell hg7b 0
             have e1 := block_free hg7b 0
             obtain ⟨A7, c7, rfl, _, _⟩ := hown7.form))
      all_goals
        have HN := Lib.hid (ManyI.step (by omega) HI.out ((Below.refl wr.heap.size wr).drew.trans hb2) hown7 hg7)
        clear hown7 hg7 hat7 hg2 hgb hoo hg7b e0 e1 d0 d1 d2 c0 c1 hb2 HI
        go_wp2_with fail
        go_roundw
        case rel => exact ⟨k + 1, _, _, by omega, by go_num, HN.out⟩
        case measure => simp [intOf]; omega
    · obtain rfl : k = n := by omega
      have hge : (k : Int) < (k : Int) + 1 := by omega
      obtain ⟨j0, ei, ez, ez1, ez2⟩ := info_parts tie_info
      clear c0 c1
      go_wp2_with fail
      go_loopw [7] (fun i wr => ∃ (m : Nat) (u : Value) (ys : List Value), m ≤ t ∧ i = .int .i64 ((m : Int) + 1) ∧ ManyI w.heap.size w wr (.slice Av k cv) u k m xs ys) (fun i _ => t + 1 - (intOf i).toNat)
      case atStart => exact ⟨0, _, _, Nat.zero_le _, rfl, HI.out⟩
      case round =>
        clear HI
        obtain ⟨m, u, ys, hm, rfl, hI⟩ := hrel
        have HI := Lib.hid hI
        have c0 := block_cell hI.g 0
        have c1 := block_cell hI.g 1
        obtain ⟨Au, cu, rfl, _, _⟩ := hI.t.form
        by_cases hlt : m < t
        · have hlt' : (m : Int) + 1 ≤ (t : Int) := by omega
          have hoW := hI.t.alloc (.cells #[.string ⟨#[112]⟩, .int .i64 ((m : Int) + 1), .int .i64 ((m : Int) + 2)] 54)
          have hlB := (Array.getElem?_eq_some_iff.1 hI.g).1
          have hgW : (wr.alloc (.cells #[.string ⟨#[112]⟩, .int .i64 ((m : Int) + 1), .int .i64 ((m : Int) + 2)] 54)).heap[w.heap.size + 1]? = some (.cells #[.slice Av k cv, .slice Au m cu] 25 (0, 0)) := by
            rw [Below.heap_alloc _ _ _ hlB]; exact hI.g
          have hi2 : (m : Int) + 1 + 1 = (m : Int) + 2 := by omega
          clear hI
          go_wp2_with (at_builtin; refine wpList_append_q _ rfl (.tmp 30) (.tmp 35) _ rfl w.heap.size 54 j0 (.agg #[.string .empty, .int .i64 0, .int .i64 0]) 3 32 Tryd.underlying23 ei ez ez1 ez2 rfl (by decide) (.slice Au m cu) m ys rfl hoW (some ⟨wr.heap.size, 0, none⟩) 1 1 [.string ⟨#[112]⟩, .int .i64 ((m : Int) + 1), .int .i64 ((m : Int) + 2)] rfl rfl (fun _ => ⟨_, rfl, fun j u hj => by rw [addr_add, Nat.zero_add, World.cell?_alloc_at _ _ _ _ rfl]; simpa using hj⟩) (fun u hu => by simp at hu; rcases hu with rfl | rfl | rfl <;> rfl) (by unfold maxLen; omega) (by omega) (by simp; omega) ?_; intro v7 w7 hown7 hg7 hat7; have hg7b := grown_block hg7 hgW (hoW.ne_block hgW (by decide)); have e0 := block_cell hg7b 1; have e1 := block_free hg7b 1; obtain ⟨A7, c7, rfl, _, _⟩ := hown7.form)
          have HN := Lib.hid (ManyI.stepT HI.out hown7 hg7)
          clear hown7 hg7 hat7 hgW hg7b e0 e1 c0 c1 hoW HI
          go_roundw
          case rel => exact ⟨m + 1, _, _, by omega, by go_num, HN.out⟩
          case measure => simp [intOf]; omega
        · obtain rfl : m = t := by omega
          have hge2 : (m : Int) < (m : Int) + 1 := by omega
          have r0 := block_cell hI.r 0
          have r1 := block_cell hI.r 1
          have f0 := block_free hI.r 0
          have f1 := block_free hI.r 1
          clear hI
          go_wp2_with fail
          have hg0 := setCell_block HI.out.r 0 (.slice Av k cv)
          have hg1 := setCell_block hg0 1 (.slice Au m cu)
          have x0 := block_cell hg1 0
          have x1 := block_cell hg1 1
          exact bodyPost_ret (v := .agg #[.slice Av k cv, .slice Au m cu]) (by simp [results, Tryd.results7, go_sem, x0, x1]) rfl ⟨_, _, _, rfl, HI.out.own (fun T hT => (Same.setCell (p := ⟨w.heap.size, 0, none⟩) HI.out.r hT _).trans (Same.setCell (p := ⟨w.heap.size, 1, none⟩) hg0 hT _)), HI.out.ends ht (fun T hT => (Same.setCell (p := ⟨w.heap.size, 0, none⟩) HI.out.r hT _).trans (Same.setCell (p := ⟨w.heap.size, 1, none⟩) hg0 hT _)),
            (HI.out.b.setCell (p := ⟨w.heap.size, 0, none⟩) (Nat.le_refl _) _).setCell (p := ⟨w.heap.size, 1, none⟩) (Nat.le_refl _) _⟩
theorem many_any (n t : Nat) (w : World) (hn : n ≤ 1000) (ht : t ≤ 1000) :
    Calls Tryd.prog 7 #[.int .i64 n, .int .i64 t] w fun e w' => ∃ v u, e = .returned (.agg #[v, u]) ∧ GrfR w' v u (manyG n t) ∧ Below w.heap.size w w' :=
  (manyO_any n t w hn ht).mono fun _ _ ⟨v, u, _, he, _, hg, hb⟩ => ⟨v, u, he, hg, hb⟩
end Go.Proofs.YtmbeeaohidgfgaaDoor
