/- Parts: Many, ManyP, ChkR. -/
import Derived.Test.YthefofclbepkoaaMg03
import Derived.Test.YthefofclbepkoaaMg07
import Derived.Test.YthefofclbepkoaaMg20
import Derived.Test.YthefofclbepkoaaMg17
import Derived.Test.YthefofclbepkoaaMg21
import Derived.Test.YthefofclbepkoaaMg16
import Derived.Test.YthefofclbepkoaaMg15
/- Contracts: kinlaw4.number, kinlaw4.many: so many nodes in a row. -/
namespace Go.Proofs.Ythefofclbepkoaa
open Go Go.RowKit

def manyNod (i : Nat) : Nod := ⟨(i : Int) + 1, ⟨#[97]⟩, [⟨⟨#[107]⟩, ⟨1, (i : Int) + 1, .empty⟩⟩]⟩
def manyTie (i : Nat) : Tie := ⟨⟨#[112]⟩, (i : Int) + 1, (i : Int) + 2⟩
def manyG (n t : Nat) : Grf := ⟨(List.range n).map manyNod, (List.range t).map manyTie⟩
theorem nod_info : (Try.prog.info? 46).map (fun i => (i.zero, i.size, i.bytes)) = some (some (.agg #[.int .i64 0, .string .empty, .slice none 0 0]), 3, 48) := by kernel_rfl
theorem tie_info : (Try.prog.info? 50).map (fun i => (i.zero, i.size, i.bytes)) = some (some (.agg #[.string .empty, .int .i64 0, .int .i64 0]), 3, 32) := by kernel_rfl
theorem many_snoc (k : Nat) : (List.range (k + 1)).map manyNod = (List.range k).map manyNod ++ [manyNod k] := by rw [List.range_succ, List.map_append]; rfl
theorem many_tsnoc (k : Nat) : (List.range (k + 1)).map manyTie = (List.range k).map manyTie ++ [manyTie k] := by rw [List.range_succ, List.map_append]; rfl

theorem cell_new2 {W : World} {o : Obj} {cs : Array Value} {T : TypeId} {j : Nat} : ((W.alloc o).alloc (.cells cs T)).cell? ⟨W.heap.size + 1, j, none⟩ = cs[j]? := by rw [World.cell?_alloc_at _ _ _ _ (by simp)]
/-- What stands between two rounds. -/
structure ManyI (B : Nat) (w wr : World) (v u : Value) (k m : Nat) (xs ys : List Value) : Prop where
  b : Below B w wr
  r : wr.heap[B]? = some (.cells #[.slice none 0 0, .slice none 0 0] 43 (0, 0))
  g : wr.heap[B + 1]? = some (.cells #[v, u] 43 (0, 0))
  n : Own wr B 46 3 v k xs
  o : OwnNods wr B ((List.range k).map manyNod) xs
  t : Own wr B 50 3 u m ys
  f : ys = ((List.range m).map manyTie).flatMap Tie.enc

theorem ManyI.step {B : Nat} {w wr w2 w7 : World} {v u v7 : Value} {k m : Nat} {xs ys : List Value} (hk : k < 1000) (hI : ManyI B w wr v u k m xs ys) (hb2 : Below wr.heap.size wr w2)
    (hown7 : Own w7 B 46 3 v7 (k + 1) (xs ++ [.int .i64 ((k : Int) + 1), .string ⟨#[97]⟩, .slice (some ⟨w2.heap.size, 0, none⟩) 1 1]))
    (hg7 : ((w2.alloc (.cells #[.string ⟨#[107]⟩, .int .i64 1, .int .i64 ((k : Int) + 1), .string .empty] 26)).alloc (.cells #[.int .i64 ((k : Int) + 1), .string ⟨#[97]⟩, .slice (some ⟨w2.heap.size, 0, none⟩) 1 1] 46)).grownBy w7 v.ownBlock) :
    ManyI B w (w7.setCell ⟨B + 1, 0, none⟩ v7) v7 u (k + 1) m (xs ++ [.int .i64 ((k : Int) + 1), .string ⟨#[97]⟩, .slice (some ⟨w2.heap.size, 0, none⟩) 1 1]) ys := by
  have hbw := hI.b.size
  have hw2 := hb2.size
  have hlB := (Array.getElem?_eq_some_iff.1 hI.g).1
  have up : ∀ (j : Nat) (o : Obj), wr.heap[j]? = some o → ((w2.alloc (.cells #[.string ⟨#[107]⟩, .int .i64 1, .int .i64 ((k : Int) + 1), .string .empty] 26)).alloc (.cells #[.int .i64 ((k : Int) + 1), .string ⟨#[97]⟩, .slice (some ⟨w2.heap.size, 0, none⟩) 1 1] 46)).heap[j]? = some o := fun j o h => by
    have hl := (Array.getElem?_eq_some_iff.1 h).1
    rw [Below.heap_alloc _ _ _ (by simp; omega), Below.heap_alloc _ _ _ (by omega)]
    exact (hb2.block j hl).trans h
  have hoW : Own ((w2.alloc (.cells #[.string ⟨#[107]⟩, .int .i64 1, .int .i64 ((k : Int) + 1), .string .empty] 26)).alloc (.cells #[.int .i64 ((k : Int) + 1), .string ⟨#[97]⟩, .slice (some ⟨w2.heap.size, 0, none⟩) 1 1] 46)) B 46 3 v k xs := ((hI.n.below hb2).alloc _).alloc _
  have hgW := up _ _ hI.g
  have hg7g := grown_block hg7 hgW (hoW.ne_block hgW (by decide))
  have hrW := up _ _ hI.r
  have hr7 := grown_block hg7 hrW (hoW.ne_block hrW (by decide))
  have hsame : ∀ T, 46 ≠ T → 43 ≠ T → Same T ((w2.alloc (.cells #[.string ⟨#[107]⟩, .int .i64 1, .int .i64 ((k : Int) + 1), .string .empty] 26)).alloc (.cells #[.int .i64 ((k : Int) + 1), .string ⟨#[97]⟩, .slice (some ⟨w2.heap.size, 0, none⟩) 1 1] 46)) (w7.setCell ⟨B + 1, 0, none⟩ v7) := fun T h1 h2 =>
    (Same.grown hoW h1 hg7).trans (Same.setCell (p := ⟨B + 1, 0, none⟩) hg7g h2 v7)
  have hfull : ∀ T, 46 ≠ T → 43 ≠ T → Same T wr (w7.setCell ⟨B + 1, 0, none⟩ v7) := fun T h1 h2 => (Same.below hb2).trans ((Same.alloc _ _).trans ((Same.alloc _ _).trans (hsame T h1 h2)))
  have hpb : ((w2.alloc (.cells #[.string ⟨#[107]⟩, .int .i64 1, .int .i64 ((k : Int) + 1), .string .empty] 26)).alloc (.cells #[.int .i64 ((k : Int) + 1), .string ⟨#[97]⟩, .slice (some ⟨w2.heap.size, 0, none⟩) 1 1] 46)).heap[w2.heap.size]? = some (.cells #[.string ⟨#[107]⟩, .int .i64 1, .int .i64 ((k : Int) + 1), .string .empty] 26 (0, 0)) := by
    rw [Below.heap_alloc _ _ _ (by simp)]; exact heap_alloc_new _ _
  have hop : Own ((w2.alloc (.cells #[.string ⟨#[107]⟩, .int .i64 1, .int .i64 ((k : Int) + 1), .string .empty] 26)).alloc (.cells #[.int .i64 ((k : Int) + 1), .string ⟨#[97]⟩, .slice (some ⟨w2.heap.size, 0, none⟩) 1 1] 46)) B 26 4 (.slice (some ⟨w2.heap.size, 0, none⟩) 1 1) 1 [.string ⟨#[107]⟩, .int .i64 1, .int .i64 ((k : Int) + 1), .string .empty] :=
    own_of_block hpb (by omega) rfl (by simp [maxLen])
  refine ⟨?_, ?_, ?_, ?_, ?_, ?_, hI.f⟩
  · have h1 : Below B w w2 := hI.b.trans (hb2.mono (by omega))
    have h2 := ((h1.alloc (by omega) (.cells #[.string ⟨#[107]⟩, .int .i64 1, .int .i64 ((k : Int) + 1), .string .empty] 26)).alloc (by simp; omega) (.cells #[.int .i64 ((k : Int) + 1), .string ⟨#[97]⟩, .slice (some ⟨w2.heap.size, 0, none⟩) 1 1] 46))
    exact (h2.grown hg7 (by simp; omega) (fun j e => (hoW.lt j e).1)).setCell (p := ⟨B + 1, 0, none⟩) (by simp) v7
  · rw [Below.heap_setCell _ _ _ _ (by simp)]; exact hr7
  · exact setCell_block hg7g 0 v7
  · exact hown7.setCell _ _ (fun e => (hown7.ne_block hg7g (by decide)) e.symm)
  · rw [many_snoc]
    exact (hI.o.same (hfull _ (by decide) (by decide))).snoc (d := manyNod k) (by show I64 ((k : Int) + 1); unfold I64; omega) (by show 1 ≤ 1048576; omega)
      (fun p hp => by simp [manyNod] at hp; subst hp; exact ⟨by show 1 ≤ 1048576; omega, by show I64 (1 : Int); unfold I64; omega, by show I64 ((k : Int) + 1); unfold I64; omega, by show 0 ≤ 1048576; omega⟩) (hop.same (hsame _ (by decide) (by decide)))
  · exact hI.t.same (hfull _ (by decide) (by decide))

theorem ManyI.stepT {B : Nat} {w wr w7 : World} {v u u7 : Value} {k m : Nat} {xs ys : List Value} (hI : ManyI B w wr v u k m xs ys)
    (hown7 : Own w7 B 50 3 u7 (m + 1) (ys ++ [.string ⟨#[112]⟩, .int .i64 ((m : Int) + 1), .int .i64 ((m : Int) + 2)]))
    (hg7 : (wr.alloc (.cells #[.string ⟨#[112]⟩, .int .i64 ((m : Int) + 1), .int .i64 ((m : Int) + 2)] 50)).grownBy w7 u.ownBlock) :
    ManyI B w (w7.setCell ⟨B + 1, 1, none⟩ u7) v u7 k (m + 1) xs (ys ++ [.string ⟨#[112]⟩, .int .i64 ((m : Int) + 1), .int .i64 ((m : Int) + 2)]) := by
  have hlB := (Array.getElem?_eq_some_iff.1 hI.g).1
  have up : ∀ (j : Nat) (o : Obj), wr.heap[j]? = some o → (wr.alloc (.cells #[.string ⟨#[112]⟩, .int .i64 ((m : Int) + 1), .int .i64 ((m : Int) + 2)] 50)).heap[j]? = some o := fun j o h => by
    rw [Below.heap_alloc _ _ _ (Array.getElem?_eq_some_iff.1 h).1]; exact h
  have hoW := hI.t.alloc (.cells #[.string ⟨#[112]⟩, .int .i64 ((m : Int) + 1), .int .i64 ((m : Int) + 2)] 50)
  have hgW := up _ _ hI.g
  have hg7g := grown_block hg7 hgW (hoW.ne_block hgW (by decide))
  have hrW := up _ _ hI.r
  have hr7 := grown_block hg7 hrW (hoW.ne_block hrW (by decide))
  have hfull : ∀ T, 50 ≠ T → 43 ≠ T → Same T wr (w7.setCell ⟨B + 1, 1, none⟩ u7) := fun T h1 h2 => (Same.alloc _ _).trans ((Same.grown hoW h1 hg7).trans (Same.setCell (p := ⟨B + 1, 1, none⟩) hg7g h2 u7))
  refine ⟨?_, ?_, ?_, ?_, ?_, ?_, ?_⟩
  · exact ((hI.b.alloc (by omega) _).grown hg7 (by simp; omega) (fun j e => (hoW.lt j e).1)).setCell (p := ⟨B + 1, 1, none⟩) (by simp) u7
  · rw [Below.heap_setCell _ _ _ _ (by simp)]; exact hr7
  · exact setCell_block hg7g 1 u7
  · exact hI.n.same (hfull _ (by decide) (by decide))
  · exact hI.o.same (hfull _ (by decide) (by decide))
  · exact hown7.setCell _ _ (fun e => (hown7.ne_block hg7g (by decide)) e.symm)
  · rw [many_tsnoc, List.flatMap_append, ← hI.f]; rfl
theorem ManyI.ends {B : Nat} {w wr wF : World} {v u : Value} {k m : Nat} {xs ys : List Value} (hm : m ≤ 1000) (hI : ManyI B w wr v u k m xs ys) (hs : ∀ T, 43 ≠ T → Same T wr wF) : GrfR wF v u (manyG k m) := by
  have h1 := hI.n.same (hs _ (by decide))
  have h2 := hI.o.same (hs _ (by decide))
  have h3 := hI.t.same (hs _ (by decide))
  rw [hI.f] at h3
  have hn : k = (manyG k m).nodes.length := by simp [manyG]
  have ht : m = (manyG k m).ties.length := by simp [manyG]
  refine ⟨Own.nods (by rw [← hn]; exact h1) h2, Own.ties (by rw [← ht]; exact h3) fun x hx => ?_⟩
  simp only [manyG, List.mem_map, List.mem_range] at hx
  obtain ⟨j, hj, rfl⟩ := hx
  exact ⟨by show 1 ≤ 1048576; omega, by show I64 ((j : Int) + 1); unfold I64; omega, by show I64 ((j : Int) + 2); unfold I64; omega⟩

/-- The row is the call's own. -/
structure ManyO (B : Nat) (wF : World) (v u : Value) (k m : Nat) (xs : List Value) : Prop where
  n : Own wF B 46 3 v k xs
  o : OwnNods wF B ((List.range k).map manyNod) xs
  t : Own wF B 50 3 u m (((List.range m).map manyTie).flatMap Tie.enc)
theorem ManyI.own {B : Nat} {w wr wF : World} {v u : Value} {k m : Nat} {xs ys : List Value} (hI : ManyI B w wr v u k m xs ys) (hs : ∀ T, 43 ≠ T → Same T wr wF) : ManyO B wF v u k m xs := by
  have h3 := hI.t.same (hs _ (by decide))
  rw [hI.f] at h3
  exact ⟨hI.n.same (hs _ (by decide)), hI.o.same (hs _ (by decide)), h3⟩
set_option maxRecDepth 100000 in
set_option maxHeartbeats 8000000 in
theorem manyO_any (n t : Nat) (w : World) (hn : n ≤ 1000) (ht : t ≤ 1000) :
    Calls Try.prog 17 #[.int .i64 n, .int .i64 t] w fun e w' => ∃ v u xs, e = .returned (.agg #[v, u]) ∧ ManyO w.heap.size w' v u n t xs ∧ GrfR w' v u (manyG n t) ∧ Below w.heap.size w w' := by
  have hn' : (n : Int) ≤ 1000 := by omega
  have ht' : (t : Int) ≤ 1000 := by omega
  obtain ⟨i0, ei, ez, ez1, ez2⟩ := info_parts nod_info
  have hI0 : ManyI w.heap.size w ((w.alloc (.cells #[.slice none 0 0, .slice none 0 0] 43)).alloc (.cells #[.slice none 0 0, .slice none 0 0] 43)) (.slice none 0 0) (.slice none 0 0) 0 0 [] [] :=
    ⟨((Below.refl _ _).alloc (Nat.le_refl _) _).alloc (by simp) _, by rw [Below.heap_alloc _ _ _ (by simp)]; exact heap_alloc_new _ _, by have := heap_alloc_new (w.alloc (.cells #[.slice none 0 0, .slice none 0 0] 43)) (.cells #[.slice none 0 0, .slice none 0 0] 43); simpa using this, Own.nil _ _ _ _, rfl, Own.nil _ _ _ _, rfl⟩
  go_enter Try.func17, Try.ntmps17
  go_wp2_with fail
  go_loopw [6] (fun i wr => ∃ (k : Nat) (v : Value) (xs : List Value), k ≤ n ∧ i = .int .i64 ((k : Int) + 1) ∧ ManyI w.heap.size w wr v (.slice none 0 0) k 0 xs []) (fun i _ => n + 1 - (intOf i).toNat)
  case atStart => exact ⟨0, _, _, Nat.zero_le _, rfl, hI0⟩
  case round =>
    obtain ⟨k, v, xs, hk, rfl, hI⟩ := hrel
    have HI := Lib.hid hI
    have hbs := hI.b.size
    have c0 := block_cell hI.g 0
    have c1 := block_cell hI.g 1
    obtain ⟨Av, cv, rfl, _, _⟩ := hI.n.form
    clear hI0 hI
    by_cases hlt : k < n
    · have hlt' : (k : Int) + 1 ≤ (n : Int) := by omega
      go_wp2_with fail
      go_region_law
        (first
          | (refine step_call rfl 20 #[.int .i64 ((k : Int) + 1)] (by kernel_rfl) _ (number_any _ _) ?_
             intro w2 hb2
             have d0 := cell_below hb2 c0
             have hl2 := World.block_lt_of_cell? _ _ d0
             have d1 := fun o => cell_below ((Below.refl w2.heap.size w2).alloc (Nat.le_refl _) o) d0
             have d2 := fun o o' => cell_below ((Below.refl (w2.alloc o).heap.size (w2.alloc o)).alloc (Nat.le_refl _) o') (d1 o))
          | (refine step_here rfl ?_
             refine wp_append_q _ (.tmp 14) (.tmp 21) 40 rfl w.heap.size 46 i0 (.agg #[.int .i64 0, .string .empty, .slice none 0 0]) 3 48 Try.underlying40 ei ez ez1 ez2 rfl (by decide) (.slice Av k cv) k xs rfl (((Own.below (w := wr.drew) HI.out.n hb2).alloc _).alloc _) (some ⟨w2.heap.size + 1, 0, none⟩) 1 1 [.int .i64 ((k : Int) + 1), .string ⟨#[97]⟩, .slice (some ⟨w2.heap.size, 0, none⟩) 1 1] rfl rfl
               (fun _ => ⟨_, rfl, fun j u hj => by rw [addr_add, Nat.zero_add, cell_new2]; simpa using hj⟩) (fun u hu => by simp at hu; rcases hu with rfl | rfl | rfl <;> rfl) (by unfold maxLen; omega) (by omega) (by have := hb2.size; simp at this ⊢; omega) ?_
             intro v7 w7 hown7 hg7 hat7
             have hg2 : w2.heap[w.heap.size + 1]? = some (.cells #[.slice Av k cv, .slice none 0 0] 43 (0, 0)) := (hb2.block _ (Array.getElem?_eq_some_iff.1 HI.out.g).1).trans HI.out.g
             have hgb : ((w2.alloc (.cells #[.string ⟨#[107]⟩, .int .i64 1, .int .i64 ((k : Int) + 1), .string .empty] 26)).alloc (.cells #[.int .i64 ((k : Int) + 1), .string ⟨#[97]⟩, .slice (some ⟨w2.heap.size, 0, none⟩) 1 1] 46)).heap[w.heap.size + 1]? = some (.cells #[.slice Av k cv, .slice none 0 0] 43 (0, 0)) := by
               have hl := (Array.getElem?_eq_some_iff.1 hg2).1
               rw [Below.heap_alloc _ _ _ (by simp; omega), Below.heap_alloc _ _ _ hl]; exact hg2
             have hoo : Own ((w2.alloc (.cells #[.string ⟨#[107]⟩, .int .i64 1, .int .i64 ((k : Int) + 1), .string .empty] 26)).alloc (.cells #[.int .i64 ((k : Int) + 1), .string ⟨#[97]⟩, .slice (some ⟨w2.heap.size, 0, none⟩) 1 1] 46)) w.heap.size 46 3 (.slice Av k cv) k xs := (((Own.below (w := wr.drew) HI.out.n hb2).alloc _).alloc _)
             have hg7b := grown_block hg7 hgb (hoo.ne_block hgb (by decide))
             have e0 := block_cell hg7b 0
             have e1 := block_free hg7b 0
             obtain ⟨A7, c7, rfl, _, _⟩ := hown7.form))
      all_goals
        have HN := Lib.hid (ManyI.step (by omega) HI.out ((Below.refl wr.heap.size wr).drew.trans hb2) hown7 hg7)
        clear hown7 hg7 hat7 hg2 hgb hoo hg7b e0 e1 d0 d1 d2 c0 c1 hb2 HI
        go_wp2_with fail
        go_roundw
        case rel => exact ⟨k + 1, _, _, by omega, by go_num, HN.out⟩
        case measure => simp [intOf]; omega
    · obtain rfl : k = n := by omega
      have hge : (k : Int) < (k : Int) + 1 := by omega
      obtain ⟨j0, ei, ez, ez1, ez2⟩ := info_parts tie_info
      clear c0 c1
      go_wp2_with fail
      go_loopw [7] (fun i wr => ∃ (m : Nat) (u : Value) (ys : List Value), m ≤ t ∧ i = .int .i64 ((m : Int) + 1) ∧ ManyI w.heap.size w wr (.slice Av k cv) u k m xs ys) (fun i _ => t + 1 - (intOf i).toNat)
      case atStart => exact ⟨0, _, _, Nat.zero_le _, rfl, HI.out⟩
      case round =>
        clear HI
        obtain ⟨m, u, ys, hm, rfl, hI⟩ := hrel
        have HI := Lib.hid hI
        have c0 := block_cell hI.g 0
        have c1 := block_cell hI.g 1
        obtain ⟨Au, cu, rfl, _, _⟩ := hI.t.form
        by_cases hlt : m < t
        · have hlt' : (m : Int) + 1 ≤ (t : Int) := by omega
          have hoW := hI.t.alloc (.cells #[.string ⟨#[112]⟩, .int .i64 ((m : Int) + 1), .int .i64 ((m : Int) + 2)] 50)
          have hlB := (Array.getElem?_eq_some_iff.1 hI.g).1
          have hgW : (wr.alloc (.cells #[.string ⟨#[112]⟩, .int .i64 ((m : Int) + 1), .int .i64 ((m : Int) + 2)] 50)).heap[w.heap.size + 1]? = some (.cells #[.slice Av k cv, .slice Au m cu] 43 (0, 0)) := by
            rw [Below.heap_alloc _ _ _ hlB]; exact hI.g
          have hi2 : (m : Int) + 1 + 1 = (m : Int) + 2 := by omega
          clear hI
          go_wp2_with (at_builtin; refine wpList_append_q _ rfl (.tmp 30) (.tmp 35) _ rfl w.heap.size 50 j0 (.agg #[.string .empty, .int .i64 0, .int .i64 0]) 3 32 Try.underlying41 ei ez ez1 ez2 rfl (by decide) (.slice Au m cu) m ys rfl hoW (some ⟨wr.heap.size, 0, none⟩) 1 1 [.string ⟨#[112]⟩, .int .i64 ((m : Int) + 1), .int .i64 ((m : Int) + 2)] rfl rfl (fun _ => ⟨_, rfl, fun j u hj => by rw [addr_add, Nat.zero_add, World.cell?_alloc_at _ _ _ _ rfl]; simpa using hj⟩) (fun u hu => by simp at hu; rcases hu with rfl | rfl | rfl <;> rfl) (by unfold maxLen; omega) (by omega) (by simp; omega) ?_; intro v7 w7 hown7 hg7 hat7; have hg7b := grown_block hg7 hgW (hoW.ne_block hgW (by decide)); have e0 := block_cell hg7b 1; have e1 := block_free hg7b 1; obtain ⟨A7, c7, rfl, _, _⟩ := hown7.form)
          have HN := Lib.hid (ManyI.stepT HI.out hown7 hg7)
          clear hown7 hg7 hat7 hgW hg7b e0 e1 c0 c1 hoW HI
          go_roundw
          case rel => exact ⟨m + 1, _, _, by omega, by go_num, HN.out⟩
          case measure => simp [intOf]; omega
        · obtain rfl : m = t := by omega
          have hge2 : (m : Int) < (m : Int) + 1 := by omega
          have r0 := block_cell hI.r 0
          have r1 := block_cell hI.r 1
          have f0 := block_free hI.r 0
          have f1 := block_free hI.r 1
          clear hI
          go_wp2_with fail
          have hg0 := setCell_block HI.out.r 0 (.slice Av k cv)
          have hg1 := setCell_block hg0 1 (.slice Au m cu)
          have x0 := block_cell hg1 0
          have x1 := block_cell hg1 1
          exact bodyPost_ret (v := .agg #[.slice Av k cv, .slice Au m cu]) (by simp [results, Try.results17, go_sem, x0, x1]) rfl ⟨_, _, _, rfl, HI.out.own (fun T hT => (Same.setCell (p := ⟨w.heap.size, 0, none⟩) HI.out.r hT _).trans (Same.setCell (p := ⟨w.heap.size, 1, none⟩) hg0 hT _)), HI.out.ends ht (fun T hT => (Same.setCell (p := ⟨w.heap.size, 0, none⟩) HI.out.r hT _).trans (Same.setCell (p := ⟨w.heap.size, 1, none⟩) hg0 hT _)),
            (HI.out.b.setCell (p := ⟨w.heap.size, 0, none⟩) (Nat.le_refl _) _).setCell (p := ⟨w.heap.size, 1, none⟩) (Nat.le_refl _) _⟩
theorem many_any (n t : Nat) (w : World) (hn : n ≤ 1000) (ht : t ≤ 1000) :
    Calls Try.prog 17 #[.int .i64 n, .int .i64 t] w fun e w' => ∃ v u, e = .returned (.agg #[v, u]) ∧ GrfR w' v u (manyG n t) ∧ Below w.heap.size w w' :=
  (manyO_any n t w hn ht).mono fun _ _ ⟨v, u, _, he, _, hg, hb⟩ => ⟨v, u, he, hg, hb⟩
end Go.Proofs.Ythefofclbepkoaa

/- Plain: a row of nodes and ties is right, if it is not too long. -/
namespace Go.Proofs.Ythefofclbepkoaa

theorem name_a : nameE ⟨#[97]⟩ = 0 := by decide +kernel
theorem name_k : nameE ⟨#[107]⟩ = 0 := by decide +kernel
theorem name_p : nameE ⟨#[112]⟩ = 0 := by decide +kernel
theorem idB_of {n : Int} (h1 : 1 ≤ n) (h2 : n ≤ 1000) : idB n = true := by unfold idB; simp [h1, h2]
theorem val_int {n : Int} (h1 : -1000000 ≤ n) (h2 : n ≤ 1000000) : valE ⟨1, n, .empty⟩ = 0 := by
  unfold valE
  rw [if_pos (.inl rfl), if_neg (by simp [valLo, valHi]; omega), if_neg (by simp), if_neg]
  have : (ByteArray.empty).data.toList.any strC = false := by decide +kernel
  have h2 : (ByteArray.empty).toList.isEmpty = true := by decide +kernel
  simp [this]
theorem manyNod_ok {i : Nat} (h : i < 1000) : nodE (manyNod i) = 0 := by
  have h1 : idB ((i : Int) + 1) = true := idB_of (by omega) (by omega)
  have h4 : prpE ⟨⟨#[107]⟩, ⟨1, (i : Int) + 1, .empty⟩⟩ = 0 := by unfold prpE; rw [if_pos name_k, val_int (by omega) (by omega)]
  have h5 : recE [⟨⟨#[107]⟩, ⟨1, (i : Int) + 1, .empty⟩⟩] = 0 := by
    unfold recE
    rw [if_neg (by simp)]
    simp [firstE, h4, chain]
  unfold nodE manyNod
  simp [h1, name_a, h5]
theorem manyTie_ok {i : Nat} (h : i < 999) : tieE (manyTie i) = 0 := by
  have h1 : idB ((i : Int) + 1) = true := idB_of (by omega) (by omega)
  have h2 : idB ((i : Int) + 2) = true := idB_of (by omega) (by omega)
  unfold tieE manyTie
  simp [name_p, h1, h2]
theorem nodsE_cons (p : Option Nod) (n : Nod) (r : List Nod) : nodsE p (n :: r) = if idB n.id = false then 1 else if (match p with | some q => decide (n.id ≤ q.id) | none => false) then 7 else if nodE n = 0 then nodsE (some n) r else nodE n := by cases p <;> rfl
theorem tiesE_cons (p : Option Tie) (t : Tie) (r : List Tie) : tiesE p (t :: r) = if tieE t = 0 then (if (match p with | some q => decide (0 ≤ tieO q t) | none => false) then 7 else tiesE (some t) r) else tieE t := by cases p <;> rfl
theorem nods_many : ∀ (f k : Nat) (p : Option Nod), (∀ q, p = some q → q.id ≤ k) → k + f ≤ 1000 → nodsE p ((List.range' k f).map manyNod) = 0
  | 0, _, _, _, _ => rfl
  | f + 1, k, p, hp, hk => by
    rw [List.range'_succ, List.map_cons, nodsE_cons]
    have h1 : idB (manyNod k).id = true := idB_of (by simp only [manyNod]; omega) (by simp only [manyNod]; omega)
    rw [h1, if_neg (by simp), if_pos (manyNod_ok (by omega))]
    have ih := nods_many f (k + 1) (some (manyNod k)) (fun q hq => by injection hq with e; subst e; simp [manyNod]) (by omega)
    rw [ih]
    cases p with
    | none => rfl
    | some q =>
      have := hp q rfl
      show (if decide ((manyNod k).id ≤ q.id) = true then (7 : Int) else 0) = 0
      rw [if_neg]
      intro h
      have h2 := of_decide_eq_true h
      simp only [manyNod] at h2
      omega
theorem ties_many : ∀ (f k : Nat) (p : Option Tie), (∀ q, p = some q → ∃ j, j < k ∧ q = manyTie j) → k + f ≤ 999 → tiesE p ((List.range' k f).map manyTie) = 0
  | 0, _, _, _, _ => rfl
  | f + 1, k, p, hp, hk => by
    rw [List.range'_succ, List.map_cons, tiesE_cons, if_pos (manyTie_ok (by omega))]
    have ih := ties_many f (k + 1) (some (manyTie k)) (fun q hq => by injection hq with e; subst e; exact ⟨k, by omega, rfl⟩) (by omega)
    rw [ih]
    cases p with
    | none => rfl
    | some q =>
      obtain ⟨j, hj, rfl⟩ := hp q rfl
      have h1 : cmpS ⟨#[112]⟩ ⟨#[112]⟩ = 0 := by decide +kernel
      have h3 : cmpI ((j : Int) + 1) ((k : Int) + 1) = -1 := by unfold cmpI; rw [if_pos (by omega)]
      show (if decide (0 ≤ tieO (manyTie j) (manyTie k)) = true then (7 : Int) else 0) = 0
      rw [if_neg]
      simp [tieO, manyTie, orI, h1, h3]
theorem many_ok {n t : Nat} (hn : n ≤ 60) (ht : t ≤ 120) : grfE (manyG n t) = 0 := by
  unfold grfE
  have h1 := nods_many n 0 none (fun q hq => by cases hq) (by omega)
  have h2 := ties_many t 0 none (fun q hq => by cases hq) (by omega)
  rw [← List.range_eq_range'] at h1 h2
  rw [if_neg (by simp [manyG]; omega)]
  show (if nodsE none ((List.range n).map manyNod) = 0 then tiesE none ((List.range t).map manyTie) else _) = 0
  rw [h1, if_pos rfl, h2]
theorem many_full {n t : Nat} (h : 60 < n ∨ 120 < t) : grfE (manyG n t) = 4 := by
  unfold grfE
  rw [if_pos (by simpa [manyG] using h)]
end Go.Proofs.Ythefofclbepkoaa

/- Plain: a row of nodes with keys of their own conforms; two with one key do not, nor one with too many ties. No condition. -/
namespace Go.Proofs.Ythefofclbepkoaa
open Go Go.RowKit

def rowN (κ : Nat → Int) (i : Nat) : Nod := ⟨(i : Int) + 1, ⟨#[97]⟩, [⟨⟨#[107]⟩, ⟨1, κ i, .empty⟩⟩]⟩
def rowG (κ : Nat → Int) (n t : Nat) : Grf := ⟨(List.range n).map (rowN κ), (List.range t).map manyTie⟩
theorem rowG_many (n t : Nat) : manyG n t = rowG (fun i => (i : Int) + 1) n t := rfl
def kFld : Fld := ⟨⟨#[107]⟩, 1, true, true⟩
def pBnd (mx : Int) : Bnd := ⟨⟨#[112]⟩, ⟨#[97]⟩, ⟨#[97]⟩, 0, mx⟩
def rowK (κ : Nat → Int) (i : Nat) : Key := ⟨⟨#[107]⟩, ⟨1, κ i, .empty⟩⟩
theorem simp_kinds (mx : Int) : (simpS mx).kinds = (simpS 0).kinds := rfl
theorem row_kfind (mx : Int) : kFind (simpS mx).kinds ⟨#[97]⟩ = 0 := by rw [simp_kinds]; decide +kernel
theorem row_kin (mx : Int) : isKinB (simpS mx).kinds ⟨#[97]⟩ ⟨#[97]⟩ = true := by rw [simp_kinds]; decide +kernel
theorem row_kfl (mx : Int) : kfl (simpS mx) ⟨#[97]⟩ = [kFld] := by unfold kfl; rw [simp_kinds]; decide +kernel
theorem row_has (v : Val) : rhas [⟨⟨#[107]⟩, v⟩] ⟨#[107]⟩ = true ∧ rpos [⟨⟨#[107]⟩, v⟩] ⟨#[107]⟩ = 0 := by
  have hc : cmpS ⟨#[107]⟩ ⟨#[107]⟩ = 0 := by decide +kernel
  have hp : prpC ⟨#[107]⟩ ⟨⟨#[107]⟩, v⟩ = 0 := hc
  have h1 : rpos [⟨⟨#[107]⟩, v⟩] ⟨#[107]⟩ = 0 := by unfold rpos lowI; simp [List.findIdx_cons, hp]
  refine ⟨?_, h1⟩
  unfold rhas
  rw [h1]
  unfold eqAt
  simp [hp]
theorem row_alone (mx : Int) (κ : Nat → Int) (i : Nat) : aloneF (simpS mx) (rowN κ i) = [] := by
  unfold aloneF
  have h0 : kFind (simpS mx).kinds (rowN κ i).kind = 0 := row_kfind mx
  rw [h0, if_neg (by omega)]
  have h1 : kfl (simpS mx) (rowN κ i).kind = [kFld] := row_kfl mx
  rw [h1]
  have h2 : badF [kFld] ⟨⟨#[107]⟩, ⟨1, κ i, .empty⟩⟩ = false := by
    unfold badF
    have h : tyF [kFld] ⟨#[107]⟩ = 1 := by decide +kernel
    show (!decide (tyF [kFld] ⟨#[107]⟩ = 1)) = false
    rw [h]; rfl
  have h3 : lackF (rowN κ i) kFld = false := by
    unfold lackF
    have h : rhas (rowN κ i).props kFld.name = true := (row_has _).1
    rw [h]; rfl
  unfold recF
  have e : (rowN κ i).props = [⟨⟨#[107]⟩, ⟨1, κ i, .empty⟩⟩] := rfl
  rw [e]
  simp [h2, h3]
theorem row_key (κ : Nat → Int) (i : Nat) : keyOf (rowN κ i) kFld = some (rowK κ i) := by
  rw [keyOf_at (p := ⟨⟨#[107]⟩, ⟨1, κ i, .empty⟩⟩) rfl (row_has _).1 (by
    have h : rpos (rowN κ i).props kFld.name = 0 := (row_has _).2
    rw [h]; rfl)]
  rfl
theorem row_keys (κ : Nat → Int) (i : Nat) (S : List Key) : keysF (rowN κ i) [kFld] S = if rowK κ i ∈ S then ([⟨4, (i : Int) + 1, ⟨#[107]⟩⟩], S) else ([], S ++ [rowK κ i]) := by
  unfold keysF
  simp only [List.foldl]
  unfold keyStep
  rw [row_key]
  by_cases h : rowK κ i ∈ S
  · simp only [h, if_true]; rfl
  · simp only [h, if_false]
theorem countP_one (i : Nat) : ∀ t, (List.range t).countP (fun j => decide (j = i)) = if i < t then 1 else 0
  | 0 => by simp
  | t + 1 => by
    rw [List.range_succ, List.countP_append, countP_one i t]
    simp only [List.countP_cons, List.countP_nil, Nat.zero_add]
    by_cases h : i < t
    · rw [if_pos h, if_neg (by simp; omega), if_pos (by omega)]
    · by_cases h2 : t = i
      · rw [if_neg h, if_pos (by simpa using h2), if_pos (by omega)]
      · rw [if_neg h, if_neg (by simpa using h2), if_neg (by omega)]
theorem row_many (κ κ' : Nat → Int) (n t i : Nat) (b : Bnd) (hb : b.name = ⟨#[112]⟩) : manyF (rowG κ n t) (rowN κ' i) b = if i < t then 1 else 0 := by
  unfold manyF endsS
  rw [sortI_len]
  unfold endsL rowG
  rw [List.length_map, ← List.countP_eq_length_filter, List.countP_map]
  have h : ((List.range t).countP (endT false b.name (rowN κ' i).id ∘ manyTie)) = (List.range t).countP (fun j => decide (j = i)) := by
    refine List.countP_congr fun j _ => ?_
    simp only [Function.comp_apply, endT, manyTie, rowN, hb, Bool.false_eq_true, if_false, decide_true, Bool.true_and, beq_iff_eq, decide_eq_true_eq]
    omega
  show (((List.range t).countP (endT false b.name (rowN κ' i).id ∘ manyTie) : Nat) : Int) = _
  rw [h, countP_one]
  split <;> rfl
/-- Ties of a node that are too many. -/
def rowB (mx : Int) (t i : Nat) : List Flt := if 0 ≤ mx ∧ mx < (if i < t then 1 else 0) then [⟨8, (i : Int) + 1, ⟨#[112]⟩⟩] else []
theorem row_bond (mx : Int) (κ κ' : Nat → Int) (n t i : Nat) : bondF (simpS mx) (rowG κ n t) (rowN κ' i) (pBnd mx) = rowB mx t i := by
  unfold bondF
  have h0 : isKinB (simpS mx).kinds (rowN κ' i).kind (pBnd mx).src = true := row_kin mx
  rw [h0, if_pos rfl, row_many κ κ' n t i (pBnd mx) rfl]
  have h1 : (pBnd mx).mn = 0 := rfl
  have h2 : (pBnd mx).mx = mx := rfl
  rw [h1, h2, if_neg (by split <;> omega)]
  rfl
theorem row_node (mx : Int) (κ κ' : Nat → Int) (n t i : Nat) (S : List Key) :
    nodeF (simpS mx) (rowG κ n t) S (rowN κ' i) = ((if rowK κ' i ∈ S then [⟨4, (i : Int) + 1, ⟨#[107]⟩⟩] else []) ++ rowB mx t i, if rowK κ' i ∈ S then S else S ++ [rowK κ' i]) := by
  unfold nodeF
  have h0 : kFind (simpS mx).kinds (rowN κ' i).kind = 0 := row_kfind mx
  have h1 : kfl (simpS mx) (rowN κ' i).kind = [kFld] := row_kfl mx
  have h2 : (simpS mx).bonds = [pBnd mx] := rfl
  rw [h0, if_neg (by omega), row_alone, h1, row_keys, h2]
  simp only [List.flatMap_cons, List.flatMap_nil, List.append_nil, List.nil_append, row_bond]
  by_cases h : rowK κ' i ∈ S
  · simp only [h, if_true]
  · simp only [h, if_false]
theorem rowK_inj {κ : Nat → Int} {i j : Nat} (h : rowK κ i = rowK κ j) : κ i = κ j := by
  injection h with _ h; injection h
theorem row_nodes (mx : Int) (κ κ' : Nat → Int) (n t : Nat) : ∀ k, (∀ i j, i < j → j < k → κ' i ≠ κ' j) →
    nodesF (simpS mx) (rowG κ n t) ((List.range k).map (rowN κ')) = ((List.range k).flatMap (rowB mx t), (List.range k).map (rowK κ'))
  | 0, _ => rfl
  | k + 1, hd => by
    have ih := row_nodes mx κ κ' n t k (fun i j h1 h2 => hd i j h1 (by omega))
    have hn : rowK κ' k ∉ (List.range k).map (rowK κ') := fun hm => by
      obtain ⟨j, hj, e⟩ := List.mem_map.1 hm
      exact hd j k (List.mem_range.1 hj) (by omega) (rowK_inj e)
    rw [List.range_succ, List.map_append, List.map_cons, List.map_nil, nodesF_snoc, ih, row_node, List.map_append, List.flatMap_append]
    simp only [hn, if_false]
    simp
theorem row_chain (κ : Nat → Int) (n t : Nat) : chain nodLt (rowG κ n t).nodes = true := by
  refine chain_iff.2 fun i a b ha hb => ?_
  unfold rowG at ha hb
  simp only [List.getElem?_map] at ha hb
  have hl : i + 1 < n := by
    rcases Nat.lt_or_ge (i + 1) n with h | h
    · exact h
    · rw [List.getElem?_eq_none (by simpa using h)] at hb; cases hb
  rw [List.getElem?_range (by omega)] at ha
  rw [List.getElem?_range hl] at hb
  simp only [Option.map_some, Option.some.injEq] at ha hb
  subst ha; subst hb
  unfold nodLt rowN
  simp only [decide_eq_true_eq]
  omega
theorem row_end (mx : Int) (κ : Nat → Int) (n t i : Nat) (hi : i < n) (id : Int) (e : id = (i : Int) + 1) : endB (simpS mx) (rowG κ n t) id ⟨#[97]⟩ = true := by
  have hm : id ∈ idsN (rowG κ n t).nodes := by
    unfold idsN rowG
    simp only [List.map_map, List.mem_map, List.mem_range]
    exact ⟨i, hi, by rw [e]; rfl⟩
  have hf : fhas (rowG κ n t).nodes id = true := by rw [ids_has (row_chain κ n t)]; simpa using hm
  obtain ⟨m, hm⟩ := fhas_some' hf
  have hk : m.kind = ⟨#[97]⟩ := by
    have := List.mem_of_getElem? hm
    unfold rowG at this
    simp only [List.mem_map] at this
    obtain ⟨j, _, rfl⟩ := this
    rfl
  unfold endB
  rw [hm]
  simp only [hf, hk, row_kfind, row_kin]
  rfl
theorem row_tie (mx : Int) (κ : Nat → Int) (n t i : Nat) (hi : i + 1 < n) : tieF (simpS mx) (rowG κ n t) (manyTie i) = [] := by
  have h0 : bFind (simpS mx).bonds (manyTie i).bond = 0 := by
    have e : bFind [pBnd mx] ⟨#[112]⟩ = ((0 : Nat) : Int) := idxI_hit (k := 0) (d := pBnd mx) (fun j _ hj => absurd hj (Nat.not_lt_zero _)) rfl (by simp [pBnd])
    exact e
  have h1 : (simpS mx).bonds[(bFind (simpS mx).bonds (manyTie i).bond).toNat]? = some (pBnd mx) := by rw [h0]; rfl
  have e1 : endB (simpS mx) (rowG κ n t) (manyTie i).src (pBnd mx).src = true := row_end mx κ n t i (by omega) _ rfl
  have e2 : endB (simpS mx) (rowG κ n t) (manyTie i).dst (pBnd mx).dst = true := row_end mx κ n t (i + 1) hi _ (by show (i : Int) + 2 = ((i + 1 : Nat) : Int) + 1; omega)
  unfold tieF
  rw [h1]
  simp only [h0, e1, e2]
  simp
theorem row_ties (mx : Int) (κ : Nat → Int) (n t : Nat) : ∀ k, k < n → ((List.range k).map manyTie).flatMap (tieF (simpS mx) (rowG κ n t)) = []
  | 0, _ => rfl
  | k + 1, hk => by
    rw [List.range_succ, List.map_append, List.flatMap_append, row_ties mx κ n t k (by omega)]
    simp [row_tie mx κ n t k (by omega)]
theorem rowB_len (mx : Int) (t : Nat) (h0 : 0 ≤ mx) : ∀ k, ((List.range k).flatMap (rowB mx t)).length = if mx = 0 then min k t else 0
  | 0 => by split <;> simp
  | k + 1 => by
    rw [List.range_succ, List.flatMap_append, List.length_append, rowB_len mx t h0 k]
    simp only [List.flatMap_cons, List.flatMap_nil, List.append_nil]
    unfold rowB
    by_cases h1 : mx = 0
    · subst h1
      by_cases h2 : k < t
      · simp [h2]; omega
      · simp [h2]; omega
    · rw [if_neg h1, if_neg h1, if_neg]
      · rfl
      · intro h; have := h.2; split at this <;> omega
/-- A row with keys of its own. -/
theorem row_first {n : Nat} (hn : 0 < n) (mx : Int) (h0 : 0 ≤ mx) : (ofF (simpS mx) (manyG n (n - 1))).length = if mx = 0 then n - 1 else 0 := by
  rw [rowG_many]
  unfold ofF
  have h1 := row_nodes mx (fun i => (i : Int) + 1) (fun i => (i : Int) + 1) n (n - 1) n (fun i j hij _ => by simp only [ne_eq]; omega)
  have h2 := row_ties mx (fun i => (i : Int) + 1) n (n - 1) (n - 1) (by omega)
  have e1 : (rowG (fun i => (i : Int) + 1) n (n - 1)).nodes = (List.range n).map (rowN fun i => (i : Int) + 1) := rfl
  have e2 : (rowG (fun i => (i : Int) + 1) n (n - 1)).ties = (List.range (n - 1)).map manyTie := rfl
  rw [e1, h1, e2, h2, List.append_nil, rowB_len mx (n - 1) h0 n]
  split
  · omega
  · rfl
/-- The keys of a row of which the last one has another's. -/
def keyK (n : Nat) (key : Int) (i : Nat) : Int := if i = n - 1 then key else (i : Int) + 1
/-- A row in which the last one has the key of another one. -/
theorem row_second {n : Nat} {key : Int} (h1 : 1 ≤ key) (h2 : key < n) : ofF (simpS (-1)) (rowG (keyK n key) n (n - 1)) = [⟨4, (n : Int), ⟨#[107]⟩⟩] := by
  obtain ⟨m, rfl⟩ : ∃ m, n = m + 1 := ⟨n - 1, by omega⟩
  have hb : ∀ t k, (List.range k).flatMap (rowB (-1) t) = [] := fun t k => by
    rw [List.flatMap_eq_nil_iff]
    intro i _
    unfold rowB
    rw [if_neg (by omega)]
  have hk : ∀ i, i < m → keyK (m + 1) key i = (i : Int) + 1 := fun i hi => by unfold keyK; rw [if_neg (by omega)]
  have hn := row_nodes (-1) (keyK (m + 1) key) (keyK (m + 1) key) (m + 1) m m (fun i j hij hj => by rw [hk i (by omega), hk j hj]; omega)
  have ht := row_ties (-1) (keyK (m + 1) key) (m + 1) m m (by omega)
  have hin : rowK (keyK (m + 1) key) m ∈ (List.range m).map (rowK (keyK (m + 1) key)) := by
    refine List.mem_map.2 ⟨(key - 1).toNat, List.mem_range.2 (by omega), ?_⟩
    unfold rowK
    rw [hk _ (by omega)]
    have : keyK (m + 1) key m = key := by unfold keyK; rw [if_pos (by omega)]
    rw [this]
    congr 2
    omega
  unfold ofF
  have e1 : (rowG (keyK (m + 1) key) (m + 1) (m + 1 - 1)).nodes = (List.range (m + 1)).map (rowN (keyK (m + 1) key)) := rfl
  have e2 : (rowG (keyK (m + 1) key) (m + 1) (m + 1 - 1)).ties = (List.range m).map manyTie := rfl
  rw [e1, e2]
  show (nodesF (simpS (-1)) (rowG (keyK (m + 1) key) (m + 1) m) _).1 ++ ((List.range m).map manyTie).flatMap (tieF (simpS (-1)) (rowG (keyK (m + 1) key) (m + 1) m)) = _
  rw [ht, List.append_nil, List.range_succ, List.map_append, List.map_cons, List.map_nil, nodesF_snoc, hn, row_node, hb]
  simp only [hin, if_true]
  unfold rowB
  rw [if_neg (by omega)]
  simp
/-! ### Such a row is right -/
theorem rowN_ok {κ : Nat → Int} {i : Nat} (h : i < 1000) (hk : -1000000 ≤ κ i ∧ κ i ≤ 1000000) : nodE (rowN κ i) = 0 := by
  have h1 : idB ((i : Int) + 1) = true := idB_of (by omega) (by omega)
  have h4 : prpE ⟨⟨#[107]⟩, ⟨1, κ i, .empty⟩⟩ = 0 := by unfold prpE; rw [if_pos name_k, val_int hk.1 hk.2]
  have h5 : recE [⟨⟨#[107]⟩, ⟨1, κ i, .empty⟩⟩] = 0 := by
    unfold recE
    rw [if_neg (by simp)]
    simp [firstE, h4, chain]
  unfold nodE rowN
  simp [h1, name_a, h5]
theorem nods_row {κ : Nat → Int} (hκ : ∀ i, i < 1000 → -1000000 ≤ κ i ∧ κ i ≤ 1000000) : ∀ (f k : Nat) (p : Option Nod), (∀ q, p = some q → q.id ≤ k) → k + f ≤ 1000 → nodsE p ((List.range' k f).map (rowN κ)) = 0
  | 0, _, _, _, _ => rfl
  | f + 1, k, p, hp, hk => by
    rw [List.range'_succ, List.map_cons, nodsE_cons]
    have h1 : idB (rowN κ k).id = true := idB_of (by simp only [rowN]; omega) (by simp only [rowN]; omega)
    rw [h1, if_neg (by simp), if_pos (rowN_ok (by omega) (hκ k (by omega)))]
    have ih := nods_row hκ f (k + 1) (some (rowN κ k)) (fun q hq => by injection hq with e; subst e; simp [rowN]) (by omega)
    rw [ih]
    cases p with
    | none => rfl
    | some q =>
      have := hp q rfl
      show (if decide ((rowN κ k).id ≤ q.id) = true then (7 : Int) else 0) = 0
      rw [if_neg]
      intro h
      have h2 := of_decide_eq_true h
      simp only [rowN] at h2
      omega
theorem row_ok {κ : Nat → Int} (hκ : ∀ i, i < 1000 → -1000000 ≤ κ i ∧ κ i ≤ 1000000) {n t : Nat} (hn : n ≤ 60) (ht : t ≤ 120) : grfE (rowG κ n t) = 0 := by
  unfold grfE
  have h1 := nods_row hκ n 0 none (fun q hq => by cases hq) (by omega)
  have h2 := ties_many t 0 none (fun q hq => by cases hq) (by omega)
  rw [← List.range_eq_range'] at h1 h2
  rw [if_neg (by simp [rowG]; omega)]
  show (if nodsE none ((List.range n).map (rowN κ)) = 0 then tiesE none ((List.range t).map manyTie) else _) = 0
  rw [h1, if_pos rfl, h2]
/-- The simple schema is right. -/
theorem simp_ok {mx : Int} (h : mx = -1 ∨ (0 ≤ mx ∧ mx ≤ 3)) : (scmE (simpS mx)).2 = 0 := by
  have : mx = -1 ∨ mx = 0 ∨ mx = 1 ∨ mx = 2 ∨ mx = 3 := by omega
  rcases this with rfl | rfl | rfl | rfl | rfl <;> decide +kernel
end Go.Proofs.Ythefofclbepkoaa
