/- Contracts: what stat.Far answers, and the function value inside stat.Parts. -/
import Derived.Test.YtdfeloeainabjaaStatA
import Derived.Test.YtdfeloeainabjaaGrC
namespace Go.Proofs.Ytdfeloeainabjaa
open Go.RowKit

/-! ### The distances are small -/
theorem FInv.one {n gk r0 : Nat} {d : Int} {st : List Int × List Nat} (nodes : List Nod) (hn : nodes.length = n) (id : Int) (e : Int × Int) (h : FInv n gk r0 d st) : FInv n gk r0 d (farEnd nodes id d e st) := by
  by_cases hc : e.1 = id ∧ fhas nodes e.2 = true ∧ st.1.getD (fpos nodes e.2) 0 < 0
  · rw [farEnd_yes hc]
    exact h.push (by rw [← hn]; exact fhas_lt hc.2.1) hc.2.2
  · rw [farEnd_no hc]; exact h
theorem FInv.tie {n gk r0 : Nat} {d : Int} {st : List Int × List Nat} (nodes : List Nod) (hn : nodes.length = n) (id : Int) (t : Tie) (h : FInv n gk r0 d st) : FInv n gk r0 d (farTie nodes id d st t) :=
  FInv.one nodes hn id _ (FInv.one nodes hn id _ h)
theorem FInv.ties {n gk r0 : Nat} {d : Int} (nodes : List Nod) (hn : nodes.length = n) (id : Int) : ∀ (ts : List Tie) {st : List Int × List Nat}, FInv n gk r0 d st → FInv n gk r0 d (farTies nodes id d ts st)
  | [], _, h => h
  | t :: ts, _, h => FInv.ties nodes hn id ts (h.tie nodes hn id t)
theorem farRun_ok (g : Grf) : ∀ (gk : Nat) (st : List Int × List Nat), OInv g.nodes.length gk st → (farRun g gk st).length = g.nodes.length ∧ ∀ v ∈ farRun g gk st, -1 ≤ v ∧ v ≤ g.nodes.length
  | 0, st, h => ⟨h.len, fun v hv => by have := h.top v hv; omega⟩
  | gk + 1, st, h => by
    unfold farRun
    obtain ⟨ls, row⟩ := st
    cases row with
    | nil => exact ⟨h.len, fun v hv => by have := h.top v hv; omega⟩
    | cons r rest => exact farRun_ok g gk _ ((h.enter rfl).ties g.nodes rfl _ g.ties).leave
theorem farI_len {g : Grf} {src : Nat} (h : src < g.nodes.length) : (farI g src).length = g.nodes.length := (farRun_ok g _ _ (OInv.start h)).1
theorem farI_small {g : Grf} {src : Nat} (h : src < g.nodes.length) (hl : g.nodes.length ≤ 60) : ∀ v ∈ farI g src, I64 v := fun v hv => by
  have := (farRun_ok g _ _ (OInv.start h)).2 v hv
  unfold I64; omega

/-! ### stat.Far -/
def farE (g : Grf) (id : Int) : Int := if grfE g = 0 then (if fhas g.nodes id then 0 else 5) else grfE g
def farL (g : Grf) (id : Int) : List Int := if grfE g = 0 then (if fhas g.nodes id then farI g (fpos g.nodes id) else []) else []
/-- A list and an error come back. -/
def RetSl {D : Type} (L : Lay D) (l : List D) (err : Int) (w : World) (e : Ending) (w' : World) : Prop := ∃ v, e = .returned (.tuple #[v, errV err]) ∧ Sl L w' v l ∧ Below w.heap.size w w'

set_option maxHeartbeats 1000000 in
theorem farTop_any (g : Grf) (vn vt : Value) (w : World) (hg : GrfR w vn vt g) (id : Int) :
    Calls Try.prog 13 #[.agg #[vn, vt], .int .i64 id] w (RetSl intL (farL g id) (farE g id) w) := by
  obtain ⟨A, c, rfl, _, _⟩ := hg.1.form
  obtain ⟨A', c', rfl, _, _⟩ := hg.2.form
  obtain ⟨q0, q1⟩ := cell_box2 w (.slice A g.nodes.length c) (.slice A' g.ties.length c') 29
  have hb0 : Below w.heap.size w (w.alloc (.cells #[.slice A g.nodes.length c, .slice A' g.ties.length c'] 29)) := (Below.refl _ _).alloc (Nat.le_refl _) _
  by_cases h0 : grfE g = 0
  · obtain ⟨hl, hlt, hch, _⟩ := grf_ok h0
    have hE : errV (grfE g) = .nilIface := errV_zero h0
    cases hf : fhas g.nodes id with
    | false =>
      have HE : Hid (farE g id = 5 ∧ farL g id = []) := by unfold farE farL Hid; simp [h0, hf]
      go_enter Try.func13, Try.ntmps13
      go_wp2_with fail
      refine (grfCheck_any g _ _ _ (hg.below hb0)).mono ?_
      rintro e w1 ⟨rfl, hb1⟩
      rw [hE]
      have hb2 : Below w.heap.size w w1 := hb0.trans (hb1.mono hb0.size)
      have p0 := cell_below hb1 q0
      have p1 := cell_below hb1 q1
      clear hb1
      go_wp2_with fail
      refine (find_any g _ _ _ (hg.below hb2) id hch (by omega)).mono ?_
      rintro e w2 ⟨rfl, hb3⟩
      rw [hf]
      go_wp2_with fail
      go_ret2
      exact ⟨_, by rw [HE.out.1]; rfl, by rw [HE.out.2]; exact Sl.nil 0 (by unfold maxLen; omega) none, hb2.trans (hb3.mono hb2.size)⟩
    | true =>
      have HE : Hid (farE g id = 0 ∧ farL g id = farI g (fpos g.nodes id)) := by unfold farE farL Hid; simp [h0, hf]
      have hpl : fpos g.nodes id < g.nodes.length := fhas_lt hf
      have HS := Lib.hid (farI_small hpl hl)
      go_enter Try.func13, Try.ntmps13
      go_wp2_with fail
      refine (grfCheck_any g _ _ _ (hg.below hb0)).mono ?_
      rintro e w1 ⟨rfl, hb1⟩
      rw [hE]
      have hb2 : Below w.heap.size w w1 := hb0.trans (hb1.mono hb0.size)
      have p0 := cell_below hb1 q0
      have p1 := cell_below hb1 q1
      clear hb1
      go_wp2_with fail
      refine (find_any g _ _ _ (hg.below hb2) id hch (by omega)).mono ?_
      rintro e w2 ⟨rfl, hb3⟩
      rw [hf]
      have hb4 := hb2.trans (hb3.mono hb2.size)
      have p2 := cell_below hb3 p0
      have p3 := cell_below hb3 p1
      clear hb3
      go_wp2_with fail
      refine (far_any g _ _ _ (hg.below hb4) (fpos g.nodes id) hpl hch hl hlt).mono ?_
      rintro e w3 ⟨v, rfl, hown, hb5⟩
      obtain ⟨Av, cv, rfl, _, _⟩ := hown.form
      go_wp2_with fail
      go_ret2
      exact ⟨_, by rw [HE.out.1]; rfl, by rw [HE.out.2]; exact hown.ints HS.out, hb4.trans (hb5.mono hb4.size)⟩
  · have hE : errV (grfE g) = .iface 23 (.int .i64 (grfE g)) := errV_some h0
    have HE : Hid (errV (farE g id) = .iface 23 (.int .i64 (grfE g)) ∧ farL g id = []) := by unfold farE farL Hid; rw [if_neg h0, if_neg h0]; exact ⟨hE, rfl⟩
    go_enter Try.func13, Try.ntmps13
    go_wp2_with fail
    refine (grfCheck_any g _ _ _ (hg.below hb0)).mono ?_
    rintro e w1 ⟨rfl, hb1⟩
    rw [hE]
    have hb2 : Below w.heap.size w w1 := hb0.trans (hb1.mono hb0.size)
    have p0 := cell_below hb1 q0
    have p1 := cell_below hb1 q1
    clear hb1
    go_wp2_with fail
    go_ret2
    exact ⟨_, by rw [HE.out.1]; rfl, by rw [HE.out.2]; exact Sl.nil 0 (by unfold maxLen; omega) none, hb2⟩

/-! ### The function value inside Parts -/
theorem parts1_any (l : List Int) (id : Int) (u : Value) (bk : Nat) (w : World) (hu : Sl intL w u l) (hc : w.cell? ⟨bk, 0, none⟩ = some (.int .i64 id)) :
    Calls Try.prog 32 #[u, .pointer (some ⟨bk, 0, none⟩)] w fun e w' => e = .returned (.bool (l.any fun y => id == y)) ∧ Below w.heap.size w w' := by
  have h1 := containsInt_any l id u w hu
  obtain ⟨A, c, rfl, _, _⟩ := hu.form
  clear hu
  generalize (l.any fun y => id == y) = B at h1
  go_enter Try.func32, Try.ntmps32
  go_wp2_with (go_at_call 33; refine h1.mono ?_; rintro e w' ⟨rfl, rfl⟩)
  go_ret
  exact ⟨rfl, Below.refl _ _⟩
end Go.Proofs.Ytdfeloeainabjaa
