/- Parts: VtT, VtC, RcA, ShA, VtR. -/
import Derived.Test.YtflidfmpmakggaaGreatDoorMg03
import Derived.Test.YtflidfmpmakggaaGreatDoorMg07
import Derived.Lib.Join
import Derived.Lib.Split
import Derived.Lib.CutLaws
import Derived.Test.YtflidfmpmakggaaGreatDoorMg06
import Derived.Deep.DeepCutAuto
/- Plain: a record and a graph as text; how many lines that is. No condition. -/
namespace Go.Proofs.YtflidfmpmakggaaGreatDoor
open Go

/-- A property, a record as text. -/
def prpT (p : Prp) : List UInt8 := p.name.data.toList ++ 61 :: showL p.v
def recT (r : List Prp) : List UInt8 := if r.length = 0 then [45] else Lib.join (r.map prpT) [44]
theorem prp_parts {p : Prp} (h : prpE p = 0) : nameE p.name = 0 ∧ valE p.v = 0 := by
  unfold prpE at h
  split at h
  · rename_i h1; exact ⟨h1, h⟩
  · rename_i h1; exact absurd h h1
/-- A node, a tie, a graph as text. -/
def nodT (n : Nod) : List UInt8 := [110, 111, 100, 101, 32] ++ Lib.itoa n.id ++ [32] ++ n.kind.data.toList ++ [32] ++ recT n.props ++ [10]
def tieT2 (t : Tie) : List UInt8 := [116, 105, 101, 32] ++ t.bond.data.toList ++ [32] ++ Lib.itoa t.src ++ [32] ++ Lib.itoa t.dst ++ [10]
def grfT (g : Grf) : List UInt8 := g.nodes.flatMap nodT ++ g.ties.flatMap tieT2
theorem nod_parts2 {n : Nod} (h : nodE n = 0) : idB n.id = true ∧ nameE n.kind = 0 ∧ recE n.props = 0 := by
  unfold nodE at h
  split at h
  · cases h
  · rename_i h1
    split at h
    · rename_i h2; exact ⟨by simpa using h1, h2, h⟩
    · rename_i h2; exact absurd h h2
theorem tie_parts2 {t : Tie} (h : tieE t = 0) : nameE t.bond = 0 ∧ idB t.src = true ∧ idB t.dst = true := by
  unfold tieE at h
  split at h
  · rename_i h1
    split at h
    · rename_i h2; exact ⟨h1, by simpa using h2⟩
    · cases h
  · rename_i h1; exact absurd h h1
theorem dbl_len2 (l : List UInt8) : (dbl l).length ≤ 2 * l.length := by
  induction l with
  | nil => exact Nat.le_refl _
  | cons c l ih => rw [dbl_cons]; split <;> simp <;> omega
theorem show_len {v : Val} (h : valE v = 0) : (showL v).length ≤ 42 := by
  unfold showL
  rcases val_parts h with ⟨h1, h2, h3, _⟩ | ⟨h1, _⟩ | ⟨h1, _, h3, _⟩
  · rw [if_pos h1]; have := (itoa_small h2 h3).2; omega
  · rw [if_neg (by omega), if_pos h1]
    split
    · show (4 : Nat) ≤ 42; omega
    · show (5 : Nat) ≤ 42; omega
  · rw [if_neg (by omega), if_neg (by omega)]
    have h4 := dbl_len2 v.s.data.toList
    have h5 : v.s.data.toList.length = v.s.size := by rw [Array.length_toList]; rfl
    simp only [List.length_cons, List.length_append, List.length_nil]
    omega
theorem name_len {s : ByteArray} (h : nameE s = 0) : s.data.toList.length ≤ 8 := by
  have h5 : s.data.toList.length = s.size := by rw [Array.length_toList]; rfl
  unfold nameE at h
  split at h
  · cases h
  · split at h
    · cases h
    · omega
theorem tail_len : ∀ (r : List (List UInt8)) (sep : List UInt8) (m : Nat), (∀ x ∈ r, x.length ≤ m) → (Lib.joinTail sep r).length ≤ r.length * (m + sep.length)
  | [], _, _, _ => by simp [Lib.joinTail]
  | y :: r, sep, m, h => by
    have hy := h y (by simp)
    have ih := tail_len r sep m fun z hz => h z (List.mem_cons_of_mem _ hz)
    unfold Lib.joinTail at *
    rw [List.map_cons, List.flatten_cons, List.length_append, List.length_append, List.length_cons, Nat.succ_mul]
    omega
theorem join_len : ∀ (xs : List (List UInt8)) (sep : List UInt8) (m : Nat), (∀ x ∈ xs, x.length ≤ m) → (Lib.join xs sep).length ≤ xs.length * (m + sep.length)
  | [], sep, m, _ => by rw [Lib.join_nil]; simp
  | x :: r, sep, m, h => by
    rw [Lib.join_cons, List.length_append]
    have h1 := h x (by simp)
    have h2 := tail_len r sep m fun y hy => h y (List.mem_cons_of_mem _ hy)
    rw [List.length_cons, Nat.succ_mul]
    omega
theorem prp_len {p : Prp} (h : prpE p = 0) : (prpT p).length ≤ 51 := by
  have h1 := name_len (prp_parts h).1
  have h2 := show_len (prp_parts h).2
  unfold prpT
  rw [List.length_append, List.length_cons]; omega
theorem rec_len {r : List Prp} (h : recE r = 0) : (recT r).length ≤ 417 := by
  unfold recT
  split
  · show (1 : Nat) ≤ 417; omega
  · have h1 := join_len (r.map prpT) [44] 51 fun x hx => by
      obtain ⟨p, hp, rfl⟩ := List.mem_map.1 hx
      exact prp_len ((rec_ok h).2.1 p hp)
    have h2 := (rec_ok h).1
    rw [List.length_map] at h1
    have h3 : r.length * (51 + ([44] : List UInt8).length) ≤ 8 * 52 := Nat.mul_le_mul h2 (Nat.le_refl _)
    omega
theorem itoa_id {n : Int} (h : idB n = true) : (Lib.itoa n).length ≤ 10 := by
  unfold idB at h
  simp at h
  exact (itoa_small (by omega) (by omega)).2
theorem nod_len {n : Nod} (h : nodE n = 0) : (nodT n).length ≤ 450 := by
  obtain ⟨h1, h2, h3⟩ := nod_parts2 h
  have k1 := itoa_id h1
  have k2 := name_len h2
  have k3 := rec_len h3
  unfold nodT
  simp only [List.length_append, List.length_cons, List.length_nil]
  omega
theorem tie_len2 {t : Tie} (h : tieE t = 0) : (tieT2 t).length ≤ 450 := by
  obtain ⟨h1, h2, h3⟩ := tie_parts2 h
  have k1 := itoa_id h2
  have k2 := name_len h1
  have k3 := itoa_id h3
  unfold tieT2
  simp only [List.length_append, List.length_cons, List.length_nil]
  omega
theorem flatMap_len {D : Type} {f : D → List UInt8} {m : Nat} : ∀ {l : List D}, (∀ x ∈ l, (f x).length ≤ m) → (l.flatMap f).length ≤ l.length * m
  | [], _ => by simp
  | x :: l, h => by
    have h1 := h x (by simp)
    have h2 := flatMap_len (l := l) fun y hy => h y (List.mem_cons_of_mem _ hy)
    rw [List.flatMap_cons, List.length_append, List.length_cons, Nat.succ_mul]
    omega

/-- A sign is not in a text. -/
def noB (c : UInt8) (l : List UInt8) : Prop := ∀ x ∈ l, x ≠ c
theorem noB.nil {c : UInt8} : noB c [] := fun _ h => by cases h
theorem noB.cons {c x : UInt8} {l : List UInt8} (h : x ≠ c) (k : noB c l) : noB c (x :: l) := fun y hy => by
  rcases List.mem_cons.1 hy with rfl | hy
  · exact h
  · exact k y hy
theorem noB.append {c : UInt8} {a b : List UInt8} (h : noB c a) (k : noB c b) : noB c (a ++ b) := fun y hy => by
  rcases List.mem_append.1 hy with hy | hy
  · exact h y hy
  · exact k y hy
/-- A text has a first such sign, or none. -/
theorem first_sign (c : UInt8) : ∀ l : List UInt8, noB c l ∨ ∃ a r, l = a ++ c :: r ∧ noB c a
  | [] => .inl .nil
  | x :: l => by
    by_cases hx : x = c
    · exact .inr ⟨[], l, by rw [hx]; rfl, .nil⟩
    · rcases first_sign c l with h | ⟨a, r, rfl, h⟩
      · exact .inl (.cons hx h)
      · exact .inr ⟨x :: a, r, rfl, .cons hx h⟩
theorem occ_ne {s : List UInt8} {c : UInt8} {i : Nat} (h : s[i]? ≠ some c) : Lib.occAt s [c] i = false := by
  cases hq : Lib.occAt s [c] i with
  | false => rfl
  | true => exact absurd (Lib.occAt_head rfl hq) h
theorem index_sign {c : UInt8} {a r : List UInt8} (h : noB c a) : Lib.index (a ++ c :: r) [c] = a.length :=
  Lib.index_hit (fun j hj => occ_ne (by
    rw [List.getElem?_append_left hj]
    intro e
    exact h _ (List.mem_of_getElem? e) rfl)) (by simp) (by simp [Lib.occAt])
theorem index_no {c : UInt8} {a : List UInt8} (h : noB c a) : Lib.index a [c] = -1 :=
  Lib.index_none fun _ _ => occ_ne fun e => h _ (List.mem_of_getElem? e) rfl
/-- Cut at the first. -/
theorem cut_sign {c : UInt8} {a r : List UInt8} (h : noB c a) : Lib.cut (a ++ c :: r) [c] = (a, r, true) := by
  unfold Lib.cut
  rw [index_sign h, if_pos (by omega)]
  simp
theorem cut_no {c : UInt8} {a : List UInt8} (h : noB c a) : Lib.cut a [c] = (a, [], false) := by
  unfold Lib.cut
  rw [index_no h, if_neg (by omega)]
theorem cut_cases (c : UInt8) (l : List UInt8) : (Lib.cut l [c] = (l, [], false) ∧ noB c l) ∨ ∃ a r, l = a ++ c :: r ∧ noB c a ∧ Lib.cut l [c] = (a, r, true) := by
  rcases first_sign c l with h | ⟨a, r, rfl, h⟩
  · exact .inl ⟨cut_no h, h⟩
  · exact .inr ⟨a, r, rfl, h, cut_sign h⟩
/-- Cut at each. -/
theorem split_no {c : UInt8} {a : List UInt8} (h : noB c a) : Lib.split a [c] = [a] := by
  unfold Lib.split
  rw [Lib.count_miss (index_no h)]; rfl
theorem split_sign {c : UInt8} {a r : List UInt8} (h : noB c a) : Lib.split (a ++ c :: r) [c] = a :: Lib.split r [c] := by
  have hi := index_sign (r := r) h
  unfold Lib.split
  rw [Lib.count_hit (by simp) hi, Nat.add_comm]
  show (if Lib.index (a ++ c :: r) [c] == -1 then [a ++ c :: r] else (a ++ c :: r).take ((Lib.index (a ++ c :: r) [c]).toNat + 0) :: Lib.splitK [c] 0 (Lib.count ((a ++ c :: r).drop (a.length + 1)) [c]) ((a ++ c :: r).drop ((Lib.index (a ++ c :: r) [c]).toNat + 1))) = _
  rw [hi, if_neg (by simp), drop_behind]
  simp
theorem join_two (c : UInt8) (a y : List UInt8) (m : List (List UInt8)) : Lib.join (a :: y :: m) [c] = a ++ c :: Lib.join (y :: m) [c] := by
  show [c].intercalate (a :: y :: m) = _
  have e : [c].intercalate (a :: y :: m) = a ++ [c] ++ [c].intercalate (y :: m) := by simp [List.intercalate, List.intersperse]
  rw [e]; simp [Lib.join]
theorem join_one (c : UInt8) (a : List UInt8) : Lib.join [a] [c] = a := by simp [Lib.join]
theorem split_ne (c : UInt8) (l : List UInt8) : Lib.split l [c] ≠ [] := by
  rcases first_sign c l with h | ⟨a, r, rfl, h⟩
  · rw [split_no h]; simp
  · rw [split_sign h]; simp
/-- Cut at each that is in no quotes. -/
def cutF (c : UInt8) : Bool → List UInt8 → List UInt8 → List (List UInt8)
  | _, cur, [] => [cur]
  | q, cur, x :: l => if x = 39 then cutF c (!q) (cur ++ [x]) l else if x = c ∧ q = false then cur :: cutF c false [] l else cutF c q (cur ++ [x]) l
theorem cutF_cons (c : UInt8) (q : Bool) (cur : List UInt8) (x : UInt8) (l : List UInt8) : cutF c q cur (x :: l) = if x = 39 then cutF c (!q) (cur ++ [x]) l else if x = c ∧ q = false then cur :: cutF c false [] l else cutF c q (cur ++ [x]) l := rfl
def cutL (c : UInt8) (l : List UInt8) : List (List UInt8) := cutF c false [] l
open Go Go.RowKit

theorem take_more {l : List UInt8} {f k : Nat} {x : UInt8} (hf : f ≤ k) (hx : l[k]? = some x) : (l.drop f).take (k + 1 - f) = (l.drop f).take (k - f) ++ [x] := by
  have e : k + 1 - f = (k - f) + 1 := by omega
  rw [e, List.take_add_one, List.getElem?_drop]
  have e2 : f + (k - f) = k := by omega
  rw [e2, hx]; rfl
theorem drop_one {l : List UInt8} {k : Nat} {x : UInt8} (hx : l[k]? = some x) : l.drop k = x :: l.drop (k + 1) := by
  have hlt := (List.getElem?_eq_some_iff.1 hx).1
  rw [List.drop_eq_getElem_cons hlt]
  have := (List.getElem?_eq_some_iff.1 hx).2
  rw [this]
theorem ext_list (s : ByteArray) (f k : Nat) : s.extract f k = bs ((s.data.toList.drop f).take (k - f)) := by
  rw [← bs_of (s.extract f k), Lib.extract_data]
theorem flat_wv : ∀ xs : List (List UInt8), (xs.map bs).flatMap (fun s => [Value.string s]) = wv xs
  | [] => rfl
  | x :: xs => by
    have ih := flat_wv xs
    unfold wv at ih ⊢
    rw [List.map_cons, List.flatMap_cons, ih]; rfl
theorem own_words {w : World} {B : Nat} {v : Value} {xs : List (List UInt8)} (h : Own w B 9 1 v xs.length (wv xs)) (hl : ∀ x ∈ xs, x.length ≤ 1048576) : Sl strL w v (xs.map bs) := by
  have h2 : Own w B 9 1 v (xs.map bs).length ((xs.map bs).flatMap fun s => [.string s]) := by
    have e : (xs.map bs).flatMap (fun s => [Value.string s]) = wv xs := flat_wv xs
    rw [e, List.length_map]; exact h
  refine Own.flat (enc := fun s : ByteArray => [Value.string s]) (n := 1) (ok := Sm) (fun _ => rfl) (fun x hx => ?_) h2
  · obtain ⟨y, hy, rfl⟩ := List.mem_map.1 hx
    unfold Sm; rw [bs_size]; exact hl y hy
theorem cutF_lens (c : UInt8) : ∀ (l : List UInt8) (q : Bool) (cur : List UInt8), ∀ x ∈ cutF c q cur l, x.length ≤ cur.length + l.length
  | [], q, cur, x, hx => by rcases List.mem_singleton.1 hx with rfl; simp
  | y :: l, q, cur, x, hx => by
    rw [cutF_cons] at hx
    split at hx
    · have := cutF_lens c l _ _ x hx; simp at *; omega
    · split at hx
      · rcases List.mem_cons.1 hx with rfl | hx
        · simp
        · have := cutF_lens c l _ _ x hx; simp at *; omega
      · have := cutF_lens c l _ _ x hx; simp at *; omega
set_option maxHeartbeats 4000000 in
theorem cut_any (s : ByteArray) (c : UInt8) (w : World) (hs : Sm s) :
    Calls Tryz.prog 161 #[.string s, .int .u8 c.toNat] w fun e w' => ∃ A k, e = .returned (.slice A (cutL c s.data.toList).length k) ∧ Sl strL w' (.slice A (cutL c s.data.toList).length k) ((cutL c s.data.toList).map bs) ∧ Below w.heap.size w w' := by
  obtain ⟨i0, ei, ez, ez1, ez2⟩ := info_parts str_info
  have hle : s.data.toList.length = s.size := by rw [Array.length_toList]; rfl
  unfold Sm at hs
  have HLE := Lib.hid hle
  have HLN : Hid (∀ x ∈ cutL c s.data.toList, x.length ≤ 1048576) := fun x hx => by
    have := cutF_lens c s.data.toList false [] x hx
    simp at this
    omega
  clear hle
  go_enter Tryz.func161, Tryz.ntmps161
  go_wp2_with fail
  go_loopw [4, 5, 6, 7, 10, 13, 20] (fun x4 x5 x6 _ x10 _ _ wr => ∃ (k f : Nat) (done : List (List UInt8)) (q : Bool), k ≤ s.size ∧ f ≤ k ∧ done.length ≤ k ∧ x10 = .int .i64 k ∧ x5 = .int .i64 f ∧ x6 = .bool q ∧ Below w.heap.size w wr ∧ Hid (Own wr w.heap.size 9 1 x4 done.length (wv done)) ∧ Hid (done ++ cutF c q ((s.data.toList.drop f).take (k - f)) (s.data.toList.drop k) = cutL c s.data.toList)) (fun _ _ _ _ i _ _ _ => s.size - (intOf i).toNat)
  case atStart => exact ⟨0, 0, [], false, Nat.zero_le _, Nat.le_refl _, Nat.le_refl _, rfl, rfl, rfl, Below.refl _ _, Own.nil _ _ _ _, rfl⟩
  case round =>
    obtain ⟨k, f, done, q, hk, hfk, hdk, rfl, rfl, rfl, hbr, HO, HX⟩ := hrel
    obtain ⟨wo, hwo⟩ : ∃ wo : World, wo = wr := ⟨_, rfl⟩
    subst hwo
    obtain ⟨A4, c4, rfl, hc4, _⟩ := HO.out.form
    by_cases hlt : k < s.size
    · have hlt' : (k : Int) < (s.size : Int) := by omega
      have hx : s.data.toList[k]? = some s[k] := by
        rw [List.getElem?_eq_getElem (by rw [HLE.out]; exact hlt)]; rfl
      have HX1 := Lib.hid (take_more hfk hx)
      have HX2 := Lib.hid (drop_one hx)
      have HST : Hid (done ++ cutF c q ((s.data.toList.drop f).take (k - f)) (s[k] :: s.data.toList.drop (k + 1)) = cutL c s.data.toList) := by
        unfold Hid; rw [← HX2.out]; exact HX.out
      generalize hsk : s[k] = x at *
      have HSK := Lib.hid hsk
      clear hx HX HX2
      by_cases h39 : x = 39
      · have hb39 : ((s[k].toNat : Int) == 39) = true := by rw [HSK.out, h39]; rfl
        have HN : Hid (done ++ cutF c (!q) ((s.data.toList.drop f).take (k + 1 - f)) (s.data.toList.drop (k + 1)) = cutL c s.data.toList) := by
          unfold Hid; rw [HX1.out, ← HST.out, cutF_cons, if_pos h39]
        clear h39 hsk HST HX1
        go_wp2_with fail
        go_roundw
        case rel => exact ⟨k + 1, f, done, !q, by omega, by omega, by omega, by go_num, rfl, rfl, hbr, HO, HN⟩
        case measure => simp [intOf]; omega
      · have hb39 : ((s[k].toNat : Int) == 39) = false := by
          rw [HSK.out, beq_eq_false_iff_ne]
          intro e
          exact h39 (UInt8.toNat_inj.1 (by show x.toNat = 39; omega))
        by_cases hc : x = c
        · have hbc : ((s[k].toNat : Int) == (c.toNat : Int)) = true := by rw [HSK.out, hc]; simp
          cases q with
          | true =>
            have HN : Hid (done ++ cutF c true ((s.data.toList.drop f).take (k + 1 - f)) (s.data.toList.drop (k + 1)) = cutL c s.data.toList) := by
              unfold Hid; rw [HX1.out, ← HST.out, cutF_cons, if_neg h39, if_neg (fun e => by cases e.2)]
            clear h39 hsk HST HX1 hc
            go_wp2_with fail
            go_roundw
            case rel => exact ⟨k + 1, f, done, true, by omega, by omega, by omega, by go_num, rfl, rfl, hbr, HO, HN⟩
            case measure => simp [intOf]; omega
          | false =>
            have HN : Hid ((done ++ [(s.data.toList.drop f).take (k - f)]) ++ cutF c false ((s.data.toList.drop (k + 1)).take (k + 1 - (k + 1))) (s.data.toList.drop (k + 1)) = cutL c s.data.toList) := by
              unfold Hid; rw [← HST.out, cutF_cons, if_neg h39, if_pos ⟨hc, rfl⟩]; simp
            clear h39 hsk HST HX1 hc
            -- an append of s[f:k]: 30, 35: the temporaries; wo: the world; k: the piece's end, spelled
            have HOA : Hid (Own (wo.alloc (.cells #[.string (s.extract f k)] 9)) w.heap.size 9 1 (.slice A4 done.length c4) done.length (wv done)) := HO.out.alloc _
            have HN : Hid (∀ j u, ([.string (s.extract f k)] : List Value)[j]? = some u → (wo.alloc (.cells #[.string (s.extract f k)] 9)).cell? ⟨wo.heap.size, j, none⟩ = some u) := fun j u hj => by
              rw [World.cell?_alloc_at _ _ _ _ rfl]; simpa using hj
            have hA4 := hbr.alloc hbr.size (.cells #[.string (s.extract f k)] 9)
            clear hbr HO
            go_wp2_with (at_builtin; refine wpList_append_q _ rfl (.tmp 30) (.tmp 35) _ rfl w.heap.size 9 i0 (.string .empty) 1 16 Tryz.underlying58 ei ez ez1 ez2 rfl (by decide) (.slice A4 done.length c4) done.length (wv done) rfl HOA.out (some ⟨wo.heap.size, 0, none⟩) 1 1 [.string (s.extract f k)] rfl rfl (fun _ => ⟨_, rfl, fun j u hj => by rw [addr_add, Nat.zero_add]; exact HN.out j u hj⟩) (fun u hu => by simp at hu; subst hu; rfl) (by unfold maxLen; omega) (by omega) (by have := hA4.size; exact this) ?_; intro v9 w9 hown9 hg9 hat9)
            have hB9 : Below w.heap.size w w9 := hA4.grown hg9 hA4.size (fun kk e => (HOA.out.lt kk e).1)
            have HO9 : Hid (Own w9 w.heap.size 9 1 v9 (done.length + 1) (wv (done ++ [(s.data.toList.drop f).take (k - f)]))) := by
              unfold Hid wv
              rw [List.map_append]
              have h := hown9
              rw [ext_list] at h
              exact h
            clear hg9 hat9 hown9 HOA HN hA4
            go_wp2_with fail
            go_roundw
            case rel => exact ⟨k + 1, k + 1, done ++ [(s.data.toList.drop f).take (k - f)], false, by omega, by omega, by simp; omega, by go_num, by go_num, rfl, hB9, by rw [List.length_append]; exact HO9, HN⟩
            case measure => simp [intOf]; omega
        · have hbc : ((s[k].toNat : Int) == (c.toNat : Int)) = false := by
            rw [HSK.out, beq_eq_false_iff_ne]
            intro e
            exact hc (UInt8.toNat_inj.1 (by omega))
          have HN : Hid (done ++ cutF c q ((s.data.toList.drop f).take (k + 1 - f)) (s.data.toList.drop (k + 1)) = cutL c s.data.toList) := by
            unfold Hid; rw [HX1.out, ← HST.out, cutF_cons, if_neg h39, if_neg (fun e => hc e.1)]
          clear h39 hsk HST HX1 hc
          go_wp2_with fail
          go_roundw
          case rel => exact ⟨k + 1, f, done, q, by omega, by omega, by omega, by go_num, rfl, rfl, hbr, HO, HN⟩
          case measure => simp [intOf]; omega
    · obtain rfl : k = s.size := by omega
      have hdn : decide (s.size < s.size) = false := by simp
      have HN : Hid (done ++ [(s.data.toList.drop f).take (s.size - f)] = cutL c s.data.toList) := by
        have h := HX.out
        have e : s.data.toList.drop s.size = [] := List.drop_eq_nil_of_le (by rw [HLE.out]; exact Nat.le_refl _)
        rw [e] at h
        exact h
      clear hlt hk HX
      -- an append of s[f:s.size]: 40, 44: the temporaries; wo: the world; s.size: the piece's end, spelled
      have HOA : Hid (Own (wo.alloc (.cells #[.string (s.extract f s.size)] 9)) w.heap.size 9 1 (.slice A4 done.length c4) done.length (wv done)) := HO.out.alloc _
      have HN : Hid (∀ j u, ([.string (s.extract f s.size)] : List Value)[j]? = some u → (wo.alloc (.cells #[.string (s.extract f s.size)] 9)).cell? ⟨wo.heap.size, j, none⟩ = some u) := fun j u hj => by
        rw [World.cell?_alloc_at _ _ _ _ rfl]; simpa using hj
      have hA4 := hbr.alloc hbr.size (.cells #[.string (s.extract f s.size)] 9)
      clear hbr HO
      go_wp2_with (at_builtin; refine wpList_append_q _ rfl (.tmp 40) (.tmp 44) _ rfl w.heap.size 9 i0 (.string .empty) 1 16 Tryz.underlying58 ei ez ez1 ez2 rfl (by decide) (.slice A4 done.length c4) done.length (wv done) rfl HOA.out (some ⟨wo.heap.size, 0, none⟩) 1 1 [.string (s.extract f s.size)] rfl rfl (fun _ => ⟨_, rfl, fun j u hj => by rw [addr_add, Nat.zero_add]; exact HN.out j u hj⟩) (fun u hu => by simp at hu; subst hu; rfl) (by unfold maxLen; omega) (by omega) (by have := hA4.size; exact this) ?_; intro v9 w9 hown9 hg9 hat9)
      have hB9 : Below w.heap.size w w9 := hA4.grown hg9 hA4.size (fun kk e => (HOA.out.lt kk e).1)
      have HO9 : Hid (Own w9 w.heap.size 9 1 v9 (done.length + 1) (wv (done ++ [(s.data.toList.drop f).take (s.size - f)]))) := by
        unfold Hid wv
        rw [List.map_append]
        have h := hown9
        rw [ext_list] at h
        exact h
      clear hg9 hat9 hown9 HOA HN hA4
      go_wp2_with fail
      have hn9 : done.length + 1 = (cutL c s.data.toList).length := by rw [← HN.out]; simp
      obtain ⟨A9, c9, rfl, _, _⟩ := HO9.out.form
      have HF : Hid (Sl strL w9 (.slice A9 (cutL c s.data.toList).length c9) ((cutL c s.data.toList).map bs)) := by
        have h := HO9.out
        rw [HN.out, hn9] at h
        exact own_words h HLN.out
      have HN9 := Lib.hid hn9
      clear hn9 HN HO9 HLN
      go_ret
      exact ⟨A9, c9, by first | rfl | (rw [HN9.out]; rfl), HF.out, hB9⟩

theorem take_next {l : List UInt8} {k : Nat} {x : UInt8} (h : l[k]? = some x) : l.take (k + 1) = l.take k ++ [x] := by rw [List.take_add_one, h]; rfl
theorem ext_one {s : ByteArray} {k : Nat} {x : UInt8} (h : s.data.toList[k]? = some x) : s.extract k (k + 1) = bs [x] := by
  rw [ext_list, drop_cons_of h, show k + 1 - k = 1 by omega]; rfl
set_option maxRecDepth 100000 in
set_option maxHeartbeats 4000000 in
theorem rshow_any (v : Val) (hv : valE v = 0) (w : World) :
    Calls Tryz.prog 88 #[.agg #[.int .i64 v.ty, .int .i64 v.n, .string v.s]] w fun e w' => e = .returned (.string (bs (showL v))) ∧ Below w.heap.size w w' := by
  obtain ⟨ty, n, s⟩ := v
  have hb0 : Below w.heap.size w (w.alloc (.cells #[.int .i64 ty, .int .i64 n, .string s] 70)) := (Below.refl _ _).alloc (Nat.le_refl _) _
  have HF : Hid (showL ⟨ty, n, s⟩ = if ty = 1 then Lib.itoa n else if ty = 2 then (if n = 1 then trueL else falseL) else 39 :: (dbl s.data.toList ++ [39])) := rfl
  obtain ⟨c0, c1, c2⟩ := cell_box3 w (.int .i64 ty) (.int .i64 n) (.string s) 70
  rcases val_parts hv with ⟨rfl, h2, h3, h4⟩ | ⟨rfl, h2, h4⟩ | ⟨rfl, h2, h3, h4⟩
  · have h2 : -1000000 ≤ n := h2
    have h3 : n ≤ 1000000 := h3
    have HE : Hid (showL ⟨1, n, s⟩ = Lib.itoa n) := by unfold Hid; rw [HF.out, if_pos rfl]
    have hx := dig_any n ⟨h2, h3⟩ (w.alloc (.cells #[.int .i64 1, .int .i64 n, .string s] 70))
    clear HF hv h4
    go_enter Tryz.func88, Tryz.ntmps88
    go_wp2_with fail
    refine hx.mono ?_
    clear hx
    rintro e w1 ⟨rfl, hb1⟩
    go_wp2_with fail
    go_ret
    exact ⟨by rw [HE.out]; rfl, hb0.trans (hb1.mono hb0.size)⟩
  · have h2 : n = 0 ∨ n = 1 := h2
    rcases h2 with rfl | rfl
    · have HE : Hid (showL ⟨2, 0, s⟩ = falseL) := rfl
      clear HF hv h4
      go_enter Tryz.func88, Tryz.ntmps88
      go_wp2_with fail
      go_ret
      exact ⟨by rw [HE.out]; rfl, hb0⟩
    · have HE : Hid (showL ⟨2, 1, s⟩ = trueL) := rfl
      clear HF hv h4
      go_enter Tryz.func88, Tryz.ntmps88
      go_wp2_with fail
      go_ret
      exact ⟨by rw [HE.out]; rfl, hb0⟩
  · have h3 : s.size ≤ 20 := h3
    have HE : Hid (showL ⟨3, n, s⟩ = 39 :: (dbl s.data.toList ++ [39])) := by unfold Hid; rw [HF.out, if_neg (by omega), if_neg (by omega)]
    have hle : s.data.toList.length = s.size := by rw [Array.length_toList]; rfl
    have HLE := Lib.hid hle
    clear HF hv h4 h2 hle
    go_enter Tryz.func88, Tryz.ntmps88
    go_upto_region 8 with fail
    generalize w.alloc (.cells #[.int .i64 3, .int .i64 n, .string s] 70) = W0 at *
    go_wp2_with fail
    go_loop [3, 4] (fun sv i => ∃ k : Nat, k ≤ s.size ∧ i = .int .i64 k ∧ sv = .string (bs (39 :: dbl (s.data.toList.take k)))) (fun _ i => s.size - (intOf i).toNat)
    case atStart => exact ⟨0, Nat.zero_le _, rfl, by rw [List.take_zero]; rfl⟩
    case round =>
      obtain ⟨k, hk, rfl, rfl⟩ := hrel
      have hdl : (bs (39 :: dbl (s.data.toList.take k))).size ≤ 41 := by
        rw [bs_size]
        have := dbl_len2 (s.data.toList.take k)
        rw [List.length_take] at this
        simp only [List.length_cons]; omega
      by_cases hlt : k < s.size
      · have hlt' : (k : Int) < (s.size : Int) := by omega
        have HB := Lib.hid (bytes_at s k hlt)
        have HT := Lib.hid (take_next HB.out)
        have HX := Lib.hid (ext_one HB.out)
        have hxs : (s.extract k (k + 1)).size = 1 := by rw [HX.out, bs_size]; rfl
        by_cases hq : s[k] = 39
        · have q1 : ((s[k].toNat : Int) == 39) = true := by rw [hq]; rfl
          have q2 : (s[k].toNat : Int) = 39 := by rw [hq]; rfl
          have HN : Hid (bs (39 :: dbl (s.data.toList.take (k + 1))) = bs (39 :: dbl (s.data.toList.take k)) ++ ⟨#[39]⟩ ++ s.extract k (k + 1)) := by
            unfold Hid; rw [HT.out, HX.out, hq, dbl_append]
            show _ = bs (39 :: dbl (s.data.toList.take k)) ++ bs [39] ++ bs [39]
            rw [bs_append, bs_append]; simp [dbl]
          generalize bs (39 :: dbl (s.data.toList.take k)) = A at *
          have z1 : ¬ 9223372036854775807 < A.size + 1 := by omega
          have z2 : ¬ 9223372036854775807 < A.size + 1 + (s.extract k (k + 1)).size := by omega
          clear hq HT HX
          go_wp2_with fail
          go_round
          case rel => exact ⟨k + 1, by omega, by go_num, by rw [HN.out]⟩
          case measure => simp [intOf]; omega
        · have q2 : ¬ (s[k].toNat : Int) = 39 := fun e => hq (UInt8.toNat_inj.1 (by have : s[k].toNat = 39 := by omega
                                                                                    rw [this]; rfl))
          have q1 : ((s[k].toNat : Int) == 39) = false := beq_eq_false_iff_ne.2 q2
          have HN : Hid (bs (39 :: dbl (s.data.toList.take (k + 1))) = bs (39 :: dbl (s.data.toList.take k)) ++ s.extract k (k + 1)) := by
            unfold Hid; rw [HT.out, HX.out, dbl_append, bs_append, dbl_cons, if_neg hq]; rfl
          generalize bs (39 :: dbl (s.data.toList.take k)) = A at *
          have z2 : ¬ 9223372036854775807 < A.size + (s.extract k (k + 1)).size := by omega
          clear hq HT HX
          go_wp2_with fail
          go_round
          case rel => exact ⟨k + 1, by omega, by go_num, by rw [HN.out]⟩
          case measure => simp [intOf]; omega
      · obtain rfl : k = s.size := by omega
        have HN : Hid (bs (showL ⟨3, n, s⟩) = bs (39 :: dbl (s.data.toList.take s.size)) ++ ⟨#[39]⟩) := by
          unfold Hid; rw [HE.out, ← HLE.out, List.take_length]
          show _ = bs (39 :: dbl s.data.toList) ++ bs [39]
          rw [bs_append]; rfl
        generalize bs (39 :: dbl (s.data.toList.take s.size)) = A at *
        have z1 : ¬ 9223372036854775807 < A.size + 1 := by omega
        go_wp2_with fail
        go_ret
        exact ⟨by rw [HN.out]; rfl, hb0⟩

/-- A piece as a property. -/
def pieceP (x : List UInt8) : Option Prp := if (Lib.cut x [61]).2.2 = true ∧ readE (Lib.cut x [61]).2.1 = 0 then some ⟨bs (Lib.cut x [61]).1, readV (Lib.cut x [61]).2.1⟩ else none
def propsP : List (List UInt8) → Option (List Prp)
  | [] => some []
  | x :: xs => match pieceP x with
    | none => none
    | some p => match propsP xs with
      | none => none
      | some r => some (p :: r)
theorem propsP_cons (x : List UInt8) (xs : List (List UInt8)) : propsP (x :: xs) = match pieceP x with | none => none | some p => match propsP xs with | none => none | some r => some (p :: r) := rfl
theorem propsP_append : ∀ (a b : List (List UInt8)), propsP (a ++ b) = match propsP a with | none => none | some u => match propsP b with | none => none | some v => some (u ++ v)
  | [], b => by
    show propsP b = match propsP b with | none => none | some v => some ([] ++ v)
    cases propsP b <;> rfl
  | x :: a, b => by
    show propsP (x :: (a ++ b)) = _
    rw [propsP_cons, propsP_cons, propsP_append a b]
    cases pieceP x with
    | none => rfl
    | some p =>
      cases propsP a with
      | none => rfl
      | some u =>
        cases propsP b with
        | none => rfl
        | some v => rfl
theorem propsP_take {xs : List (List UInt8)} {k : Nat} {x : List UInt8} {u : List Prp} (h : propsP (xs.take k) = some u) (hx : xs[k]? = some x) : (pieceP x = none → propsP xs = none) ∧ ∀ p, pieceP x = some p → propsP (xs.take (k + 1)) = some (u ++ [p]) := by
  have e : xs.take (k + 1) = xs.take k ++ [x] := by rw [List.take_add_one, hx]; rfl
  constructor
  · intro hp
    have e2 : xs = xs.take (k + 1) ++ xs.drop (k + 1) := (List.take_append_drop _ _).symm
    rw [e2, propsP_append, e, propsP_append, h]
    simp only [propsP_cons, hp]
  · intro p hp
    rw [e, propsP_append, h]
    simp only [propsP_cons, hp]
    rfl
/-- A text as a record: the fault; the record. -/
def readRE (l : List UInt8) : Int := if l = [45] then 0 else match propsP (cutL 44 l) with | none => 2 | some r => recE r
def readRV (l : List UInt8) : List Prp := if l = [45] then [] else match propsP (cutL 44 l) with | none => [] | some r => if recE r = 0 then r else []
end Go.Proofs.YtflidfmpmakggaaGreatDoor
