/-
  Contracts of the reference's Into and Sorted on lists of routes. No condition but that words are words.
-/
import Derived.Test.YtjhgmjfjlndomaaRefList
namespace Go.Proofs.Ytjhgmjfjlndomaa
open Go.RowKit
set_option linter.unusedVariables false
set_option linter.unusedSimpArgs false
set_option maxRecDepth 100000
attribute [local go_sem high] eq_ad eq_pf eq_rt

/-- A route comes into a list, in its place; of one prefix it is instead of the other one. -/
def intoL : List Rt → Rt → List Rt
  | [], r => [r]
  | x :: l, r => if x.1.lt r.1 then x :: intoL l r else if x.1 = r.1 then r :: l else r :: x :: l
theorem into_at {r : Rt} : ∀ {l : List Rt} {k : Nat}, k ≤ l.length → (∀ (j : Nat) (x : Rt), j < k → l[j]? = some x → x.1.lt r.1) → (∀ x, l[k]? = some x → ¬ x.1.lt r.1) →
    ((∀ x, l[k]? = some x → x.1 ≠ r.1) → intoL l r = l.take k ++ (r :: l.drop k)) ∧ (∀ x, l[k]? = some x → x.1 = r.1 → intoL l r = l.set k r)
  | [], k, hk, _, _ => by
    obtain rfl : k = 0 := by simpa using hk
    exact ⟨fun _ => rfl, fun x h => by simp at h⟩
  | y :: l, 0, _, _, h2 => by
    have hy := h2 y rfl
    refine ⟨fun h => ?_, fun x hx he => ?_⟩
    · rw [intoL, if_neg hy, if_neg (h y rfl)]; rfl
    · simp at hx; subst hx; rw [intoL, if_neg hy, if_pos he]; rfl
  | y :: l, k + 1, hk, h1, h2 => by
    have hy := h1 0 y (by omega) rfl
    have ih := into_at (r := r) (l := l) (k := k) (by simpa using hk) (fun j x hj hx => h1 (j + 1) x (by omega) (by simpa using hx)) (fun x hx => h2 x (by simpa using hx))
    refine ⟨fun h => ?_, fun x hx he => ?_⟩
    · rw [intoL, if_pos hy, ih.1 (fun x hx => h x (by simpa using hx))]; rfl
    · rw [intoL, if_pos hy, ih.2 x (by simpa using hx) he]; rfl
theorem into_length (l : List Rt) (r : Rt) : (intoL l r).length ≤ l.length + 1 := by
  induction l with
  | nil => simp [intoL]
  | cons x l ih => unfold intoL; split; · simp; omega
                   · split <;> simp
theorem into_mem {l : List Rt} {r x : Rt} (h : x ∈ intoL l r) : x = r ∨ x ∈ l := by
  induction l with
  | nil => simpa [intoL] using h
  | cons y l ih =>
    unfold intoL at h
    split at h
    · rcases List.mem_cons.1 h with h | h
      · right; rw [h]; exact List.mem_cons_self
      · rcases ih h with h | h
        · exact .inl h
        · exact .inr (List.mem_cons_of_mem _ h)
    · split at h
      · rcases List.mem_cons.1 h with h | h
        · exact .inl h
        · exact .inr (List.mem_cons_of_mem _ h)
      · rcases List.mem_cons.1 h with h | h
        · exact .inl h
        · exact .inr h

theorem Owns.cells {w : World} {base : Nat} {e : TypeId} {size n : Nat} {g cap : Nat} {xs : List Value} (h : Owns w base e size (.slice (some ⟨g, 0, none⟩) n cap) n xs) :
    base ≤ g ∧ (∀ j, j < n * size → w.cell? ⟨g, j, none⟩ = xs[j]?) ∧ ∀ j, w.frozen? ⟨g, j, none⟩ = false := by
  obtain ⟨h1, h2⟩ := h
  rcases h2 with ⟨h2, _⟩ | ⟨g', cap', cur, hv, hb, hh, hn, hm, hs, ht⟩
  · injection h2 with h2; cases h2
  · injection hv with hv _ _
    injection hv with hv
    injection hv with hv
    subst hv
    refine ⟨hb, fun j hj => ?_, fun j => by simp [World.frozen?, hh]⟩
    have : w.cell? ⟨g, j, none⟩ = cur[j]? := by unfold World.cell?; simp only [hh]; rfl
    rw [this, ← ht, List.getElem?_take_of_lt hj]; simp
theorem Owns.store {w : World} {base : Nat} {e : TypeId} {size n : Nat} {g cap : Nat} {xs : List Value} (h : Owns w base e size (.slice (some ⟨g, 0, none⟩) n cap) n xs) (j : Nat) (u : Value) :
    Owns (w.setCell ⟨g, j, none⟩ u) base e size (.slice (some ⟨g, 0, none⟩) n cap) n (xs.set j u) := by
  obtain ⟨h1, h2⟩ := h
  refine ⟨by rw [List.length_set]; exact h1, ?_⟩
  rcases h2 with ⟨h2, _⟩ | ⟨g', cap', cur, hv, hb, hh, hn, hm, hs, ht⟩
  · injection h2 with h2; cases h2
  · injection hv with hv _ hv2
    injection hv with hv
    injection hv with hv
    subst hv hv2
    refine .inr ⟨g, cap, cur.setIfInBounds j u, rfl, hb, ?_, hn, hm, by simpa using hs, ?_⟩
    · have hblk : Blk w g e cur.toList := by unfold Blk; simpa using hh
      have := hblk.set j u
      unfold Blk at this
      have e : (cur.toList.set j u).toArray = cur.setIfInBounds j u := by
        rw [← Array.toList_setIfInBounds]
      rw [this, e]
    · rw [← ht]; simp [List.take_set]
theorem flat_set {α : Type} {en : α → List Value} {size : Nat} (hl : ∀ a, (en a).length = size) : ∀ (l : List α) (k : Nat) (x : α), k < l.length → (l.set k x).flatMap en = (l.flatMap en).take (k * size) ++ en x ++ (l.flatMap en).drop (k * size + size)
  | [], _, _, h => by simp at h
  | y :: l, 0, x, _ => by
    simp only [List.set_cons_zero, List.flatMap_cons, Nat.zero_mul, List.take_zero, Nat.zero_add, List.nil_append]
    rw [List.drop_left' (hl y)]
  | y :: l, k + 1, x, h => by
    simp only [List.set_cons_succ, List.flatMap_cons]
    rw [flat_set hl l k x (by simpa using h)]
    have e : (k + 1) * size = (en y).length + k * size := by rw [hl, Nat.succ_mul]; omega
    rw [e, List.take_length_add_append, Nat.add_assoc, List.drop_length_add_append]
    simp [List.append_assoc]

theorem set4 {α : Type} (a b c d : α) : ∀ (i : Nat) (xs : List α), i + 4 ≤ xs.length → (((xs.set i a).set (i + 1) b).set (i + 2) c).set (i + 3) d = xs.take i ++ [a, b, c, d] ++ xs.drop (i + 4)
  | 0, x0 :: x1 :: x2 :: x3 :: xs, _ => rfl
  | 0, [], h => by simp at h
  | 0, [_], h => by simp at h
  | 0, [_, _], h => by simp at h
  | 0, [_, _, _], h => by simp at h
  | i + 1, [], h => by simp at h
  | i + 1, x :: xs, h => by
    have ih := set4 a b c d i xs (by simp at h; omega)
    show x :: ((((xs.set i a).set (i + 1) b).set (i + 2) c).set (i + 3) d) = _
    rw [ih]; rfl
theorem gen_w {P : Program} {c : Code} {Q : Exit → Act → World → Prop} {a : Act} {w : World} (h : ∀ W, W = w → c.wp P Q a W) : c.wp P Q a w := h w rfl
theorem Rd.empty' {α : Type} {en : α → List Value} {size : Nat} (w : World) (A : Option Addr) (n cap : Nat) (hn : n = 0) (hc : cap ≤ maxLen) (hA : A = none → cap = 0) : Rd en size w (.slice A n cap) ([] : List α) := by subst hn; exact Rd.empty w A cap hc hA
def IntoRel (w : World) (r : Rt) (l : List Rt) (i : Value) (wr : World) : Prop :=
  ∃ k : Nat, k ≤ l.length ∧ i = .int .i64 k ∧ (∀ (j : Nat) (x : Rt), j < k → l[j]? = some x → x.1.lt r.1) ∧ Blk wr w.heap.size 51 (rtEn r) ∧ Below w.heap.size w wr

set_option maxHeartbeats 1000000 in
theorem ref_into_nil (w : World) (A : Option Addr) (r : Rt) :
    Calls Try.prog 33 #[.slice A 0 0, .agg #[.int .u64 (r.1.1.1 : Int), .int .u64 (r.1.1.2 : Int), .int .i64 r.1.2, .int .i64 r.2]] w (RetRts w [r]) := by
  have hg := guard_pf
  obtain ⟨⟨⟨a, b⟩, n⟩, h⟩ := r
  go_enter Try.func33, Try.ntmps33
  go_wp2_with fail
  go_loopw [5] (fun i wr => IntoRel w (((a, b), n), h) [] i wr) (fun _ _ => 0)
  case atStart => exact ⟨0, Nat.zero_le _, rfl, fun j x hj => by omega, Blk.new_at w #[.int .u64 (a : Int), .int .u64 (b : Int), .int .i64 n, .int .i64 h] 51 _ rfl, (Below.refl _ _).alloc (Nat.le_refl _) _⟩
  case round =>
    obtain ⟨k, hk, rfl, hlow, hX, hB⟩ := hrel
    obtain rfl : k = 0 := by simpa using hk
    clear hlow hk
    have x0 := hX.cellv (i := 0) rfl
    have x1 := hX.cellv (i := 1) rfl
    have x2 := hX.cellv (i := 2) rfl
    have HX := hid hX
    have HB := hid hB
    clear hX hB
    go_wp2_with fail
    go_quiet (fail)
    go_wp2_with fail
    go_quiet (fail)
    go_wp2_with fail
    refine gen_w (fun w5 hw5 => ?_)
    have HB5 := hid (show Below w.heap.size w w5 by rw [hw5]; exact (HB.out.drewN _).drewN _)
    have HX5 := hid (show Blk w5 w.heap.size 51 [.int .u64 (a : Int), .int .u64 (b : Int), .int .i64 n, .int .i64 h] by rw [hw5]; exact (HX.out.drewN _).drewN _)
    clear hw5
    have hs5 := HB5.out.size
    have hx5 := HX5.out.lt
    have HBA := hid (show Below w.heap.size w w5.drew from HB5.out.drew)
    have HBB := hid (show Below w.heap.size w (w5.drew.alloc (.cells #[.int .u64 (a : Int), .int .u64 (b : Int), .int .i64 n, .int .i64 h] 51)) from HB5.out.drew.alloc hs5 _)
    have HXA := hid (show Blk w5.drew w.heap.size 51 [.int .u64 (a : Int), .int .u64 (b : Int), .int .i64 n, .int .i64 h] from HX5.out.drew)
    have HXB := hid (HXA.out.alloc (.cells #[.int .u64 (a : Int), .int .u64 (b : Int), .int .i64 n, .int .i64 h] 51))
    have HN0 := hid (Blk.new w5.drew [.int .u64 (a : Int), .int .u64 (b : Int), .int .i64 n, .int .i64 h] 51)
    have y0 := HX5.out.cellv (i := 0) rfl
    have y1 := HX5.out.cellv (i := 1) rfl
    have y2 := HX5.out.cellv (i := 2) rfl
    have y3 := HX5.out.cellv (i := 3) rfl
    go_region_held3 (fun w' => w'.cell? ⟨w.heap.size, 0, none⟩ = some (.int .u64 (a : Int)) ∧ w'.cell? ⟨w.heap.size, 1, none⟩ = some (.int .u64 (b : Int)) ∧ w'.cell? ⟨w.heap.size, 2, none⟩ = some (.int .i64 n) ∧ w'.cell? ⟨w.heap.size, 3, none⟩ = some (.int .i64 h)) (first | go_keep | (refine ⟨?_, ?_, ?_, ?_⟩ <;> assumption))
        (first
          | (refine step_append_rd (by rfl) (.const (.slice none 0 0)) (.tmp 46) 40 (by rfl) 51 _ 4 32 Try.underlying40 rt_row (by rfl) (by decide) (w.heap.size + 1) _ 0 [] (by rfl) (Owns.nil _ _ _ _) _ (by rfl) ([] : List Rt) (Rd.empty' _ _ _ _ (by rfl) (by unfold maxLen; omega) (fun _ => rfl)) rtEn_length cells_rt (by simp [maxLen]) (by simp) (by simp; omega) ?_
             intro v1 w1 hO1 hC1
             have HB1 := hid (show Below w.heap.size w w1 by first | exact HBA.out.trans (hC1.below HBA.out.size (fun i hi h => by cases h)) | exact HBB.out.trans (hC1.below HBB.out.size (fun i hi h => by cases h)))
             have HX1 := hid (show Blk w1 w.heap.size 51 [.int .u64 (a : Int), .int .u64 (b : Int), .int .i64 n, .int .i64 h] by first | exact HXA.out.chg hC1 (fun h => by cases h) | exact HXB.out.chg hC1 (fun h => by cases h))
             have HO1 := hid hO1
             have HC1 := hid hC1
             have k0 := HX1.out.cellv (i := 0) rfl
             have k1 := HX1.out.cellv (i := 1) rfl
             have k2 := HX1.out.cellv (i := 2) rfl
             have k3 := HX1.out.cellv (i := 3) rfl
             have hs1 := HB1.out.size
             have hx1 := HX1.out.lt
             clear hO1 hC1)
          | (refine step_append_rd (by rfl) (.tmp 47) (.tmp 49) 40 (by rfl) 51 _ 4 32 Try.underlying40 rt_row (by rfl) (by decide) (w.heap.size + 1) _ (0 + ([] : List Rt).length) _ (by rfl) (by first | exact HO1.out | exact HO1.out.below ((Below.refl _ _).alloc (Nat.le_refl _) _)) _ (by rfl) [(((a, b), n), h)] (by first | exact Rd.of_blk (en := rtEn) (l := [(((a, b), n), h)]) (Blk.new w1 [.int .u64 (a : Int), .int .u64 (b : Int), .int .i64 n, .int .i64 h] 51) rtEn_length (by unfold maxLen; simp) | exact Rd.of_blk (en := rtEn) (l := [(((a, b), n), h)]) (HN0.out.chg HC1.out (fun h => by cases h)) rtEn_length (by unfold maxLen; simp)) rtEn_length cells_rt (by unfold maxLen; simp only [List.length_singleton, List.length_nil]; omega) (by simp only [List.length_singleton, List.length_nil]; omega) (by first | (simp; omega) | omega) ?_
             intro v2 w2 hO2 hC2
             have HC2 := hid (show Chg (fun g => v1.ownBlock = some g) w1 w2 by first | exact hC2 | exact (((Chg.refl _ w1).alloc _).trans' hC2))
             have HNE := hid (fun g (h : v1.ownBlock = some g) => (HO1.out.base_le g h).1)
             have HB2 := hid (HB1.out.trans (HC2.out.below HB1.out.size (fun i hi h => by have := HNE.out i h; omega)))
             have HX2 := hid (HX1.out.chg HC2.out (fun h => by have := HNE.out _ h; omega))
             have HO2 := hid hO2
             have k0 := HX2.out.cellv (i := 0) rfl
             have k1 := HX2.out.cellv (i := 1) rfl
             have k2 := HX2.out.cellv (i := 2) rfl
             have k3 := HX2.out.cellv (i := 3) rfl
             have hs2 := HB2.out.size
             have hx2 := HX2.out.lt
             clear hO2 hC2)
          | (refine step_append_rd (by rfl) (.tmp 50) (.tmp 53) 40 (by rfl) 51 _ 4 32 Try.underlying40 rt_row (by rfl) (by decide) (w.heap.size + 1) _ (0 + ([] : List Rt).length + 1) _ (by rfl) HO2.out _ (by rfl) ([] : List Rt) ?_ rtEn_length cells_rt (by simp [maxLen]) (by simp) (by omega) ?_
             · exact Rd.empty' _ _ _ _ (by rfl) (by unfold maxLen; omega) (fun _ => rfl)
             intro v3 w3 hO3 hC3
             have HNE2 := hid (fun g (h : v2.ownBlock = some g) => (HO2.out.base_le g h).1)
             have HB3 := hid (HB2.out.trans (hC3.below HB2.out.size (fun i hi h => by have := HNE2.out i h; omega)))
             have HX3 := hid (HX2.out.chg hC3 (fun h => by have := HNE2.out _ h; omega))
             have HO3 := hid hO3
             have k0 := HX3.out.cellv (i := 0) rfl
             have k1 := HX3.out.cellv (i := 1) rfl
             have k2 := HX3.out.cellv (i := 2) rfl
             have k3 := HX3.out.cellv (i := 3) rfl
             clear hO3 hC3))
    all_goals
      go_wp2_with fail
      go_ret
      refine ⟨_, rfl, ?_, HB3.out⟩
      exact HO3.out.lower (show w.heap.size ≤ w.heap.size + 1 by omega)

set_option maxHeartbeats 1000000 in
theorem ref_into (w : World) (v : Value) (l : List Rt) (hR : Rd rtEn 4 w v l) (hlen : l.length ≤ 100000) (r : Rt) :
    Calls Try.prog 33 #[v, .agg #[.int .u64 (r.1.1.1 : Int), .int .u64 (r.1.1.2 : Int), .int .i64 r.1.2, .int .i64 r.2]] w (RetRts w (intoL l r)) := by
  have hg := guard_pf
  have HRd := hid hR
  have HR := hid fun k x (h : l[k]? = some x) => hR.get rtEn_length (by decide) h
  obtain ⟨A, cap, rfl, n1, m1, _, hnil⟩ := hR
  by_cases hc0 : cap = 0
  · subst hc0
    obtain rfl : l = [] := List.eq_nil_of_length_eq_zero (by omega)
    exact ref_into_nil w A r
  obtain ⟨ad, rfl⟩ : ∃ ad, A = some ad := by
    cases A with
    | none => exact absurd (hnil rfl) hc0
    | some ad => exact ⟨ad, rfl⟩
  unfold maxLen at m1
  clear hnil
  obtain ⟨⟨⟨a, b⟩, n⟩, h⟩ := r
  go_enter Try.func33, Try.ntmps33
  go_wp2_with fail
  go_loopw [5] (fun i wr => IntoRel w (((a, b), n), h) l i wr) (fun i _ => l.length - (intOf i).toNat)
  case atStart => exact ⟨0, Nat.zero_le _, rfl, fun j x hj => by omega, Blk.new_at w #[.int .u64 (a : Int), .int .u64 (b : Int), .int .i64 n, .int .i64 h] 51 _ rfl, (Below.refl _ _).alloc (Nat.le_refl _) _⟩
  case round =>
    obtain ⟨k, hk, rfl, hlow, hX, hB⟩ := hrel
    have x0 := hX.cellv (i := 0) rfl
    have x1 := hX.cellv (i := 1) rfl
    have x2 := hX.cellv (i := 2) rfl
    have HLO := hid hlow
    have HX := hid hX
    have HB := hid hB
    by_cases hlt : k < l.length
    · have g1 : l[k]? = some l[k] := List.getElem?_eq_getElem hlt
      generalize l[k] = x at g1
      obtain ⟨ba, oa, ca, ha, _, _, la, sa⟩ := HR.out k x g1
      injection ha with ha hx1 hc1
      injection ha with ha
      subst ha hc1
      clear hx1
      have u0 : wr.cell? ⟨ba, oa + k * 4, none⟩ = some (.int .u64 (x.1.1.1 : Int)) := (hB.cell (p := ⟨ba, oa + k * 4, none⟩) la).trans (sa 0 _ rfl)
      have u1 : wr.cell? ⟨ba, oa + k * 4 + 1, none⟩ = some (.int .u64 (x.1.1.2 : Int)) := (hB.cell (p := ⟨ba, oa + k * 4 + 1, none⟩) la).trans (sa 1 _ rfl)
      have u2 : wr.cell? ⟨ba, oa + k * 4 + 2, none⟩ = some (.int .i64 x.1.2) := (hB.cell (p := ⟨ba, oa + k * 4 + 2, none⟩) la).trans (sa 2 _ rfl)
      have lar : ba < wr.heap.size := Nat.lt_of_lt_of_le la hB.size
      obtain ⟨lb, hlb⟩ : ∃ lb : Bool, lb = decide (x.1.lt ((a, b), n)) := ⟨_, rfl⟩
      have cl := hid fun w => ref_less x.1 ((a, b), n) lb hlb w
      have HLB := hid hlb
      have G1 := hid g1
      clear g1 sa hlow hX hB hlb
      obtain ⟨⟨⟨xa, xb⟩, xn⟩, xh⟩ := x
      go_wp2_with fail
      refine wp_region_later (fun w' => w'.cell? ⟨w.heap.size, 0, none⟩ = some (.int .u64 (a : Int)) ∧ w'.cell? ⟨w.heap.size, 1, none⟩ = some (.int .u64 (b : Int)) ∧ w'.cell? ⟨w.heap.size, 2, none⟩ = some (.int .i64 n) ∧
          w'.cell? ⟨ba, oa + k * 4, none⟩ = some (.int .u64 (xa : Int)) ∧ w'.cell? ⟨ba, oa + k * 4 + 1, none⟩ = some (.int .u64 (xb : Int)) ∧ w'.cell? ⟨ba, oa + k * 4 + 2, none⟩ = some (.int .i64 xn))
        (fun x => ⟨x.cell x0, x.cell x1, x.cell x2, x.cell u0, x.cell u1, x.cell u2⟩) (by kernel_rfl) (by kernel_rfl) (fun HS => ?_)
      repeat (go_big_quiet_step (with_reducible exact Later.calls _ (cl.out _)))
      refine wpQuiet_nil ?_
      rintro w4 ⟨⟨_, hb4⟩, rfl⟩
      have HX4 := hid (HX.out.below' hb4)
      have HB4 := hid (held_next HB.out hb4)
      have x0 := HX4.out.cellv (i := 0) rfl
      have x1 := HX4.out.cellv (i := 1) rfl
      have x2 := HX4.out.cellv (i := 2) rfl
      have x3 := HX4.out.cellv (i := 3) rfl
      have u0 := (hb4.cell (p := ⟨ba, oa + k * 4, none⟩) lar).trans u0
      have u1 := (hb4.cell (p := ⟨ba, oa + k * 4 + 1, none⟩) lar).trans u1
      have u2 := (hb4.cell (p := ⟨ba, oa + k * 4 + 2, none⟩) lar).trans u2
      clear HS hb4 HX HB
      cases lb
      · by_cases he : (((xa, xb), xn) : Pf) = ((a, b), n)
        · have hbe := pf_beq ((xa, xb), xn) ((a, b), n)
          rw [decide_eq_true he] at hbe
          have HE := hid he
          clear he
          go_wp2_with fail
          go_quiet (fail)
          go_wp2_with (at_builtin; refine wpList_append_rd rfl (.const (.slice none 0 0)) _ 40 rfl 51 _ 4 32 Try.underlying40 rt_row rfl (by decide) (w.heap.size + 1) _ 0 [] rfl (Owns.nil _ _ _ _) _ rfl l (HRd.out.below rtEn_length (HB4.out.drewN _)) rtEn_length cells_rt ?c1 ?c2 ?c3 ?_)
          case c1 => unfold maxLen; omega
          case c2 => omega
          case c3 => have := HX4.out.lt; simp; omega
          intro v1 w6 hO6 hC6
          have HB6 := hid ((HB4.out.drewN nq).trans (hC6.below (by have := HB4.out.size; simp; omega) (fun i hi h => by cases h)))
          have HX6 := hid ((HX4.out.drewN nq).chg hC6 (fun h => by cases h))
          obtain ⟨A6, cap6, rfl, _, _, hf6⟩ := hO6.form
          obtain ⟨g6, rfl, hg6, hg6l, hcell6⟩ := hf6 (by omega)
          have HFS := hid (flat_set (en := rtEn) rtEn_length l k (((a, b), n), h) hlt)
          have HO6 := hid hO6
          have hflen := flat_len (en := rtEn) rtEn_length l
          have z0 := hcell6 (k * 4) (by omega)
          have z1 := hcell6 (k * 4 + 1) (by omega)
          have z2 := hcell6 (k * 4 + 2) (by omega)
          have z3 := hcell6 (k * 4 + 3) (by omega)
          have e0 := flat_get (en := rtEn) rtEn_length l k _ G1.out 0 (by decide)
          have e1 := flat_get (en := rtEn) rtEn_length l k _ G1.out 1 (by decide)
          have e2 := flat_get (en := rtEn) rtEn_length l k _ G1.out 2 (by decide)
          have e3 := flat_get (en := rtEn) rtEn_length l k _ G1.out 3 (by decide)
          rw [Nat.add_zero] at e0
          rw [e0] at z0
          rw [e1] at z1
          rw [e2] at z2
          rw [e3] at z3
          simp only [rtEn, List.getElem?_cons_zero, List.getElem?_cons_succ] at z0 z1 z2 z3
          have zf := hO6.cells.2.2
          have f0 := zf (k * 4)
          have f1 := zf (k * 4 + 1)
          have f2 := zf (k * 4 + 2)
          have f3 := zf (k * 4 + 3)
          have y0 := HX6.out.cellv (i := 0) rfl
          have y1 := HX6.out.cellv (i := 1) rfl
          have y2 := HX6.out.cellv (i := 2) rfl
          have y3 := HX6.out.cellv (i := 3) rfl
          have hne6 : g6 ≠ w.heap.size := by omega
          have HFL := hid hflen
          have HSET := hid ((into_at (r := (((a, b), n), h)) (l := l) (k := k) (by omega) HLO.out (fun z hz => by have h1 := G1.out; rw [hz] at h1; injection h1 with h1; subst h1; exact of_decide_eq_false HLB.out.symm)).2 _ G1.out HE.out)
          clear hf6 hcell6 hO6 hC6 zf e0 e1 e2 e3 hflen x0 x1 x2 x3 u0 u1 u2
          go_wp2_with fail
          go_ret
          refine ⟨_, rfl, ?_, ?_⟩
          · unfold OwnRts
            rw [HSET.out, List.length_set]
            have h1 := (((((HO6.out.lower (show w.heap.size ≤ w.heap.size + 1 by omega)).store (k * 4) (.int .u64 (a : Int))).store (k * 4 + 1) (.int .u64 (b : Int))).store (k * 4 + 2) (.int .i64 n)).store (k * 4 + 3) (.int .i64 h))
            rw [set4 _ _ _ _ (k * 4) _ (by have := HFL.out; omega)] at h1
            have e := HFS.out
            unfold rtsV
            rw [e]
            exact h1
          · exact (((HB6.out.setCell (by simp; omega) _).setCell (by simp; omega) _).setCell (by simp; omega) _).setCell (by simp; omega) _
        · have hbe := pf_beq ((xa, xb), xn) ((a, b), n)
          rw [decide_eq_false he] at hbe
          have HE := hid he
          clear he
          go_wp2_with fail
          go_quiet (fail)
          go_wp2_with fail
          refine gen_w (fun w5 hw5 => ?_)
          have HB5 := hid (show Below w.heap.size w w5 by rw [hw5]; exact HB4.out.drewN _)
          have HX5 := hid (show Blk w5 w.heap.size 51 [.int .u64 (a : Int), .int .u64 (b : Int), .int .i64 n, .int .i64 h] by rw [hw5]; exact HX4.out.drewN _)
          clear hw5
          have hs5 := HB5.out.size
          have hx5 := HX5.out.lt
          have HBA := hid (show Below w.heap.size w w5.drew from HB5.out.drew)
          have HBB := hid (show Below w.heap.size w (w5.drew.alloc (.cells #[.int .u64 (a : Int), .int .u64 (b : Int), .int .i64 n, .int .i64 h] 51)) from HB5.out.drew.alloc hs5 _)
          have HXA := hid (show Blk w5.drew w.heap.size 51 [.int .u64 (a : Int), .int .u64 (b : Int), .int .i64 n, .int .i64 h] from HX5.out.drew)
          have HXB := hid (HXA.out.alloc (.cells #[.int .u64 (a : Int), .int .u64 (b : Int), .int .i64 n, .int .i64 h] 51))
          have HN0 := hid (Blk.new w5.drew [.int .u64 (a : Int), .int .u64 (b : Int), .int .i64 n, .int .i64 h] 51)
          have y0 := HX5.out.cellv (i := 0) rfl
          have y1 := HX5.out.cellv (i := 1) rfl
          have y2 := HX5.out.cellv (i := 2) rfl
          have y3 := HX5.out.cellv (i := 3) rfl
          have hk0 : (0 : Int) ≤ (k : Int) := by omega
          have hkn : (k : Int) ≤ (l.length : Int) := by omega
          have hkc : (k : Int) ≤ (cap : Int) := by omega
          have hnc : (l.length : Int) ≤ (cap : Int) := by omega
          have HTL := hid (show (l.take k).length = k by rw [List.length_take]; omega)
          have HDL := hid (show (l.drop k).length = l.length - k from List.length_drop)
          have HTK := hid (Rd.takeS HRd.out k (by omega))
          have HDR := hid (Rd.dropS HRd.out k (by omega))
          have hcapk : ¬ cap = k := by omega
          have HINS := hid ((into_at (r := (((a, b), n), h)) (l := l) (k := k) (by omega) HLO.out (fun z hz => by have h1 := G1.out; rw [hz] at h1; injection h1 with h1; subst h1; exact of_decide_eq_false HLB.out.symm)).1 (fun z hz => by have h1 := G1.out; rw [hz] at h1; injection h1 with h1; subst h1; exact HE.out))
          go_region_held3 (fun w' => w'.cell? ⟨w.heap.size, 0, none⟩ = some (.int .u64 (a : Int)) ∧ w'.cell? ⟨w.heap.size, 1, none⟩ = some (.int .u64 (b : Int)) ∧ w'.cell? ⟨w.heap.size, 2, none⟩ = some (.int .i64 n) ∧ w'.cell? ⟨w.heap.size, 3, none⟩ = some (.int .i64 h)) (first | go_keep | (refine ⟨?_, ?_, ?_, ?_⟩ <;> assumption))
            (first
              | (refine step_append_rd (by rfl) (.const (.slice none 0 0)) (.tmp 46) 40 (by rfl) 51 _ 4 32 Try.underlying40 rt_row (by rfl) (by decide) (w.heap.size + 1) _ 0 [] (by rfl) (Owns.nil _ _ _ _) _ (by rfl) (l.take k) (HTK.out.below rtEn_length (by first | exact HBA.out | exact HBB.out)) rtEn_length cells_rt (by have h1 := HTL.out; unfold maxLen; omega) (by have h1 := HTL.out; omega) (by simp; omega) ?_
                 intro v1 w1 hO1 hC1
                 have HB1 := hid (show Below w.heap.size w w1 by first | exact HBA.out.trans (hC1.below HBA.out.size (fun i hi h => by cases h)) | exact HBB.out.trans (hC1.below HBB.out.size (fun i hi h => by cases h)))
                 have HX1 := hid (show Blk w1 w.heap.size 51 [.int .u64 (a : Int), .int .u64 (b : Int), .int .i64 n, .int .i64 h] by first | exact HXA.out.chg hC1 (fun h => by cases h) | exact HXB.out.chg hC1 (fun h => by cases h))
                 have HO1 := hid hO1
                 have HC1 := hid hC1
                 have k0 := HX1.out.cellv (i := 0) rfl
                 have k1 := HX1.out.cellv (i := 1) rfl
                 have k2 := HX1.out.cellv (i := 2) rfl
                 have k3 := HX1.out.cellv (i := 3) rfl
                 have hs1 := HB1.out.size
                 have hx1 := HX1.out.lt
                 clear hO1 hC1)
              | (refine step_append_rd (by rfl) (.tmp 47) (.tmp 49) 40 (by rfl) 51 _ 4 32 Try.underlying40 rt_row (by rfl) (by decide) (w.heap.size + 1) _ (0 + (l.take k).length) _ (by rfl) (by first | exact HO1.out | exact HO1.out.below ((Below.refl _ _).alloc (Nat.le_refl _) _)) _ (by rfl) [(((a, b), n), h)] (by first | exact Rd.of_blk (en := rtEn) (l := [(((a, b), n), h)]) (Blk.new w1 [.int .u64 (a : Int), .int .u64 (b : Int), .int .i64 n, .int .i64 h] 51) rtEn_length (by unfold maxLen; simp) | exact Rd.of_blk (en := rtEn) (l := [(((a, b), n), h)]) (HN0.out.chg HC1.out (fun h => by cases h)) rtEn_length (by unfold maxLen; simp)) rtEn_length cells_rt (by have h1 := HTL.out; unfold maxLen; simp only [List.length_singleton]; omega) (by have h1 := HTL.out; simp only [List.length_singleton]; omega) (by first | (simp; omega) | omega) ?_
                 intro v2 w2 hO2 hC2
                 have HC2 := hid (show Chg (fun g => v1.ownBlock = some g) w1 w2 by first | exact hC2 | exact (((Chg.refl _ w1).alloc _).trans' hC2))
                 have HNE := hid (fun g (h : v1.ownBlock = some g) => (HO1.out.base_le g h).1)
                 have HB2 := hid (HB1.out.trans (HC2.out.below HB1.out.size (fun i hi h => by have := HNE.out i h; omega)))
                 have HX2 := hid (HX1.out.chg HC2.out (fun h => by have := HNE.out _ h; omega))
                 have HO2 := hid hO2
                 have k0 := HX2.out.cellv (i := 0) rfl
                 have k1 := HX2.out.cellv (i := 1) rfl
                 have k2 := HX2.out.cellv (i := 2) rfl
                 have k3 := HX2.out.cellv (i := 3) rfl
                 have hs2 := HB2.out.size
                 have hx2 := HX2.out.lt
                 clear hO2 hC2)
              | (refine step_append_rd (by rfl) (.tmp 50) (.tmp 53) 40 (by rfl) 51 _ 4 32 Try.underlying40 rt_row (by rfl) (by decide) (w.heap.size + 1) _ (0 + (l.take k).length + 1) _ (by rfl) HO2.out _ (by rfl) (l.drop k) (HDR.out.below rtEn_length HB2.out) rtEn_length cells_rt (by have h1 := HTL.out; have h2 := HDL.out; unfold maxLen; omega) (by have h1 := HTL.out; have h2 := HDL.out; omega) (by omega) ?_
                 intro v3 w3 hO3 hC3
                 have HNE2 := hid (fun g (h : v2.ownBlock = some g) => (HO2.out.base_le g h).1)
                 have HB3 := hid (HB2.out.trans (hC3.below HB2.out.size (fun i hi h => by have := HNE2.out i h; omega)))
                 have HX3 := hid (HX2.out.chg hC3 (fun h => by have := HNE2.out _ h; omega))
                 have HO3 := hid hO3
                 have k0 := HX3.out.cellv (i := 0) rfl
                 have k1 := HX3.out.cellv (i := 1) rfl
                 have k2 := HX3.out.cellv (i := 2) rfl
                 have k3 := HX3.out.cellv (i := 3) rfl
                 clear hO3 hC3))
          all_goals
            go_wp2_with fail
            go_ret
            refine ⟨_, rfl, ?_, HB3.out⟩
            have h1 := HO3.out.lower (show w.heap.size ≤ w.heap.size + 1 by omega)
            rw [show intoL l (((a, b), n), h) = l.take k ++ ((((a, b), n), h) :: l.drop k) from HINS.out]
            unfold OwnRts
            have e1 : (l.take k ++ ((((a, b), n), h) :: l.drop k)).length = 0 + (l.take k).length + 1 + (l.drop k).length := by simp; omega
            have e2 : rtsV (l.take k ++ ((((a, b), n), h) :: l.drop k)) = [] ++ (l.take k).flatMap rtEn ++ [(((a, b), n), h)].flatMap rtEn ++ (l.drop k).flatMap rtEn := by simp [rtsV]
            rw [e1, e2]
            exact h1
      · go_wp2_with fail
        go_roundw
        case rel =>
          refine ⟨k + 1, by omega, by go_num, fun j z hj hz => ?_, HX4.out, HB4.out⟩
          by_cases e : j = k
          · subst e
            have h1 := G1.out
            rw [hz] at h1
            injection h1 with h1
            subst h1
            exact of_decide_eq_true HLB.out.symm
          · exact HLO.out j z (by omega) hz
        case measure => simp [intOf]; omega
    · clear hX hB
      go_wp2_with fail
      go_quiet (fail)
      go_wp2_with fail
      go_quiet (fail)
      go_wp2_with fail
      refine gen_w (fun w5 hw5 => ?_)
      have HB5 := hid (show Below w.heap.size w w5 by rw [hw5]; exact (HB.out.drewN _).drewN _)
      have HX5 := hid (show Blk w5 w.heap.size 51 [.int .u64 (a : Int), .int .u64 (b : Int), .int .i64 n, .int .i64 h] by rw [hw5]; exact (HX.out.drewN _).drewN _)
      clear hw5
      have hs5 := HB5.out.size
      have hx5 := HX5.out.lt
      have HBA := hid (show Below w.heap.size w w5.drew from HB5.out.drew)
      have HBB := hid (show Below w.heap.size w (w5.drew.alloc (.cells #[.int .u64 (a : Int), .int .u64 (b : Int), .int .i64 n, .int .i64 h] 51)) from HB5.out.drew.alloc hs5 _)
      have HXA := hid (show Blk w5.drew w.heap.size 51 [.int .u64 (a : Int), .int .u64 (b : Int), .int .i64 n, .int .i64 h] from HX5.out.drew)
      have HXB := hid (HXA.out.alloc (.cells #[.int .u64 (a : Int), .int .u64 (b : Int), .int .i64 n, .int .i64 h] 51))
      have HN0 := hid (Blk.new w5.drew [.int .u64 (a : Int), .int .u64 (b : Int), .int .i64 n, .int .i64 h] 51)
      have y0 := HX5.out.cellv (i := 0) rfl
      have y1 := HX5.out.cellv (i := 1) rfl
      have y2 := HX5.out.cellv (i := 2) rfl
      have y3 := HX5.out.cellv (i := 3) rfl
      have hk0 : (0 : Int) ≤ (k : Int) := by omega
      have hkn : (k : Int) ≤ (l.length : Int) := by omega
      have hkc : (k : Int) ≤ (cap : Int) := by omega
      have hnc : (l.length : Int) ≤ (cap : Int) := by omega
      have HTL := hid (show (l.take k).length = k by rw [List.length_take]; omega)
      have HDL := hid (show (l.drop k).length = l.length - k from List.length_drop)
      have HD0 := hid (show l.drop k = [] from List.drop_eq_nil_of_le (by omega))
      have HTK := hid (Rd.takeS HRd.out k (by omega))
      have HINS := hid ((into_at (r := (((a, b), n), h)) (l := l) (k := k) (by omega) HLO.out (fun z hz => by rw [List.getElem?_eq_none (by omega)] at hz; cases hz)).1 (fun z hz => by rw [List.getElem?_eq_none (by omega)] at hz; cases hz))
      have hck' : k = cap ∨ ¬ cap = k := by omega
      rcases hck' with hck | hck
      · subst hck
        go_region_held3 (fun w' => w'.cell? ⟨w.heap.size, 0, none⟩ = some (.int .u64 (a : Int)) ∧ w'.cell? ⟨w.heap.size, 1, none⟩ = some (.int .u64 (b : Int)) ∧ w'.cell? ⟨w.heap.size, 2, none⟩ = some (.int .i64 n) ∧ w'.cell? ⟨w.heap.size, 3, none⟩ = some (.int .i64 h)) (first | go_keep | (refine ⟨?_, ?_, ?_, ?_⟩ <;> assumption))
          (first
            | (refine step_append_rd (by rfl) (.const (.slice none 0 0)) (.tmp 46) 40 (by rfl) 51 _ 4 32 Try.underlying40 rt_row (by rfl) (by decide) (w.heap.size + 1) _ 0 [] (by rfl) (Owns.nil _ _ _ _) _ (by rfl) (l.take k) (HTK.out.below rtEn_length (by first | exact HBA.out | exact HBB.out)) rtEn_length cells_rt (by have h1 := HTL.out; unfold maxLen; omega) (by have h1 := HTL.out; omega) (by simp; omega) ?_
               intro v1 w1 hO1 hC1
               have HB1 := hid (show Below w.heap.size w w1 by first | exact HBA.out.trans (hC1.below HBA.out.size (fun i hi h => by cases h)) | exact HBB.out.trans (hC1.below HBB.out.size (fun i hi h => by cases h)))
               have HX1 := hid (show Blk w1 w.heap.size 51 [.int .u64 (a : Int), .int .u64 (b : Int), .int .i64 n, .int .i64 h] by first | exact HXA.out.chg hC1 (fun h => by cases h) | exact HXB.out.chg hC1 (fun h => by cases h))
               have HO1 := hid hO1
               have HC1 := hid hC1
               have k0 := HX1.out.cellv (i := 0) rfl
               have k1 := HX1.out.cellv (i := 1) rfl
               have k2 := HX1.out.cellv (i := 2) rfl
               have k3 := HX1.out.cellv (i := 3) rfl
               have hs1 := HB1.out.size
               have hx1 := HX1.out.lt
               clear hO1 hC1)
            | (refine step_append_rd (by rfl) (.tmp 47) (.tmp 49) 40 (by rfl) 51 _ 4 32 Try.underlying40 rt_row (by rfl) (by decide) (w.heap.size + 1) _ (0 + (l.take k).length) _ (by rfl) (by first | exact HO1.out | exact HO1.out.below ((Below.refl _ _).alloc (Nat.le_refl _) _)) _ (by rfl) [(((a, b), n), h)] (by first | exact Rd.of_blk (en := rtEn) (l := [(((a, b), n), h)]) (Blk.new w1 [.int .u64 (a : Int), .int .u64 (b : Int), .int .i64 n, .int .i64 h] 51) rtEn_length (by unfold maxLen; simp) | exact Rd.of_blk (en := rtEn) (l := [(((a, b), n), h)]) (HN0.out.chg HC1.out (fun h => by cases h)) rtEn_length (by unfold maxLen; simp)) rtEn_length cells_rt (by have h1 := HTL.out; unfold maxLen; simp only [List.length_singleton]; omega) (by have h1 := HTL.out; simp only [List.length_singleton]; omega) (by first | (simp; omega) | omega) ?_
               intro v2 w2 hO2 hC2
               have HC2 := hid (show Chg (fun g => v1.ownBlock = some g) w1 w2 by first | exact hC2 | exact (((Chg.refl _ w1).alloc _).trans' hC2))
               have HNE := hid (fun g (h : v1.ownBlock = some g) => (HO1.out.base_le g h).1)
               have HB2 := hid (HB1.out.trans (HC2.out.below HB1.out.size (fun i hi h => by have := HNE.out i h; omega)))
               have HX2 := hid (HX1.out.chg HC2.out (fun h => by have := HNE.out _ h; omega))
               have HO2 := hid hO2
               have k0 := HX2.out.cellv (i := 0) rfl
               have k1 := HX2.out.cellv (i := 1) rfl
               have k2 := HX2.out.cellv (i := 2) rfl
               have k3 := HX2.out.cellv (i := 3) rfl
               have hs2 := HB2.out.size
               have hx2 := HX2.out.lt
               clear hO2 hC2)
            | (refine step_append_rd (by rfl) (.tmp 50) (.tmp 53) 40 (by rfl) 51 _ 4 32 Try.underlying40 rt_row (by rfl) (by decide) (w.heap.size + 1) _ (0 + (l.take k).length + 1) _ (by rfl) HO2.out _ (by rfl) (l.drop k) ?_ rtEn_length cells_rt (by have h1 := HTL.out; have h2 := HDL.out; unfold maxLen; omega) (by have h1 := HTL.out; have h2 := HDL.out; omega) (by omega) ?_
               · rw [HD0.out]; exact Rd.empty' _ _ _ _ (by omega) (by unfold maxLen; omega) (by first | (intro h; cases h; done) | (intro h; rfl) | (intro h; omega))
               intro v3 w3 hO3 hC3
               have HNE2 := hid (fun g (h : v2.ownBlock = some g) => (HO2.out.base_le g h).1)
               have HB3 := hid (HB2.out.trans (hC3.below HB2.out.size (fun i hi h => by have := HNE2.out i h; omega)))
               have HX3 := hid (HX2.out.chg hC3 (fun h => by have := HNE2.out _ h; omega))
               have HO3 := hid hO3
               have k0 := HX3.out.cellv (i := 0) rfl
               have k1 := HX3.out.cellv (i := 1) rfl
               have k2 := HX3.out.cellv (i := 2) rfl
               have k3 := HX3.out.cellv (i := 3) rfl
               clear hO3 hC3))
        all_goals
          go_wp2_with fail
          go_ret
          refine ⟨_, rfl, ?_, HB3.out⟩
          have h1 := HO3.out.lower (show w.heap.size ≤ w.heap.size + 1 by omega)
          rw [show intoL l (((a, b), n), h) = l.take k ++ ((((a, b), n), h) :: l.drop k) from HINS.out]
          unfold OwnRts
          have e1 : (l.take k ++ ((((a, b), n), h) :: l.drop k)).length = 0 + (l.take k).length + 1 + (l.drop k).length := by simp; omega
          have e2 : rtsV (l.take k ++ ((((a, b), n), h) :: l.drop k)) = [] ++ (l.take k).flatMap rtEn ++ [(((a, b), n), h)].flatMap rtEn ++ (l.drop k).flatMap rtEn := by simp [rtsV]
          rw [e1, e2]
          exact h1
      · go_region_held3 (fun w' => w'.cell? ⟨w.heap.size, 0, none⟩ = some (.int .u64 (a : Int)) ∧ w'.cell? ⟨w.heap.size, 1, none⟩ = some (.int .u64 (b : Int)) ∧ w'.cell? ⟨w.heap.size, 2, none⟩ = some (.int .i64 n) ∧ w'.cell? ⟨w.heap.size, 3, none⟩ = some (.int .i64 h)) (first | go_keep | (refine ⟨?_, ?_, ?_, ?_⟩ <;> assumption))
          (first
            | (refine step_append_rd (by rfl) (.const (.slice none 0 0)) (.tmp 46) 40 (by rfl) 51 _ 4 32 Try.underlying40 rt_row (by rfl) (by decide) (w.heap.size + 1) _ 0 [] (by rfl) (Owns.nil _ _ _ _) _ (by rfl) (l.take k) (HTK.out.below rtEn_length (by first | exact HBA.out | exact HBB.out)) rtEn_length cells_rt (by have h1 := HTL.out; unfold maxLen; omega) (by have h1 := HTL.out; omega) (by simp; omega) ?_
               intro v1 w1 hO1 hC1
               have HB1 := hid (show Below w.heap.size w w1 by first | exact HBA.out.trans (hC1.below HBA.out.size (fun i hi h => by cases h)) | exact HBB.out.trans (hC1.below HBB.out.size (fun i hi h => by cases h)))
               have HX1 := hid (show Blk w1 w.heap.size 51 [.int .u64 (a : Int), .int .u64 (b : Int), .int .i64 n, .int .i64 h] by first | exact HXA.out.chg hC1 (fun h => by cases h) | exact HXB.out.chg hC1 (fun h => by cases h))
               have HO1 := hid hO1
               have HC1 := hid hC1
               have k0 := HX1.out.cellv (i := 0) rfl
               have k1 := HX1.out.cellv (i := 1) rfl
               have k2 := HX1.out.cellv (i := 2) rfl
               have k3 := HX1.out.cellv (i := 3) rfl
               have hs1 := HB1.out.size
               have hx1 := HX1.out.lt
               clear hO1 hC1)
            | (refine step_append_rd (by rfl) (.tmp 47) (.tmp 49) 40 (by rfl) 51 _ 4 32 Try.underlying40 rt_row (by rfl) (by decide) (w.heap.size + 1) _ (0 + (l.take k).length) _ (by rfl) (by first | exact HO1.out | exact HO1.out.below ((Below.refl _ _).alloc (Nat.le_refl _) _)) _ (by rfl) [(((a, b), n), h)] (by first | exact Rd.of_blk (en := rtEn) (l := [(((a, b), n), h)]) (Blk.new w1 [.int .u64 (a : Int), .int .u64 (b : Int), .int .i64 n, .int .i64 h] 51) rtEn_length (by unfold maxLen; simp) | exact Rd.of_blk (en := rtEn) (l := [(((a, b), n), h)]) (HN0.out.chg HC1.out (fun h => by cases h)) rtEn_length (by unfold maxLen; simp)) rtEn_length cells_rt (by have h1 := HTL.out; unfold maxLen; simp only [List.length_singleton]; omega) (by have h1 := HTL.out; simp only [List.length_singleton]; omega) (by first | (simp; omega) | omega) ?_
               intro v2 w2 hO2 hC2
               have HC2 := hid (show Chg (fun g => v1.ownBlock = some g) w1 w2 by first | exact hC2 | exact (((Chg.refl _ w1).alloc _).trans' hC2))
               have HNE := hid (fun g (h : v1.ownBlock = some g) => (HO1.out.base_le g h).1)
               have HB2 := hid (HB1.out.trans (HC2.out.below HB1.out.size (fun i hi h => by have := HNE.out i h; omega)))
               have HX2 := hid (HX1.out.chg HC2.out (fun h => by have := HNE.out _ h; omega))
               have HO2 := hid hO2
               have k0 := HX2.out.cellv (i := 0) rfl
               have k1 := HX2.out.cellv (i := 1) rfl
               have k2 := HX2.out.cellv (i := 2) rfl
               have k3 := HX2.out.cellv (i := 3) rfl
               have hs2 := HB2.out.size
               have hx2 := HX2.out.lt
               clear hO2 hC2)
            | (refine step_append_rd (by rfl) (.tmp 50) (.tmp 53) 40 (by rfl) 51 _ 4 32 Try.underlying40 rt_row (by rfl) (by decide) (w.heap.size + 1) _ (0 + (l.take k).length + 1) _ (by rfl) HO2.out _ (by rfl) (l.drop k) ?_ rtEn_length cells_rt (by have h1 := HTL.out; have h2 := HDL.out; unfold maxLen; omega) (by have h1 := HTL.out; have h2 := HDL.out; omega) (by omega) ?_
               · rw [HD0.out]; exact Rd.empty' _ _ _ _ (by omega) (by unfold maxLen; omega) (by first | (intro h; cases h; done) | (intro h; rfl) | (intro h; omega))
               intro v3 w3 hO3 hC3
               have HNE2 := hid (fun g (h : v2.ownBlock = some g) => (HO2.out.base_le g h).1)
               have HB3 := hid (HB2.out.trans (hC3.below HB2.out.size (fun i hi h => by have := HNE2.out i h; omega)))
               have HX3 := hid (HX2.out.chg hC3 (fun h => by have := HNE2.out _ h; omega))
               have HO3 := hid hO3
               have k0 := HX3.out.cellv (i := 0) rfl
               have k1 := HX3.out.cellv (i := 1) rfl
               have k2 := HX3.out.cellv (i := 2) rfl
               have k3 := HX3.out.cellv (i := 3) rfl
               clear hO3 hC3))
        all_goals
          go_wp2_with fail
          go_ret
          refine ⟨_, rfl, ?_, HB3.out⟩
          have h1 := HO3.out.lower (show w.heap.size ≤ w.heap.size + 1 by omega)
          rw [show intoL l (((a, b), n), h) = l.take k ++ ((((a, b), n), h) :: l.drop k) from HINS.out]
          unfold OwnRts
          have e1 : (l.take k ++ ((((a, b), n), h) :: l.drop k)).length = 0 + (l.take k).length + 1 + (l.drop k).length := by simp; omega
          have e2 : rtsV (l.take k ++ ((((a, b), n), h) :: l.drop k)) = [] ++ (l.take k).flatMap rtEn ++ [(((a, b), n), h)].flatMap rtEn ++ (l.drop k).flatMap rtEn := by simp [rtsV]
          rw [e1, e2]
          exact h1

end Go.Proofs.Ytjhgmjfjlndomaa
