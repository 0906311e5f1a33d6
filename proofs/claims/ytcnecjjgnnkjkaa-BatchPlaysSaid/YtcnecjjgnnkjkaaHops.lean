/-
  Contracts of package hops: a Hops at block g, its map at block q, counts a list of next hops. No condition but that there are fewer than 10^9 of them.
-/
import Derived.Test.YtcnecjjgnnkjkaaHopsM
import Derived.Test.YtcnecjjgnnkjkaaOrd
namespace Go.Proofs.Ytcnecjjgnnkjkaa
open Go.RowKit Go.Maps
set_option linter.unusedVariables false
set_option linter.unusedSimpArgs false
set_option maxRecDepth 100000

abbrev OwnM (w : World) (q n : Nat) (D : DataW Unit) : Prop := w.ownsMap Try.prog 3 (plainElem Try.prog 3) q n D
theorem int_law : Keyed Try.prog 3 := int_keyed Try.underlying3
theorem zeroI (w : World) : (zeroValue 3).run Try.prog w = .ok (.int .i64 0) w := by kernel_rfl
theorem OwnM.fit {w : World} {q n : Nat} {D : DataW Unit} (h : OwnM w q n D) : OwnM w q (Maps.size D) D := by
  obtain ⟨es, clock, hb, F, hs, rfl⟩ := h
  refine ⟨es, clock, hb, F, ?_, rfl⟩
  simp [Maps.size, length_sorted]
theorem OwnM.block {w w' : World} {q n : Nat} {D : DataW Unit} (h : OwnM w q n D) (e : w'.heap[q]? = w.heap[q]?) : OwnM w' q n D := by
  obtain ⟨es, clock, hb, r⟩ := h
  exact ⟨es, clock, e.trans hb, r⟩
/-- The Hops at block g, its map at block q, of at most most unlike ones: it counts L. -/
structure HopsAt (w : World) (g q most : Nat) (L : List Int) : Prop where
  top : Blk w g 99 [.int .i64 (most : Int), .map (some q)]
  map : ∃ D, OwnM w q (dist L) D ∧ MapIs D L
  ne : g ≠ q
theorem HopsAt.lt {w : World} {g q most : Nat} {L : List Int} (h : HopsAt w g q most L) : g < w.heap.size ∧ q < w.heap.size := ⟨h.top.lt, let ⟨_, h, _⟩ := h.map; h.lt⟩
theorem HopsAt.chg {w w' : World} {g q most : Nat} {L : List Int} {S : Nat → Prop} (h : HopsAt w g q most L) (k : Chg S w w') (h1 : ¬ S g) (h2 : ¬ S q) : HopsAt w' g q most L :=
  ⟨h.top.chg k h1, let ⟨D, hm, hi⟩ := h.map; ⟨D, OwnM.block hm (k.block q hm.lt h2), hi⟩, h.ne⟩
theorem HopsAt.below {w w' : World} {g q most : Nat} {L : List Int} (h : HopsAt w g q most L) (k : Below w.heap.size w w') : HopsAt w' g q most L := h.chg (Chg.of_below k fun _ => False) (fun h => h) (fun h => h)
theorem HopsAt.perm {w : World} {g q most : Nat} {L L' : List Int} (h : HopsAt w g q most L) (hp : L.Perm L') : HopsAt w g q most L' :=
  ⟨h.top, let ⟨D, hm, hi⟩ := h.map; ⟨D, by rw [← dist_perm hp]; exact hm, ⟨hi.tidy, fun x => by rw [hi.at_, hp.count_eq], fun x => by rw [hi.has_]; simp [hp.mem_iff], by rw [hi.size_, dist_perm hp]⟩⟩, h.ne⟩
def capH (n : Int) : Nat := (max 0 (min n 60)).toNat
theorem hops_new (n : Int) (w : World) : Calls Try.prog 32 #[.int .i64 n] w fun e w' => ∃ g q, e = .returned (.pointer (some ⟨g, 0, none⟩)) ∧ HopsAt w' g q (capH n) [] ∧ w.heap.size ≤ g ∧ w.heap.size ≤ q ∧ Below w.heap.size w w' := by
  obtain ⟨m, hm⟩ : ∃ m : Int, m = if 60 < n then 60 else n := ⟨_, rfl⟩
  obtain ⟨k, hk⟩ : ∃ k : Nat, (k : Int) = if 0 < m then m else 0 := ⟨m.toNat, by split <;> omega⟩
  have hkc : k = capH n := by unfold capH; split at hm <;> split at hk <;> omega
  have e1 := min_at .i64 n 60 m hm
  have e2 := max_at .i64 0 m k hk
  have HK := hid hkc
  clear hm hk hkc
  have hmm := @run_makeMap Try.prog
  go_enter Try.func32, Try.ntmps32
  go_wp2_with fail
  refine bodyPost_ret (v := .pointer (some ⟨w.heap.size + 1, 0, none⟩)) (by simp [results, Try.results32, go_sem]) rfl ?_
  have hm0 := World.ownsMap_made (H := Unit) w Try.prog 3 (plainElem Try.prog 3)
  have hb := ((Below.refl w.heap.size w).alloc (Nat.le_refl _) (.map #[] 0)).alloc (by simp) (.cells #[.int .i64 (k : Int), .map (some w.heap.size)] 99)
  refine ⟨w.heap.size + 1, w.heap.size, rfl, ⟨?_, ⟨_, hm0.alloc _, MapIs.nil⟩, by omega⟩, by omega, Nat.le_refl _, hb⟩
  rw [← HK.out]
  exact Blk.new_at (w.alloc (.map #[] 0)) #[.int .i64 (k : Int), .map (some w.heap.size)] 99 (w.heap.size + 1) (by simp)

theorem hm_look {w : World} {q n : Nat} {D : DataW Unit} {L : List Int} (h : OwnM w q n D) (hi : MapIs D L) {x : Int} (wx : (Lit.int .i64 x).wf = true) :
    (Instr.lookup 97 (.map (some q)) (.int .i64 x) false).run Try.prog w = .ok (.int .i64 (L.count x : Int)) w := by
  obtain ⟨c, hrun, hat, _⟩ := h.lookup_int int_law Try.underlying97 Try.underlying3 (zeroI w) (keyOf_int_mk Try.underlying3 wx)
  rw [hi.at_] at hat
  injection hat with hat
  injection hat with _ hat
  rw [hrun, hat]
theorem hm_len {w : World} {q n : Nat} {D : DataW Unit} {L : List Int} (h : OwnM w q n D) (hi : MapIs D L) (ty : TypeId) :
    (Builtin.len_ #[97] ty #[.map (some q)]).run Try.prog w = .ok (.int .i64 (dist L : Int)) w := by
  rw [h.len Try.underlying97 ty, hi.size_]
theorem hops_uses {w : World} {g q most : Nat} {L : List Int} (h : HopsAt w g q most L) (x : Int) (wx : (Lit.int .i64 x).wf = true) :
    Calls Try.prog 49 #[.pointer (some ⟨g, 0, none⟩), .int .i64 x] w fun e w' => e = .returned (.int .i64 (L.count x : Int)) ∧ w = w' := by
  obtain ⟨D, hm, hi⟩ := h.map
  have y1 := h.top.cellv (i := 1) rfl
  have hl := hm_look hm hi wx
  clear h hm hi wx
  go_enter Try.func49, Try.ntmps49
  go_wp2_with fail
  go_ret
  exact ⟨rfl, rfl⟩
theorem hops_count {w : World} {g q most : Nat} {L : List Int} (h : HopsAt w g q most L) :
    Calls Try.prog 50 #[.pointer (some ⟨g, 0, none⟩)] w fun e w' => e = .returned (.int .i64 (dist L : Int)) ∧ w = w' := by
  obtain ⟨D, hm, hi⟩ := h.map
  have y1 := h.top.cellv (i := 1) rfl
  have hl := fun ty => hm_len hm hi ty
  clear h hm hi
  go_enter Try.func50, Try.ntmps50
  go_wp2_with fail
  go_ret
  exact ⟨rfl, rfl⟩
theorem OwnM.grown {w w' : World} {q n : Nat} (h : w.grownBy w' (some q)) : Chg (· = q) w w' := ⟨h.os, h.tape, h.output, h.size, fun i hi hn => h.block i hi (fun e => hn (by injection e))⟩
set_option maxHeartbeats 2000000 in
theorem hops_up {w : World} {g q most : Nat} {L : List Int} (h : HopsAt w g q most L) (x : Int) (wx : (Lit.int .i64 x).wf = true) (hx : 0 ≤ x) (hr : x ∈ L ∨ dist L < most) (hlen : L.length < 1000000000) :
    Calls Try.prog 56 #[.pointer (some ⟨g, 0, none⟩), .int .i64 x] w fun e w' => e = .returned (.bool true) ∧ HopsAt w' g q most (x :: L) ∧ Chg (· = q) w w' := by
  obtain ⟨D, hm, hi⟩ := h.map
  have y0 := h.top.cellv (i := 0) rfl
  have y1 := h.top.cellv (i := 1) rfl
  have HI := hid hi
  have HM := hid hm
  have WX := hid wx
  have HH := hid h
  have hcl : L.count x ≤ L.length := List.count_le_length
  have hdl := dist_le L
  have hx1 : decide (x < 0) = false := decide_eq_false (by omega)
  have HUP := hid (hi.up x)
  have hkey := hid (keyOf_int_mk (P := Try.prog) Try.underlying3 wx)
  have hcase : (((L.count x : Int) == 0) = false) ∨ ((((L.count x : Int) == 0) = true) ∧ decide ((most : Int) ≤ (dist L : Int)) = false) := by
    by_cases k : x ∈ L
    · have := count_pos_mem.2 k
      exact .inl (by rw [beq_eq_false_iff_ne]; omega)
    · have h0 : L.count x = 0 := List.count_eq_zero.2 k
      rcases hr with h | h
      · exact absurd h k
      · exact .inr ⟨by rw [h0]; rfl, decide_eq_false (by omega)⟩
  have hup : IntKind.i64.wrap ((L.count x : Int) + 1) = ((L.count x + 1 : Nat) : Int) := by rw [IntKind.wrap_i64]; omega
  have hwf : (Lit.int .i64 ((L.count x + 1 : Nat) : Int)).wf = true := by simp [Lit.wf, IntKind.min, IntKind.max, IntKind.signed, IntKind.bits]; omega
  have hval := hid (plainElem_int (H := Unit) (P := Try.prog) Try.underlying3 hwf)
  have hn := hid (show dist L < maxLen by unfold maxLen; omega)
  clear h hm hi wx hr hx hcl hdl hlen hwf
  generalize hcn : ((L.count x + 1 : Nat) : Int) = cn at *
  generalize hc : (L.count x : Int) = c at *
  generalize hd : (dist L : Int) = d at hcase
  have HC := hid hc
  have HD := hid hd
  clear hc hd hcn
  rcases hcase with e1 | ⟨e1, e2⟩
  · go_enter Try.func56, Try.ntmps56
    go_wp2_with fail
    have hS : w.drew.cell? ⟨g, 0, none⟩ = some (.int .i64 (most : Int)) ∧ w.drew.cell? ⟨g, 1, none⟩ = some (.map (some q)) ∧ OwnM w.drew q (dist L) D := ⟨y0, y1, HM.out⟩
    refine wp_region_ord (fun w' => w'.cell? ⟨g, 0, none⟩ = some (.int .i64 (most : Int)) ∧ w'.cell? ⟨g, 1, none⟩ = some (.map (some q)) ∧ OwnM w' q (dist L) D) (by kernel_rfl) hS ?_
    refine ord_still 0 rfl (v := ?_) (by kernel_rfl) (fun _ _ _ h => h) rfl (fun W hW => ?_) hS ?_
    rotate_left
    · try dsimp only at hW
      go_simp
      try with_reducible rfl
    simp only [Act.put, List.setIfInBounds_toArray, List.set_cons_zero, List.set_cons_succ]
    refine ord_still 1 rfl (v := ?_) (by kernel_rfl) (fun _ _ _ h => h) rfl (fun W hW => ?_) hS ?_
    rotate_left
    · try dsimp only at hW
      go_simp
      try with_reducible rfl
    simp only [Act.put, List.setIfInBounds_toArray, List.set_cons_zero, List.set_cons_succ]
    refine ord_still 2 rfl (v := ?_) (by kernel_rfl) (fun _ _ _ h => h) rfl (fun W hW => ?_) hS ?_
    rotate_left
    · try dsimp only at hW
      go_simp
      try with_reducible rfl
    simp only [Act.put, List.setIfInBounds_toArray, List.set_cons_zero, List.set_cons_succ]
    refine ord_still 3 rfl (v := ?_) (by kernel_rfl) (fun _ _ _ h => h) rfl (fun W hW => ?_) hS ?_
    rotate_left
    · try dsimp only at hW
      go_simp
      try with_reducible rfl
    simp only [Act.put, List.setIfInBounds_toArray, List.set_cons_zero, List.set_cons_succ]
    refine ord_still 4 rfl (v := ?_) (by kernel_rfl) (fun _ _ _ h => h) rfl (fun W hW => ?_) hS ?_
    rotate_left
    · try dsimp only at hW
      go_simp
      try with_reducible rfl
    simp only [Act.put, List.setIfInBounds_toArray, List.set_cons_zero, List.set_cons_succ]
    refine ord_still 5 rfl (v := ?_) (by kernel_rfl) (fun _ _ _ h => h) rfl (fun W hW => ?_) hS ?_
    rotate_left
    · try dsimp only at hW
      go_simp
      try with_reducible rfl
    simp only [Act.put, List.setIfInBounds_toArray, List.set_cons_zero, List.set_cons_succ]
    refine ord_still 6 rfl (v := ?_) (by kernel_rfl) (fun _ _ _ h => h) rfl (fun W hW => ?_) hS ?_
    rotate_left
    · try dsimp only at hW
      go_simp
      try with_reducible rfl
    simp only [Act.put, List.setIfInBounds_toArray, List.set_cons_zero, List.set_cons_succ]
    refine ord_still 7 rfl (v := ?_) (by kernel_rfl) (fun _ _ _ h => h) rfl (fun W hW => ?_) hS ?_
    rotate_left
    · try dsimp only at hW
      go_simp
      try with_reducible rfl
    simp only [Act.put, List.setIfInBounds_toArray, List.set_cons_zero, List.set_cons_succ]
    refine ord_still 8 rfl (v := ?_) (by kernel_rfl) (fun _ _ _ h => h) rfl (fun W hW => ?_) hS ?_
    rotate_left
    · try dsimp only at hW
      go_simp
      try with_reducible rfl
    simp only [Act.put, List.setIfInBounds_toArray, List.set_cons_zero, List.set_cons_succ]
    refine ord_still 9 rfl (v := ?_) (by kernel_rfl) (fun _ _ _ h => h) rfl (fun W hW => ?_) hS ?_
    rotate_left
    · try dsimp only at hW
      go_simp
      try with_reducible rfl
    simp only [Act.put, List.setIfInBounds_toArray, List.set_cons_zero, List.set_cons_succ]
    refine ord_still 10 rfl (v := ?_) (by kernel_rfl) (fun _ _ _ h => h) rfl (fun W hW => ?_) hS ?_
    rotate_left
    · try dsimp only at hW
      go_simp
      try with_reducible rfl
    simp only [Act.put, List.setIfInBounds_toArray, List.set_cons_zero, List.set_cons_succ]
    refine ord_still 11 rfl (v := ?_) (by kernel_rfl) (fun _ _ _ h => h) rfl (fun W hW => ?_) hS ?_
    rotate_left
    · try dsimp only at hW
      go_simp
      try with_reducible rfl
    simp only [Act.put, List.setIfInBounds_toArray, List.set_cons_zero, List.set_cons_succ]
    refine ord_still 12 rfl (v := ?_) (by kernel_rfl) (fun _ _ _ h => h) rfl (fun W hW => ?_) hS ?_
    rotate_left
    · try dsimp only at hW
      have hl := hm_look hW.2.2 HI.out WX.out
      rw [HC.out] at hl
      go_simp
      try with_reducible rfl
    simp only [Act.put, List.setIfInBounds_toArray, List.set_cons_zero, List.set_cons_succ]
    refine ord_still 13 rfl (v := ?_) (by kernel_rfl) (fun _ _ _ h => h) rfl (fun W hW => ?_) hS ?_
    rotate_left
    · try dsimp only at hW
      go_simp
      try with_reducible rfl
    simp only [Act.put, List.setIfInBounds_toArray, List.set_cons_zero, List.set_cons_succ]
    refine ord_still 14 rfl (v := ?_) (by kernel_rfl) (fun _ _ _ h => h) rfl (fun W hW => ?_) hS ?_
    rotate_left
    · try dsimp only at hW
      go_simp
      try with_reducible rfl
    simp only [Act.put, List.setIfInBounds_toArray, List.set_cons_zero, List.set_cons_succ]
    refine ord_skip 15 rfl (by kernel_rfl) (fun _ _ _ h => h) rfl hS ?_
    simp only [Act.put, List.setIfInBounds_toArray, List.set_cons_zero, List.set_cons_succ]
    refine ord_skip 16 rfl (by kernel_rfl) (fun _ _ _ h => h) rfl hS ?_
    simp only [Act.put, List.setIfInBounds_toArray, List.set_cons_zero, List.set_cons_succ]
    refine ord_skip 17 rfl (by kernel_rfl) (fun _ _ _ h => h) rfl hS ?_
    simp only [Act.put, List.setIfInBounds_toArray, List.set_cons_zero, List.set_cons_succ]
    refine ord_skip 18 rfl (by kernel_rfl) (fun _ _ _ h => h) rfl hS ?_
    simp only [Act.put, List.setIfInBounds_toArray, List.set_cons_zero, List.set_cons_succ]
    refine ord_skip 19 rfl (by kernel_rfl) (fun _ _ _ h => h) rfl hS ?_
    simp only [Act.put, List.setIfInBounds_toArray, List.set_cons_zero, List.set_cons_succ]
    refine ord_skip 20 rfl (by kernel_rfl) (fun _ _ _ h => h) rfl hS ?_
    simp only [Act.put, List.setIfInBounds_toArray, List.set_cons_zero, List.set_cons_succ]
    refine ord_skip 21 rfl (by kernel_rfl) (fun _ _ _ h => h) rfl hS ?_
    simp only [Act.put, List.setIfInBounds_toArray, List.set_cons_zero, List.set_cons_succ]
    refine ord_skip 22 rfl (by kernel_rfl) (fun _ _ _ h => h) rfl hS ?_
    simp only [Act.put, List.setIfInBounds_toArray, List.set_cons_zero, List.set_cons_succ]
    refine ord_skip 23 rfl (by kernel_rfl) (fun _ _ _ h => h) rfl hS ?_
    simp only [Act.put, List.setIfInBounds_toArray, List.set_cons_zero, List.set_cons_succ]
    refine ord_skip 24 rfl (by kernel_rfl) (fun _ _ _ h => h) rfl hS ?_
    simp only [Act.put, List.setIfInBounds_toArray, List.set_cons_zero, List.set_cons_succ]
    refine ord_still 25 rfl (v := ?_) (by kernel_rfl) (fun _ _ _ h => h) rfl (fun W hW => ?_) hS ?_
    rotate_left
    · try dsimp only at hW
      go_simp
      try with_reducible rfl
    simp only [Act.put, List.setIfInBounds_toArray, List.set_cons_zero, List.set_cons_succ]
    refine ord_still 26 rfl (v := ?_) (by kernel_rfl) (fun _ _ _ h => h) rfl (fun W hW => ?_) hS ?_
    rotate_left
    · try dsimp only at hW
      go_simp
      try with_reducible rfl
    simp only [Act.put, List.setIfInBounds_toArray, List.set_cons_zero, List.set_cons_succ]
    refine ord_done (by kernel_rfl) ?_
    clear hS
    have hl := hm_look (World.ownsMap.drew HM.out) HI.out WX.out
    rw [HC.out] at hl
    go_wp2_with (at_mapUpdate; refine wpList_mapUpdate_own _ rfl _ _ _ 97 rfl 3 3 int_law Try.underlying97 _ q (dist L) D rfl (World.ownsMap.drew HM.out) hn.out _ _ _ rfl rfl hkey.out _ [] hval.out ?_; intro w1 hown1 hgrow1)
    go_ret
    have hC : Chg (· = q) w w1 := (Chg.refl (· = q) w).drew.trans' (OwnM.grown (n := 0) hgrow1)
    exact ⟨rfl, ⟨HH.out.top.chg hC HH.out.ne, ⟨_, by rw [← HUP.out.size_]; exact OwnM.fit hown1, HUP.out⟩, HH.out.ne⟩, hC⟩
  · go_enter Try.func56, Try.ntmps56
    go_wp2_with fail
    have hS : w.drew.cell? ⟨g, 0, none⟩ = some (.int .i64 (most : Int)) ∧ w.drew.cell? ⟨g, 1, none⟩ = some (.map (some q)) ∧ OwnM w.drew q (dist L) D := ⟨y0, y1, HM.out⟩
    refine wp_region_ord (fun w' => w'.cell? ⟨g, 0, none⟩ = some (.int .i64 (most : Int)) ∧ w'.cell? ⟨g, 1, none⟩ = some (.map (some q)) ∧ OwnM w' q (dist L) D) (by kernel_rfl) hS ?_
    refine ord_still 0 rfl (v := ?_) (by kernel_rfl) (fun _ _ _ h => h) rfl (fun W hW => ?_) hS ?_
    rotate_left
    · try dsimp only at hW
      go_simp
      try with_reducible rfl
    simp only [Act.put, List.setIfInBounds_toArray, List.set_cons_zero, List.set_cons_succ]
    refine ord_still 1 rfl (v := ?_) (by kernel_rfl) (fun _ _ _ h => h) rfl (fun W hW => ?_) hS ?_
    rotate_left
    · try dsimp only at hW
      go_simp
      try with_reducible rfl
    simp only [Act.put, List.setIfInBounds_toArray, List.set_cons_zero, List.set_cons_succ]
    refine ord_still 2 rfl (v := ?_) (by kernel_rfl) (fun _ _ _ h => h) rfl (fun W hW => ?_) hS ?_
    rotate_left
    · try dsimp only at hW
      go_simp
      try with_reducible rfl
    simp only [Act.put, List.setIfInBounds_toArray, List.set_cons_zero, List.set_cons_succ]
    refine ord_still 3 rfl (v := ?_) (by kernel_rfl) (fun _ _ _ h => h) rfl (fun W hW => ?_) hS ?_
    rotate_left
    · try dsimp only at hW
      go_simp
      try with_reducible rfl
    simp only [Act.put, List.setIfInBounds_toArray, List.set_cons_zero, List.set_cons_succ]
    refine ord_still 4 rfl (v := ?_) (by kernel_rfl) (fun _ _ _ h => h) rfl (fun W hW => ?_) hS ?_
    rotate_left
    · try dsimp only at hW
      go_simp
      try with_reducible rfl
    simp only [Act.put, List.setIfInBounds_toArray, List.set_cons_zero, List.set_cons_succ]
    refine ord_still 5 rfl (v := ?_) (by kernel_rfl) (fun _ _ _ h => h) rfl (fun W hW => ?_) hS ?_
    rotate_left
    · try dsimp only at hW
      go_simp
      try with_reducible rfl
    simp only [Act.put, List.setIfInBounds_toArray, List.set_cons_zero, List.set_cons_succ]
    refine ord_still 6 rfl (v := ?_) (by kernel_rfl) (fun _ _ _ h => h) rfl (fun W hW => ?_) hS ?_
    rotate_left
    · try dsimp only at hW
      go_simp
      try with_reducible rfl
    simp only [Act.put, List.setIfInBounds_toArray, List.set_cons_zero, List.set_cons_succ]
    refine ord_still 7 rfl (v := ?_) (by kernel_rfl) (fun _ _ _ h => h) rfl (fun W hW => ?_) hS ?_
    rotate_left
    · try dsimp only at hW
      go_simp
      try with_reducible rfl
    simp only [Act.put, List.setIfInBounds_toArray, List.set_cons_zero, List.set_cons_succ]
    refine ord_still 8 rfl (v := ?_) (by kernel_rfl) (fun _ _ _ h => h) rfl (fun W hW => ?_) hS ?_
    rotate_left
    · try dsimp only at hW
      go_simp
      try with_reducible rfl
    simp only [Act.put, List.setIfInBounds_toArray, List.set_cons_zero, List.set_cons_succ]
    refine ord_still 9 rfl (v := ?_) (by kernel_rfl) (fun _ _ _ h => h) rfl (fun W hW => ?_) hS ?_
    rotate_left
    · try dsimp only at hW
      go_simp
      try with_reducible rfl
    simp only [Act.put, List.setIfInBounds_toArray, List.set_cons_zero, List.set_cons_succ]
    refine ord_still 10 rfl (v := ?_) (by kernel_rfl) (fun _ _ _ h => h) rfl (fun W hW => ?_) hS ?_
    rotate_left
    · try dsimp only at hW
      go_simp
      try with_reducible rfl
    simp only [Act.put, List.setIfInBounds_toArray, List.set_cons_zero, List.set_cons_succ]
    refine ord_still 11 rfl (v := ?_) (by kernel_rfl) (fun _ _ _ h => h) rfl (fun W hW => ?_) hS ?_
    rotate_left
    · try dsimp only at hW
      go_simp
      try with_reducible rfl
    simp only [Act.put, List.setIfInBounds_toArray, List.set_cons_zero, List.set_cons_succ]
    refine ord_still 12 rfl (v := ?_) (by kernel_rfl) (fun _ _ _ h => h) rfl (fun W hW => ?_) hS ?_
    rotate_left
    · try dsimp only at hW
      have hl := hm_look hW.2.2 HI.out WX.out
      rw [HC.out] at hl
      go_simp
      try with_reducible rfl
    simp only [Act.put, List.setIfInBounds_toArray, List.set_cons_zero, List.set_cons_succ]
    refine ord_still 13 rfl (v := ?_) (by kernel_rfl) (fun _ _ _ h => h) rfl (fun W hW => ?_) hS ?_
    rotate_left
    · try dsimp only at hW
      go_simp
      try with_reducible rfl
    simp only [Act.put, List.setIfInBounds_toArray, List.set_cons_zero, List.set_cons_succ]
    refine ord_still 14 rfl (v := ?_) (by kernel_rfl) (fun _ _ _ h => h) rfl (fun W hW => ?_) hS ?_
    rotate_left
    · try dsimp only at hW
      go_simp
      try with_reducible rfl
    simp only [Act.put, List.setIfInBounds_toArray, List.set_cons_zero, List.set_cons_succ]
    refine ord_still 15 rfl (v := ?_) (by kernel_rfl) (fun _ _ _ h => h) rfl (fun W hW => ?_) hS ?_
    rotate_left
    · try dsimp only at hW
      go_simp
      try with_reducible rfl
    simp only [Act.put, List.setIfInBounds_toArray, List.set_cons_zero, List.set_cons_succ]
    refine ord_still 16 rfl (v := ?_) (by kernel_rfl) (fun _ _ _ h => h) rfl (fun W hW => ?_) hS ?_
    rotate_left
    · try dsimp only at hW
      go_simp
      try with_reducible rfl
    simp only [Act.put, List.setIfInBounds_toArray, List.set_cons_zero, List.set_cons_succ]
    refine ord_still 17 rfl (v := ?_) (by kernel_rfl) (fun _ _ _ h => h) rfl (fun W hW => ?_) hS ?_
    rotate_left
    · try dsimp only at hW
      go_simp
      try with_reducible rfl
    simp only [Act.put, List.setIfInBounds_toArray, List.set_cons_zero, List.set_cons_succ]
    refine ord_still 18 rfl (v := ?_) (by kernel_rfl) (fun _ _ _ h => h) rfl (fun W hW => ?_) hS ?_
    rotate_left
    · try dsimp only at hW
      go_simp
      try with_reducible rfl
    simp only [Act.put, List.setIfInBounds_toArray, List.set_cons_zero, List.set_cons_succ]
    refine ord_still 19 rfl (v := ?_) (by kernel_rfl) (fun _ _ _ h => h) rfl (fun W hW => ?_) hS ?_
    rotate_left
    · try dsimp only at hW
      have hl := fun ty => hm_len hW.2.2 HI.out ty
      rw [HD.out] at hl
      go_simp
      try with_reducible rfl
    simp only [Act.put, List.setIfInBounds_toArray, List.set_cons_zero, List.set_cons_succ]
    refine ord_still 20 rfl (v := ?_) (by kernel_rfl) (fun _ _ _ h => h) rfl (fun W hW => ?_) hS ?_
    rotate_left
    · try dsimp only at hW
      go_simp
      try with_reducible rfl
    simp only [Act.put, List.setIfInBounds_toArray, List.set_cons_zero, List.set_cons_succ]
    refine ord_still 21 rfl (v := ?_) (by kernel_rfl) (fun _ _ _ h => h) rfl (fun W hW => ?_) hS ?_
    rotate_left
    · try dsimp only at hW
      go_simp
      try with_reducible rfl
    simp only [Act.put, List.setIfInBounds_toArray, List.set_cons_zero, List.set_cons_succ]
    refine ord_still 22 rfl (v := ?_) (by kernel_rfl) (fun _ _ _ h => h) rfl (fun W hW => ?_) hS ?_
    rotate_left
    · try dsimp only at hW
      go_simp
      try with_reducible rfl
    simp only [Act.put, List.setIfInBounds_toArray, List.set_cons_zero, List.set_cons_succ]
    refine ord_still 23 rfl (v := ?_) (by kernel_rfl) (fun _ _ _ h => h) rfl (fun W hW => ?_) hS ?_
    rotate_left
    · try dsimp only at hW
      go_simp
      try with_reducible rfl
    simp only [Act.put, List.setIfInBounds_toArray, List.set_cons_zero, List.set_cons_succ]
    refine ord_still 24 rfl (v := ?_) (by kernel_rfl) (fun _ _ _ h => h) rfl (fun W hW => ?_) hS ?_
    rotate_left
    · try dsimp only at hW
      go_simp
      try with_reducible rfl
    simp only [Act.put, List.setIfInBounds_toArray, List.set_cons_zero, List.set_cons_succ]
    refine ord_still 25 rfl (v := ?_) (by kernel_rfl) (fun _ _ _ h => h) rfl (fun W hW => ?_) hS ?_
    rotate_left
    · try dsimp only at hW
      go_simp
      try with_reducible rfl
    simp only [Act.put, List.setIfInBounds_toArray, List.set_cons_zero, List.set_cons_succ]
    refine ord_still 26 rfl (v := ?_) (by kernel_rfl) (fun _ _ _ h => h) rfl (fun W hW => ?_) hS ?_
    rotate_left
    · try dsimp only at hW
      go_simp
      try with_reducible rfl
    simp only [Act.put, List.setIfInBounds_toArray, List.set_cons_zero, List.set_cons_succ]
    refine ord_done (by kernel_rfl) ?_
    clear hS
    have hl := hm_look (World.ownsMap.drew HM.out) HI.out WX.out
    rw [HC.out] at hl
    go_wp2_with (at_mapUpdate; refine wpList_mapUpdate_own _ rfl _ _ _ 97 rfl 3 3 int_law Try.underlying97 _ q (dist L) D rfl (World.ownsMap.drew HM.out) hn.out _ _ _ rfl rfl hkey.out _ [] hval.out ?_; intro w1 hown1 hgrow1)
    go_ret
    have hC : Chg (· = q) w w1 := (Chg.refl (· = q) w).drew.trans' (OwnM.grown (n := 0) hgrow1)
    exact ⟨rfl, ⟨HH.out.top.chg hC HH.out.ne, ⟨_, by rw [← HUP.out.size_]; exact OwnM.fit hown1, HUP.out⟩, HH.out.ne⟩, hC⟩
set_option maxHeartbeats 2000000 in
theorem hops_down {w : World} {g q most : Nat} {L L' : List Int} (h : HopsAt w g q most L) (x : Int) (wx : (Lit.int .i64 x).wf = true) (hp : L.Perm (x :: L')) (hlen : L.length < 1000000000) :
    Calls Try.prog 54 #[.pointer (some ⟨g, 0, none⟩), .int .i64 x] w fun e w' => e = .returned (.bool true) ∧ HopsAt w' g q most L' ∧ Chg (· = q) w w' := by
  obtain ⟨D, hm, hi⟩ := h.map
  have y1 := h.top.cellv (i := 1) rfl
  have HI := hid hi
  have HM := hid hm
  have WX := hid wx
  have HH := hid h
  have hcl : L.count x ≤ L.length := List.count_le_length
  have hc0 : L.count x = L'.count x + 1 := by rw [hp.count_eq, List.count_cons_self]
  have hdl := dist_le L
  have hkey := hid (keyOf_int_mk (P := Try.prog) Try.underlying3 wx)
  have hup : IntKind.i64.wrap ((L.count x : Int) - 1) = ((L.count x - 1 : Nat) : Int) := by rw [IntKind.wrap_i64]; omega
  have hwf : (Lit.int .i64 ((L.count x - 1 : Nat) : Int)).wf = true := by simp [Lit.wf, IntKind.min, IntKind.max, IntKind.signed, IntKind.bits]; omega
  have hval := hid (plainElem_int (H := Unit) (P := Try.prog) Try.underlying3 hwf)
  have hn := hid (show dist L < maxLen by unfold maxLen; omega)
  have hl := hm_look hm hi wx
  have hne : ((L.count x : Int) == 0) = false := by rw [beq_eq_false_iff_ne]; omega
  have HL2 := hid (fun (w1 : World) (n : Nat) (D1 : DataW Unit) (hown : OwnM w1 q n D1) (hat : D1.atKey (.int .i64 x) (.lit (.int .i64 0)) = .lit (.int .i64 ((L.count x - 1 : Nat) : Int))) => show (Instr.lookup 97 (.map (some q)) (.int .i64 x) false).run Try.prog w1 = .ok (.int .i64 ((L.count x - 1 : Nat) : Int)) w1 by
    obtain ⟨c, hrun, hat2, _⟩ := hown.lookup_int int_law Try.underlying97 Try.underlying3 (zeroI w1) (keyOf_int_mk Try.underlying3 WX.out)
    rw [hat] at hat2
    injection hat2 with hat2
    injection hat2 with _ hat2
    rw [hrun, hat2])
  by_cases hx : x ∈ L'
  · have HUP := hid (hi.down hp hx)
    have e2 : (((L.count x - 1 : Nat) : Int) == 0) = false := by
      have := count_pos_mem.2 hx
      rw [beq_eq_false_iff_ne]; omega
    have HAT := hid (show (D.put (.int .i64 x) (.lit (.int .i64 ((L.count x - 1 : Nat) : Int)))).atKey (.int .i64 x) (.lit (.int .i64 0)) = .lit (.int .i64 ((L.count x - 1 : Nat) : Int)) from atKey_put_same hi.tidy.isMap (ikl _) _ _)
    clear h hm hi wx hcl hdl hlen hwf hc0 hx hp
    generalize ((L.count x - 1 : Nat) : Int) = cn at *
    generalize (L.count x : Int) = c at *
    go_enter Try.func54, Try.ntmps54
    go_wp2_with (at_mapUpdate; refine wpList_mapUpdate_own _ rfl _ _ _ 97 rfl 3 3 int_law Try.underlying97 _ q (dist L) D rfl HM.out hn.out _ _ _ rfl rfl hkey.out _ [] hval.out ?_; intro w1 hown1 hgrow1; clear hl y1; have hl := HL2.out w1 _ _ hown1 HAT.out; have hC : Chg (· = q) w w1 := OwnM.grown (n := 0) hgrow1; have HC := hid hC; have y1 := (HH.out.top.chg hC HH.out.ne).cellv (i := 1) rfl; clear hC hgrow1)
    go_ret
    exact ⟨rfl, ⟨HH.out.top.chg HC.out HH.out.ne, ⟨_, by rw [← HUP.out.size_]; exact OwnM.fit hown1, HUP.out⟩, HH.out.ne⟩, HC.out⟩
  · have HUP := hid (hi.drop hp hx (.lit (.int .i64 ((L.count x - 1 : Nat) : Int))))
    have e2 : (((L.count x - 1 : Nat) : Int) == 0) = true := by
      have h0 : L'.count x = 0 := List.count_eq_zero.2 hx
      rw [hc0, h0]; rfl
    have HAT := hid (show (D.put (.int .i64 x) (.lit (.int .i64 ((L.count x - 1 : Nat) : Int)))).atKey (.int .i64 x) (.lit (.int .i64 0)) = .lit (.int .i64 ((L.count x - 1 : Nat) : Int)) from atKey_put_same hi.tidy.isMap (ikl _) _ _)
    clear h hm hi wx hcl hdl hlen hwf hc0 hx hp
    generalize ((L.count x - 1 : Nat) : Int) = cn at *
    generalize (L.count x : Int) = c at *
    go_enter Try.func54, Try.ntmps54
    go_wp2_with (first
      | (at_mapUpdate; refine wpList_mapUpdate_own _ rfl _ _ _ 97 rfl 3 3 int_law Try.underlying97 _ q (dist L) D rfl HM.out hn.out _ _ _ rfl rfl hkey.out _ [] hval.out ?_; intro w1 hown1 hgrow1; clear hl y1; have hl := HL2.out w1 _ _ hown1 HAT.out; have hC : Chg (· = q) w w1 := OwnM.grown (n := 0) hgrow1; have HC := hid hC; have y1 := (HH.out.top.chg hC HH.out.ne).cellv (i := 1) rfl; clear hC hgrow1)
      | (at_delete; refine wpList_delete_own _ rfl _ _ 97 3 rfl 3 int_law Try.underlying97 _ q _ _ rfl hown1 _ _ rfl hkey.out ?_; intro w2 hown2 hturn2))
    have hC2 : Chg (· = q) w w2 := HC.out.trans' (OwnM.grown (n := 0) hturn2.grown)
    go_ret
    exact ⟨rfl, ⟨HH.out.top.chg hC2 HH.out.ne, ⟨_, by rw [← HUP.out.size_]; exact OwnM.fit hown2, HUP.out⟩, HH.out.ne⟩, hC2⟩
end Go.Proofs.Ytcnecjjgnnkjkaa
