/-
  The document's table of buckets in the heap: its buckets, a key's two places, its other place. No condition but that words are words.
-/
import Derived.Test.YtpjjijhojcfmnaaGreatRBk
import Derived.Test.YtpjjijhojcfmnaaGreatRefPick
import Derived.Test.YtpjjijhojcfmnaaGreatGTab
import Derived.Test.YtpjjijhojcfmnaaGreatGTab2
import Derived.Test.YtpjjijhojcfmnaaGreatGBase
namespace Go.Proofs.YtpjjijhojcfmnaaGreat
open Go.RowKit
set_option linter.unusedVariables false
set_option linter.unusedSimpArgs false
set_option maxRecDepth 100000

def rbksV (bs : List (List Plc)) : List Value := bs.flatMap rbV
/-- The table at block g, its buckets in block q, its stash the slice v. -/
structure RwQ (w : World) (g q : Nat) (v : Value) (t : Tb) : Prop where
  top : Blk w g 80 [.int .u64 (t.s : Int), .slice (some ⟨q, 0, none⟩) t.n t.n, v]
  bk : Blk w q 84 (rbksV t.bs)
  st : Owns w 0 77 4 v t.st.length (rtsV t.st)
  gq : g ≠ q
  gv : v.ownBlock ≠ some g
  qv : v.ownBlock ≠ some q
theorem RwQ.chg {w w' : World} {g q : Nat} {v : Value} {t : Tb} {S : Nat → Prop} (H : RwQ w g q v t) (h : Chg S w w') (hg : ¬ S g) (hq : ¬ S q) (hv : ∀ b, v.ownBlock = some b → ¬ S b) : RwQ w' g q v t :=
  ⟨H.top.chg h hg, H.bk.chg h hq, Owns.chg H.st h hv, H.gq, H.gv, H.qv⟩
theorem RwQ.below {w w' : World} {g q : Nat} {v : Value} {t : Tb} (H : RwQ w g q v t) (h : Below w.heap.size w w') : RwQ w' g q v t :=
  H.chg (Chg.of_below h (fun _ => False)) id id (fun _ _ => id)

theorem rbksV_len : ∀ {bs : List (List Plc)}, (∀ b ∈ bs, b.length = 4) → (rbksV bs).length = bs.length * 20
  | [], _ => rfl
  | b :: bs, h => by
    have ih := rbksV_len (bs := bs) fun x hx => h x (by simp [hx])
    unfold rbksV at *
    rw [List.flatMap_cons, List.length_append, ih, List.length_cons]
    rw [rbV_len (h b (by simp))]; omega
theorem rbksV_split {t : Tb} {i : Nat} (hi : i < t.n) : rbksV t.bs = rbksV (t.bs.take i) ++ rbV (t.at i) ++ rbksV (t.bs.drop (i + 1)) := by
  have h := Tb.get_at hi
  obtain ⟨hk, e⟩ := List.getElem?_eq_some_iff.1 h
  rw [← e]
  have e2 : t.bs = t.bs.take i ++ t.bs[i] :: t.bs.drop (i + 1) := by rw [← List.drop_eq_getElem_cons hk, List.take_append_drop]
  unfold rbksV
  exact (congrArg (fun l : List (List Plc) => l.flatMap rbV) e2).trans (flat_split _ _ _ _)
theorem rbksV_set {t : Tb} {i : Nat} (hi : i < t.n) (b : List Plc) : rbksV (t.set i b).bs = rbksV (t.bs.take i) ++ rbV b ++ rbksV (t.bs.drop (i + 1)) := by
  unfold Tb.set rbksV
  simp only
  rw [List.set_eq_take_append_cons_drop, if_pos (show i < t.bs.length from hi)]
  simp
theorem RwQ.bkAt {w : World} {g q : Nat} {v : Value} {t : Tb} (H : RwQ w g q v t) {i : Nat} (hi : i < t.n) (hl : ∀ b ∈ t.bs, b.length = 4)   : RBk w q (i * 20) (rbksV (t.bs.take i)) (rbksV (t.bs.drop (i + 1))) (t.at i) := by
  refine ⟨by rw [← rbksV_split hi]; exact H.bk, hl _ (List.mem_of_getElem? (Tb.get_at hi)), ?_⟩
  rw [rbksV_len fun b hb => hl b (List.mem_of_mem_take hb), List.length_take, Nat.min_eq_left (show i ≤ t.bs.length from Nat.le_of_lt hi)]
theorem RwQ.set {w w' : World} {g q : Nat} {v : Value} {t : Tb} (H : RwQ w g q v t) {i : Nat} (hi : i < t.n) {b : List Plc} (hb   : RBk w' q (i * 20) (rbksV (t.bs.take i)) (rbksV (t.bs.drop (i + 1))) b) (hc : Chg (· = q) w w') : RwQ w' g q v (t.set i b) :=
  ⟨by rw [Tb.set_n]; exact H.top.chg hc H.gq, by rw [rbksV_set hi]; exact hb.top, Owns.chg H.st hc (fun b hb e => H.qv (by rw [hb, e])), H.gq, H.gv, H.qv⟩

theorem rk_bput {w : World} {g q : Nat} {v : Value} {t : Tb} (H : RwQ w g q v t) {i : Nat} (hi : i < t.n) (hl : ∀ b ∈ t.bs, b.length = 4) (p : Pf) (x : Int) :
    Calls Tryz.prog 45 #[.pointer (some ⟨q, i * 20, none⟩), .agg #[.int .u64 (p.1.1 : Int), .int .u64 (p.1.2 : Int), .int .i64 p.2], .int .i64 x] w fun e w' => e = .returned (.bool (canB (t.at i) p)) ∧ RwQ w' g q v (t.set i (putB (t.at i) p x)) ∧ Chg (· = q) w w' :=
  (rb_put (H.bkAt hi hl) p x).mono fun e w' ⟨he, hb, hc⟩ => ⟨he, H.set hi hb hc, hc⟩
theorem rk_btake {w : World} {g q : Nat} {v : Value} {t : Tb} (H : RwQ w g q v t) {i : Nat} (hi : i < t.n) (hl : ∀ b ∈ t.bs, b.length = 4) (p : Pf) :
    Calls Tryz.prog 50 #[.pointer (some ⟨q, i * 20, none⟩), .agg #[.int .u64 (p.1.1 : Int), .int .u64 (p.1.2 : Int), .int .i64 p.2]] w fun e w' => e = .returned (.bool (hasB (t.at i) p)) ∧ RwQ w' g q v (t.set i (takeB (t.at i) p)) ∧ Chg (· = q) w w' :=
  (rb_take (H.bkAt hi hl) p).mono fun e w' ⟨he, hb, hc⟩ => ⟨he, H.set hi hb hc, hc⟩
theorem rk_bget {w : World} {g q : Nat} {v : Value} {t : Tb} (H : RwQ w g q v t) {i : Nat} (hi : i < t.n) (hl : ∀ b ∈ t.bs, b.length = 4) (p : Pf) :
    Calls Tryz.prog 43 #[.pointer (some ⟨q, i * 20, none⟩), .agg #[.int .u64 (p.1.1 : Int), .int .u64 (p.1.2 : Int), .int .i64 p.2]] w fun e w' => e = .returned (.tuple #[.int .i64 (valP (t.at i) p), .bool (hasB (t.at i) p)]) ∧ Below w.heap.size w w' :=
  rb_get (H.bkAt hi hl) p
theorem rk_bswap {w : World} {g q : Nat} {v : Value} {t : Tb} (H : RwQ w g q v t) {i : Nat} (hi : i < t.n) (hl : ∀ b ∈ t.bs, b.length = 4) (m : Nat) (hm : m < 4) (y : Rt) (hy : (t.at i)[m]? = some (true, y)) (p : Pf) (x : Int) :
    Calls Tryz.prog 46 #[.pointer (some ⟨q, i * 20, none⟩), .int .i64 (m : Int), .agg #[.int .u64 (p.1.1 : Int), .int .u64 (p.1.2 : Int), .int .i64 p.2], .int .i64 x] w fun e w' =>
      e = .returned (.tuple #[.agg #[.int .u64 (y.1.1.1 : Int), .int .u64 (y.1.1.2 : Int), .int .i64 y.1.2], .int .i64 y.2, .bool true]) ∧ RwQ w' g q v (t.set i ((t.at i).set m (true, p, x))) ∧ Chg (· = q) w w' :=
  (rb_swap (H.bkAt hi hl) m hm y hy p x).mono fun e w' ⟨he, hb, hc⟩ => ⟨he, H.set hi hb hc, hc⟩
theorem rk_ball {w : World} {g q : Nat} {v : Value} {t : Tb} (H : RwQ w g q v t) {i : Nat} (hi : i < t.n) (hl : ∀ b ∈ t.bs, b.length = 4) :
    Calls Tryz.prog 34 #[.pointer (some ⟨q, i * 20, none⟩)] w (RetRts w (entB (t.at i))) := rb_all (H.bkAt hi hl)
theorem rk_two {t : Tb} (hs : t.s < 2 ^ 64) (hn : t.n ≤ 65536) (p : Pf) (hp : p.1.ok) (w : World) :
    Calls Tryz.prog 42 #[.int .u64 (t.s : Int), .agg #[.int .u64 (p.1.1 : Int), .int .u64 (p.1.2 : Int), .int .i64 p.2], .int .i64 (t.n : Int)] w fun e w' =>
      e = .returned (.tuple #[.int .i64 (t.b1 p : Int), .int .i64 (t.b2 p : Int)]) ∧ Below w.heap.size w w' := ref_buckets t.s hs p hp (t.n : Int) (by omega) w

theorem rk_other {w : World} {g q : Nat} {v : Value} {t : Tb} (H : RwQ w g q v t) (hs : t.s < 2 ^ 64) (hn : t.n ≤ 65536) (p : Pf) (hp : p.1.ok) (k : Nat) :
    Calls Tryz.prog 47 #[.pointer (some ⟨g, 0, none⟩), .agg #[.int .u64 (p.1.1 : Int), .int .u64 (p.1.2 : Int), .int .i64 p.2], .int .i64 (k : Int)] w fun e w' =>
      e = .returned (.int .i64 (t.other p k : Int)) ∧ Below w.heap.size w w' := by
  have hb := (Below.refl w.heap.size w).alloc (Nat.le_refl _) (.cells #[.int .u64 (p.1.1 : Int), .int .u64 (p.1.2 : Int), .int .i64 p.2] 38)
  have HT := hid (H.below hb).top
  have HP := hid (Blk.new_at w #[.int .u64 (p.1.1 : Int), .int .u64 (p.1.2 : Int), .int .i64 p.2] 38 w.heap.size rfl)
  have c1 := hid (fun w => rk_two hs hn p hp w)
  have HB := hid hb
  clear hb H hs hn hp
  unfold Tb.other
  generalize t.b1 p = x1 at *
  generalize t.b2 p = x2 at *
  generalize t.n = n at *
  generalize t.s = s at *
  obtain ⟨⟨a, b⟩, i⟩ := p
  simp only at c1 HB HP HT ⊢
  by_cases e : k = x1
  all_goals
    first | rw [if_pos e] | rw [if_neg e]
    first | (have e' : (k : Int) = x1 := by omega) | (have e' : ¬ (k : Int) = x1 := by omega)
    clear e
    go_enter Tryz.func47, Tryz.ntmps47
    go_wp2_with fail
    refine wp_region_later (fun w' => w'.cell? ⟨g, 0, none⟩ = some (.int .u64 (s : Int)) ∧ w'.cell? ⟨g, 1, none⟩ = some (.slice (some ⟨q, 0, none⟩) n n) ∧ w'.cell? ⟨w.heap.size, 0, none⟩ = some (.int .u64 (a : Int)) ∧ w'.cell? ⟨w.heap.size, 1, none⟩ = some (.int .u64 (b : Int)) ∧ w'.cell? ⟨w.heap.size, 2, none⟩ = some (.int .i64 i))
      (fun z => ⟨z.cell (HT.out.cellv rfl), z.cell (HT.out.cellv rfl), z.cell (HP.out.cellv rfl), z.cell (HP.out.cellv rfl), z.cell (HP.out.cellv rfl)⟩) (by kernel_rfl) (by kernel_rfl) (fun HS => ?_)
    repeat (go_big_quiet_step (with_reducible exact Later.calls _ (c1.out _)))
    refine wpQuiet_nil ?_
    rintro _ ⟨⟨w2, hb2⟩, rfl⟩
    have HB2 := hid (held_next HB.out hb2)
    clear hb2 HS
    go_wp2_with fail
    go_ret
    exact ⟨rfl, HB2.out⟩

end Go.Proofs.YtpjjijhojcfmnaaGreat
