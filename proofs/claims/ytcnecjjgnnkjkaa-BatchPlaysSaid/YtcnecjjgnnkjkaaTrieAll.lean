/-
  All routes of a trie, in order (trie.All). No condition but that words are words, and that there are no more than a million routes.
-/
import Derived.Test.YtcnecjjgnnkjkaaTrieAllM
import Derived.Test.YtcnecjjgnnkjkaaOrd
namespace Go.Proofs.Ytcnecjjgnnkjkaa
open Go.RowKit
set_option linter.unusedVariables false
set_option linter.unusedSimpArgs false
set_option maxRecDepth 100000

set_option maxHeartbeats 1000000 in
theorem trie_with (a : Ad) (ha : a.ok) (k : Nat) (hk : k < 128) (w : World) :
    Calls Try.prog 64 #[.agg #[.int .u64 (a.1 : Int), .int .u64 (a.2 : Int)], .int .i64 k] w fun e w' => e = .returned (.agg #[.int .u64 ((a.with k).1 : Int), .int .u64 ((a.with k).2 : Int)]) ∧ Below w.heap.size w w' := by
  obtain ⟨hi, lo⟩ := a
  by_cases h1 : k < 64
  · have e1 := shl_one (63 - k) (by omega)
    have e2 := bits_or hi (2 ^ (63 - k)) ha.1 (Nat.pow_lt_pow_right (by decide) (by omega))
    have E1 := hid e1
    have E2 := hid e2
    clear e1 e2
    go_enter Try.func64, Try.ntmps64
    go_wp2
    go_region
    all_goals go_wp2
    all_goals
      refine bodyPost_ret (v := .agg #[.int .u64 (bits .or .u64 (hi : Int) (IntKind.u64.wrap (2 ^ (63 - k)))), .int .u64 (lo : Int)]) (by simp [results, Try.results64, go_sem]) rfl ⟨?_, ?_⟩
      · rw [E1.out, E2.out]; simp [Ad.with, h1]
      · repeat (first | exact Below.refl _ _ | apply Below.drew | (refine Below.alloc ?_ (by simp) _))
  · have e1 := shl_one (127 - k) (by omega)
    have e2 := bits_or lo (2 ^ (127 - k)) ha.2 (Nat.pow_lt_pow_right (by decide) (by omega))
    have E1 := hid e1
    have E2 := hid e2
    clear e1 e2
    go_enter Try.func64, Try.ntmps64
    go_wp2
    go_region
    all_goals go_wp2
    all_goals
      refine bodyPost_ret (v := .agg #[.int .u64 (hi : Int), .int .u64 (bits .or .u64 (lo : Int) (IntKind.u64.wrap (2 ^ (127 - k))))]) (by simp [results, Try.results64, go_sem]) rfl ⟨?_, ?_⟩
      · rw [E1.out, E2.out]; simp [Ad.with, h1]
      · repeat (first | exact Below.refl _ _ | apply Below.drew | (refine Below.alloc ?_ (by simp) _))

section
variable {P : Program} {o : Oper} {a : Act} {Q : Exit → Act → World → Prop} {K : Act → World → Prop} {w : World} {α : Type} {en : α → List Value}
/-- 'xs = append(xs, ys...)', with the block, as one operation. -/
theorem wp_append_rdb (s x : Operand) (t : TypeId) (ho : o.op = .call { callee := .builtin .append, args := #[s, x], argTypes := #[t, t] })
    (e : TypeId) (z : Value) (size bytes : Nat) (ht : P.underlying t = some (.slice e)) (hinfo : (P.info? e).map (fun i => (i.zero, i.size, i.bytes)) = some (some z, size, bytes)) (hzs : z.cells.size = size) (hsz : 0 < size)
    (base : Nat) (v : Value) (n : Nat) (xs : List Value) (hs : a.eval s = v) (hown : Owns w base e size v n xs) (ad : Addr) (c : Nat) (l : List α) (hx : a.eval x = .slice (some ad) l.length c) (hr : RowAt en size w (some ad) l) (hl : ∀ a, (en a).length = size) (h1 : ∀ a, ∀ u ∈ en a, u.oneCell' = true)
    (h63 : n + l.length ≤ maxLen) (hbytes : (n + l.length) * bytes ≤ 140737488355328) (hbase : base ≤ w.heap.size)
    (h : ∀ v' w', Owns w' base e size v' (n + l.length) (xs ++ l.flatMap en) → OwnIn (fun b => v.ownBlock = some b ∨ w.heap.size ≤ b) v' → Chg (fun g => v.ownBlock = some g) w w' → K (a.put o.dst v') w') : o.wp P a w K Q := by
  obtain ⟨i, hi, hzz⟩ := Option.map_eq_some_iff.1 hinfo
  simp only [Prod.mk.injEq] at hzz
  obtain ⟨hz, hsi, hby⟩ := hzz
  obtain ⟨v', w', hr, h2, h3, h4⟩ := run_append_blk (P := P) base t o.type e i z size bytes ht hi hz hsi hby hzs hsz v n xs hown ad l.length c (l.flatMap en) (flat_len hl l) (Rd.news hr hl hsz)
    (fun u hu => by obtain ⟨y, _, hy⟩ := List.mem_flatMap.1 hu; exact h1 y u hy) h63 hbytes hbase
  unfold Oper.wp
  simp only [execOp, ho, resolve, invoke, builtin, Sem.run_bind, Sem.run_pure, Result.andThen_ok, List.map_toArray, List.map_cons, List.map_nil, hs, hx, hr]
  exact h v' w' h2 h4 ((Chg.of_grown h3).mono fun g _ hg => hg.symm)
end

theorem kid_ix0 (w : World) (a b : Option Addr) : (Instr.index 72 (.agg #[.pointer a, .pointer b]) (.int .i64 0)).run Try.prog w = .ok (.pointer a) w := by
  have hs : (sizeOf 71).run Try.prog w = .ok 1 w := by kernel_rfl
  simp [Instr.index, run_underlying Try.underlying72, asIntOf, go_sem]
theorem kid_ix1 (w : World) (a b : Option Addr) : (Instr.index 72 (.agg #[.pointer a, .pointer b]) (.int .i64 1)).run Try.prog w = .ok (.pointer b) w := by
  have hs : (sizeOf 71).run Try.prog w = .ok 1 w := by kernel_rfl
  simp [Instr.index, run_underlying Try.underlying72, asIntOf, go_sem]
attribute [local go_sem high] kid_ix0 kid_ix1
theorem ptr_form (q : Option Nat) : ∃ A, ptrV q = .pointer A := by cases q; exact ⟨none, rfl⟩; exact ⟨some ⟨_, 0, none⟩, rfl⟩
theorem row_of_blk {α : Type} {en : α → List Value} {size : Nat} {w : World} {g : Nat} {t : TypeId} {l : List α} (h : Blk w g t (l.flatMap en)) (hl : ∀ a, (en a).length = size) : RowAt en size w (some ⟨g, 0, none⟩) l := fun k hk =>
  ⟨g, 0, rfl, fun j hj a ha => by rw [Nat.zero_add, h.cell, flat_get hl l k a ha j hj]⟩
theorem Owns.raise {w : World} {e : TypeId} {size n B : Nat} {v : Value} {xs : List Value} (h : Owns w 0 e size v n xs) (hb : ∀ z, v.ownBlock = some z → B ≤ z) : Owns w B e size v n xs := by
  obtain ⟨h1, h2⟩ := h
  refine ⟨h1, ?_⟩
  rcases h2 with h2 | ⟨g, cap, cur, rfl, _, r⟩
  · exact .inl h2
  · exact .inr ⟨g, cap, cur, rfl, hb g rfl, r⟩
def kidsE (l : List Rt) (m : Ad → Nat → Option Int) (c : Ad) (i k : Nat) : List Rt := hereL m c i ++ ((if 1 ≤ k then underL l c (i + 1) else []) ++ (if 2 ≤ k then underL l (c.with i) (i + 1) else []))
theorem under_deep {l : List Rt} {c : Ad} {i : Nat} (h : 128 < i) : underL l c i = [] := by
  rw [List.eq_nil_iff_forall_not_mem]
  intro r hr
  obtain ⟨_, h2, h3, _⟩ := mem_under.1 hr
  have := h2.2.1
  omega
theorem kids_all {l : List Rt} {m : Ad → Nat → Option Int} {c : Ad} {i : Nat} (hs : SL l) (hsay : Says m l) (hok : ∀ r ∈ l, r.1.1.ok) (hk : Kok c i) : kidsE l m c i 2 = underL l c i := by
  unfold kidsE
  rw [if_pos (by omega), if_pos (by omega)]
  by_cases h : i < 128
  · exact (under_node hs hsay hok hk h).symm
  · obtain rfl : i = 128 := by have := hk.2.2; omega
    rw [under_deep (by omega), under_deep (by omega), under_leaf hs hsay hok hk]; simp

structure WkSt (w wr : World) (vo v : Value) (E : List Rt) (c : Ad) (i : Nat) : Prop where
  ro : Owns wr 0 87 4 v E.length (rtsV E)
  oi : OwnIn (fun b => vo.ownBlock = some b ∨ w.heap.size + 1 ≤ b) v
  ch : Chg (fun z => vo.ownBlock = some z) w wr
  pb : Blk wr w.heap.size 51 [.int .u64 (c.1 : Int), .int .u64 (c.2 : Int), .int .i64 (i : Int)]
def WkRel (w : World) (l : List Rt) (m : Ad → Nat → Option Int) (L : List Rt) (vo : Value) (c : Ad) (i : Nat) (v kv : Value) (wr : World) : Prop := ∃ k : Nat, k ≤ 2 ∧ kv = .int .i64 (k : Int) ∧ WkSt w wr vo v (L ++ kidsE l m c i k) c i
def WkPost (w : World) (vo : Value) (E : List Rt) (e : Ending) (w' : World) : Prop :=
  ∃ v', e = .returned v' ∧ Owns w' 0 87 4 v' E.length (rtsV E) ∧ OwnIn (fun b => vo.ownBlock = some b ∨ w.heap.size ≤ b) v' ∧ Chg (fun z => vo.ownBlock = some z) w w'
/-- The contract of walk at a node that has d more bits below. -/
def WalkAt (d : Nat) : Prop := ∀ (w : World) (g : Nat) (F : Nat → Prop) (N : Ad → Nat → Option Nat) (m : Ad → Nat → Option Int) (n : Int) (l : List Rt) (c : Ad) (i b : Nat) (iz : Int) (vo : Value) (L : List Rt),
  TrieN w g F N m n → SL l → Says m l → (∀ r ∈ l, r.1.1.ok) → Kok c i → i + d = 128 → N c i = some b → iz = (i : Int) → Owns w 0 87 4 vo L.length (rtsV L) → (∀ z, vo.ownBlock = some z → ¬ F z) → L.length + (underL l c i).length ≤ 2000000 →
  Calls Try.prog 58 #[.pointer (some ⟨b, 0, none⟩), .agg #[.int .u64 (c.1 : Int), .int .u64 (c.2 : Int), .int .i64 iz], vo] w (WkPost w vo (L ++ underL l c i))
theorem kids_le {l : List Rt} {m : Ad → Nat → Option Int} {c : Ad} {i : Nat} (hs : SL l) (hsay : Says m l) (hok : ∀ r ∈ l, r.1.1.ok) (hk : Kok c i) : (hereL m c i).length + (underL l c (i + 1)).length + (underL l (c.with i) (i + 1)).length = (underL l c i).length := by
  rw [← kids_all hs hsay hok hk]; unfold kidsE; rw [if_pos (by omega), if_pos (by omega)]; simp only [List.length_append]; omega
/-- The next child is not there. -/
theorem WkSt.skip {w wr w' : World} {vo v : Value} {L : List Rt} {l : List Rt} {m : Ad → Nat → Option Int} {c : Ad} {i k : Nat} (h : WkSt w wr vo v (L ++ kidsE l m c i k) c i) (hb : Below wr.heap.size wr w') (he : kidsE l m c i (k + 1) = kidsE l m c i k) : WkSt w w' vo v (L ++ kidsE l m c i (k + 1)) c i := by
  rw [he]
  exact ⟨h.ro.below hb, h.oi, h.ch.trans' (Chg.of_below hb _), h.pb.below' hb⟩
theorem kids0 (l : List Rt) (m : Ad → Nat → Option Int) (c : Ad) (i : Nat) : kidsE l m c i 0 = hereL m c i := by unfold kidsE; rw [if_neg (by omega), if_neg (by omega)]; simp
theorem kids1 (l : List Rt) (m : Ad → Nat → Option Int) (c : Ad) (i : Nat) : kidsE l m c i 1 = hereL m c i ++ underL l c (i + 1) := by unfold kidsE; rw [if_pos (by omega), if_neg (by omega)]; simp
theorem kids2 (l : List Rt) (m : Ad → Nat → Option Int) (c : Ad) (i : Nat) : kidsE l m c i 2 = hereL m c i ++ underL l c (i + 1) ++ underL l (c.with i) (i + 1) := by unfold kidsE; rw [if_pos (by omega), if_pos (by omega)]; simp
/-- Behind a callee that has appended E'. -/
theorem WkSt.call {w wr w1 w' : World} {vo v v' : Value} {E E' : List Rt} {c : Ad} {i : Nat} (h : WkSt w wr vo v E c i) (hb : Below wr.heap.size wr w1) (ho : ∀ z, vo.ownBlock = some z → z < w.heap.size) (hO : Owns w' 0 87 4 v' (E ++ E').length (rtsV (E ++ E'))) (hi : OwnIn (fun b => v.ownBlock = some b ∨ w1.heap.size ≤ b) v') (hc : Chg (fun z => v.ownBlock = some z) w1 w') : WkSt w w' vo v' (E ++ E') c i := by
  have hs := h.ch.size
  have hp := h.pb.lt
  refine ⟨hO, fun z hz => ?_, ?_, ?_⟩
  · rcases hi z hz with k | k
    · exact h.oi z k
    · right; have := hb.size; omega
  · refine (h.ch.trans' (Chg.of_below hb _)).trans hc fun z hz k => ?_
    rcases h.oi z k with k | k
    · exact k
    · omega
  · refine (h.pb.below' hb).chg hc fun k => ?_
    rcases h.oi _ k with k | k
    · have := ho _ k; omega
    · omega

set_option maxHeartbeats 8000000 in
theorem walk_step (d : Nat) (ih : ∀ d', d' + 1 = d → WalkAt d') : WalkAt d := by
  intro w g F N m n l c i b iz vo L H hs hsay hok hk hd hN hiz hO hF hlen
  have hno := (H.node c i b hk hN)
  have HD := hid H.deep
  obtain ⟨q0, hq0⟩ : ∃ q, N c (i + 1) = q := ⟨_, rfl⟩
  obtain ⟨q1, hq1⟩ : ∃ q, N (c.with i) (i + 1) = q := ⟨_, rfl⟩
  obtain ⟨mv, hmv⟩ : ∃ q, m c i = q := ⟨_, rfl⟩
  rw [hq0, hq1, hmv] at hno
  obtain ⟨V0, hV0⟩ := ptr_form q0
  obtain ⟨V1, hV1⟩ := ptr_form q1
  have c0 : w.cell? ⟨b, 0, none⟩ = some (.bool mv.isSome) := hno.2.cellv (i := 0) rfl
  have c1 : w.cell? ⟨b, 1, none⟩ = some (.int .i64 (mv.getD 0)) := hno.2.cellv (i := 1) rfl
  have c2 : w.cell? ⟨b, 2, none⟩ = some (.pointer V0) := by rw [← hV0]; exact hno.2.cellv (i := 2) rfl
  have c3 : w.cell? ⟨b, 3, none⟩ = some (.pointer V1) := by rw [← hV1]; exact hno.2.cellv (i := 3) rfl
  have hbl : b < w.heap.size := hno.2.lt
  have HBF := hid hno.1
  have HVO := hid (fun z (hz : vo.ownBlock = some z) => show z < w.heap.size from (Owns.base_le hO z hz).2)
  have HFF := hid hF
  have HO := hid hO
  have HLE := hid hlen
  have HKL := hid (kids_le hs hsay hok hk)
  have HKA := hid (kids_all hs hsay hok hk)
  have HQ0 := hid hq0
  have HQ1 := hid hq1
  have HV0 := hid hV0
  have HV1 := hid hV1
  have HK := hid hk
  have HHERE := hid (show (mv = none → hereL m c i = []) ∧ (∀ v, mv = some v → hereL m c i = [((c, (i : Int)), v)]) from by
    unfold hereL
    exact ⟨fun e => by rw [hmv, e], fun v e => by rw [hmv, e]⟩)
  have i128 : (i : Int) ≤ 128 := by have := hk.2.2; omega
  have HWI := hid (fun (h : i < 128) w => trie_with c hk.1 i h w)
  have HI128 := hid hd
  have HIH := hid (fun (w' : World) (vo' : Value) (L' : List Rt) (c' : Ad) (b' : Nat) (h1 : i < 128) (hT : TrieN w' g F N m n) (h2 : Kok c' (i + 1)) (h3 : N c' (i + 1) = some b') (h4 : Owns w' 0 87 4 vo' L'.length (rtsV L')) (h5 : ∀ z, vo'.ownBlock = some z → ¬ F z) (h6 : L'.length + (underL l c' (i + 1)).length ≤ 2000000) =>
    ih (d - 1) (by omega) w' g F N m n l c' (i + 1) b' ((i : Int) + 1) vo' L' hT hs hsay hok h2 (by omega) h3 (by omega) h4 h5 h6)
  have HTR := hid (fun (w' : World) (h : Chg (fun z => vo.ownBlock = some z) w w') => H.chg h (fun z hz k => hF z k hz))
  have HLT := hid H.lt
  have HNN := hid (fun (c' : Ad) (j : Nat) (h : N c' j = none) => under_none H hsay hok h)
  subst hiz
  obtain ⟨cx, cy⟩ := c
  have hFE : ∀ v', OwnIn (fun b => vo.ownBlock = some b ∨ w.heap.size + 1 ≤ b) v' → ∀ z, v'.ownBlock = some z → ¬ F z := fun v' h z hz hf => by
    rcases h z hz with k | k
    · exact hF z k hf
    · have := H.lt z hf; omega
  have HFE := hid hFE
  clear hno hq0 hq1 hmv hV0 hV1 hF hO hlen H hs hsay hok hk hN ih hFE
  have HPB := hid (Blk.new w [.int .u64 (cx : Int), .int .u64 (cy : Int), .int .i64 (i : Int)] 51)
  have HOL := hid (show ∃ A cap, vo = .slice A L.length cap from let ⟨A, c, e, _⟩ := (Owns.form HO.out); ⟨A, c, e⟩)
  obtain ⟨Ao, co, rfl⟩ := HOL.out
  cases mv with
  | none =>
    have H0 := hid (show WkSt w (w.alloc (.cells #[.int .u64 (cx : Int), .int .u64 (cy : Int), .int .i64 (i : Int)] 51)) (.slice Ao L.length co) (.slice Ao L.length co) (L ++ kidsE l m (cx, cy) i 0) (cx, cy) i from
      ⟨by rw [kids0, HHERE.out.1 rfl, List.append_nil]; exact Owns.below HO.out ((Below.refl _ _).alloc (Nat.le_refl _) _), fun z hz => .inl hz, (Chg.refl _ _).alloc _, HPB.out⟩)
    go_enter Try.func58, Try.ntmps58
    go_wp2_with fail
    go_loopw [2, 27] (fun v kv wr => WkRel w l m L (.slice Ao L.length co) (cx, cy) i v kv wr) (fun _ kv _ => 2 - (intOf kv).toNat)
    case atStart => exact ⟨0, by omega, rfl, H0.out⟩
    case round =>
      obtain ⟨k, hk2, rfl, hS⟩ := hrel
      clear H0
      have HS := hid hS
      have p0 : wr.cell? ⟨w.heap.size, 0, none⟩ = some (.int .u64 (cx : Int)) := hS.pb.cellv (i := 0) rfl
      have p1 : wr.cell? ⟨w.heap.size, 1, none⟩ = some (.int .u64 (cy : Int)) := hS.pb.cellv (i := 1) rfl
      have p2 : wr.cell? ⟨w.heap.size, 2, none⟩ = some (.int .i64 (i : Int)) := hS.pb.cellv (i := 2) rfl
      have hws : w.heap.size < wr.heap.size := hS.pb.lt
      clear hS
      obtain rfl | rfl | rfl : k = 0 ∨ k = 1 ∨ k = 2 := by omega
      · cases q0 with
        | none =>
          obtain rfl : V0 = none := by have h := HV0.out; injection h with h; exact h.symm
          have HN1 := hid (show kidsE l m (cx, cy) i 1 = kidsE l m (cx, cy) i 0 from by rw [kids1, kids0, HNN.out _ _ HQ0.out, List.append_nil])
          go_wp2_with fail
          go_roundw
          case rel => exact ⟨1, by omega, by go_num, HS.out.skip (Below.refl _ _) HN1.out⟩
          case measure => simp [intOf]
        | some b' =>
          obtain rfl : V0 = some ⟨b', 0, none⟩ := by have h := HV0.out; injection h with h; exact h.symm
          have hi : i < 128 := by
            rcases Nat.lt_or_ge i 128 with h | h
            · exact h
            · obtain rfl : i = 128 := by omega
              have := HQ0.out; rw [HD.out] at this; cases this
          have HI := hid hi
          have hwi : IntKind.i64.wrap ((i : Int) + 1) = (i : Int) + 1 := by rw [IntKind.wrap_i64]; omega
          have cC := hid (fun (w' : World) (h : Below wr.heap.size wr w') => HIH.out w' u2 (L ++ kidsE l m (cx, cy) i 0) (cx, cy) b' HI.out (HTR.out w' (HS.out.ch.trans' (Chg.of_below h _))) (Kok.zero HK.out HI.out) HQ0.out (HS.out.ro.below h) (HFE.out u2 HS.out.oi) (by rw [List.length_append, kids0]; have := HKL.out; have := HLE.out; omega))
          have HNE := hid (show L ++ kidsE l m (cx, cy) i 0 ++ underL l (cx, cy) (i + 1) = L ++ kidsE l m (cx, cy) i 1 from by rw [kids0, kids1]; simp)
          clear hi
          have hBf : Below wr.heap.size wr (wr.alloc (.cells #[.int .u64 (cx : Int), .int .u64 (cy : Int), .int .i64 ((i : Int) + 1)] 51)) := (Below.refl wr.heap.size wr).alloc (Nat.le_refl _) _
          go_wp2_with fail
          refine (cC.out _ hBf).mono ?_
          rintro _ w7 ⟨v7, rfl, hO7, hi7, hc7⟩
          have HST := hid (HS.out.call hBf HVO.out hO7 hi7 hc7)
          rw [HNE.out] at HST
          clear hO7 hi7 hc7 hBf cC
          go_wp2_with fail
          go_roundw
          case rel => exact ⟨1, by omega, by go_num, HST.out⟩
          case measure => simp [intOf]
      · cases q1 with
        | none =>
          obtain rfl : V1 = none := by have h := HV1.out; injection h with h; exact h.symm
          have HN1 := hid (show kidsE l m (cx, cy) i 2 = kidsE l m (cx, cy) i 1 from by rw [kids2, kids1, HNN.out _ _ HQ1.out, List.append_nil])
          go_wp2_with fail
          go_roundw
          case rel => exact ⟨2, by omega, by go_num, HS.out.skip (Below.refl _ _) HN1.out⟩
          case measure => simp [intOf]
        | some b' =>
          obtain rfl : V1 = some ⟨b', 0, none⟩ := by have h := HV1.out; injection h with h; exact h.symm
          have hi : i < 128 := by
            rcases Nat.lt_or_ge i 128 with h | h
            · exact h
            · obtain rfl : i = 128 := by omega
              have := HQ1.out; rw [HD.out] at this; cases this
          have HI := hid hi
          have hwi : IntKind.i64.wrap ((i : Int) + 1) = (i : Int) + 1 := by rw [IntKind.wrap_i64]; omega
          have cC := hid (fun (w' : World) (h : Below wr.heap.size wr w') => HIH.out w' u2 (L ++ kidsE l m (cx, cy) i 1) (Ad.with (cx, cy) i) b' HI.out (HTR.out w' (HS.out.ch.trans' (Chg.of_below h _))) (Kok.one HK.out HI.out) HQ1.out (HS.out.ro.below h) (HFE.out u2 HS.out.oi) (by rw [List.length_append, kids1]; rw [List.length_append]; have := HKL.out; have := HLE.out; omega))
          have HNE := hid (show L ++ kidsE l m (cx, cy) i 1 ++ underL l (Ad.with (cx, cy) i) (i + 1) = L ++ kidsE l m (cx, cy) i 2 from by rw [kids1, kids2]; simp)
          clear hi
          have cW := hid (HWI.out HI.out)
          obtain ⟨wx, wy, hw⟩ : ∃ x y, Ad.with (cx, cy) i = ((x, y) : Ad) := ⟨_, _, rfl⟩
          rw [hw] at cW cC HNE
          clear hw
          have HPQ := hid (Blk.new wr [.int .u64 (cx : Int), .int .u64 (cy : Int), .int .i64 ((i : Int) + 1)] 51)
          go_wp2_with fail
          refine (cW.out _).mono ?_
          rintro _ w5 ⟨rfl, hb5⟩
          have HP5 := hid (HPQ.out.below' hb5)
          have HC5 := hid ((Chg.of_below ((Below.refl wr.heap.size wr).alloc (Nat.le_refl _) (.cells #[.int .u64 (cx : Int), .int .u64 (cy : Int), .int .i64 ((i : Int) + 1)] 51)) (fun _ => False)).trans' (Chg.of_below hb5 _))
          have t0 := HP5.out.cellv (i := 0) rfl
          have t1 := HP5.out.cellv (i := 1) rfl
          have t2 := HP5.out.cellv (i := 2) rfl
          have f0 := HP5.out.frozen 0
          have f1 := HP5.out.frozen 1
          have hBf : Below wr.heap.size wr ((w5.setCell ⟨wr.heap.size, 0, none⟩ (.int .u64 (wx : Int))).setCell ⟨wr.heap.size, 1, none⟩ (.int .u64 (wy : Int))) :=
            ((HC5.out.setCell (p := ⟨wr.heap.size, 0, none⟩) (fun h => absurd h (Nat.lt_irrefl _)) (.int .u64 (wx : Int))).setCell (p := ⟨wr.heap.size, 1, none⟩) (fun h => absurd h (Nat.lt_irrefl _)) (.int .u64 (wy : Int))).below (Nat.le_refl _) (fun _ _ h => h)
          clear hb5 cW
          go_wp2_with fail
          refine (cC.out _ hBf).mono ?_
          rintro _ w7 ⟨v7, rfl, hO7, hi7, hc7⟩
          have HST := hid (HS.out.call hBf HVO.out hO7 hi7 hc7)
          rw [HNE.out] at HST
          clear hO7 hi7 hc7 hBf cC
          go_wp2_with fail
          go_roundw
          case rel => exact ⟨2, by omega, by go_num, HST.out⟩
          case measure => simp [intOf]
      · have HF := hid (show WkPost w (.slice Ao L.length co) (L ++ underL l (cx, cy) i) (.returned u2) wr from ⟨_, rfl, by rw [← HKA.out]; exact HS.out.ro, fun z hz => (HS.out.oi z hz).imp id (fun h => by omega), HS.out.ch⟩)
        go_wp2_with fail
        go_ret
        exact HF.out
  | some hv =>
    have HL1 := hid (show L.length + 1 ≤ 2000000 from by have h1 := HKL.out; have h2 := HLE.out; rw [HHERE.out.2 hv rfl] at h1; simp only [List.length_singleton] at h1; omega)
    have H00 := hid (fun (v8 : Value) (w8 : World) (hO : Owns w8 0 87 4 v8 (L.length + 1) (rtsV L ++ ([(((cx, cy), (i : Int)), hv)] : List Rt).flatMap rtEn)) (hi : OwnIn (fun z => Value.ownBlock (.slice Ao L.length co) = some z ∨ w.heap.size + 2 ≤ z) v8) (hC : Chg (fun z => Value.ownBlock (.slice Ao L.length co) = some z) ((w.alloc (.cells #[.int .u64 (cx : Int), .int .u64 (cy : Int), .int .i64 (i : Int)] 51)).drew.alloc (.cells #[.int .u64 (cx : Int), .int .u64 (cy : Int), .int .i64 (i : Int), .int .i64 hv] 87)) w8) =>
      (show WkSt w w8 (.slice Ao L.length co) v8 (L ++ kidsE l m (cx, cy) i 0) (cx, cy) i from
        ⟨by rw [kids0, HHERE.out.2 hv rfl, List.length_append, rtsV_app]; exact hO, fun z hz => (hi z hz).imp id (fun h => by omega), (((Chg.refl _ _).alloc _).drew.alloc _).trans' hC,
          ((HPB.out.drew).alloc _).chg hC (fun k => by have := HVO.out _ k; omega)⟩))
    have c3' := hid (fun (w8 : World) (h : Chg (fun z => Value.ownBlock (.slice Ao L.length co) = some z) w w8) => And.intro ((h.cell hbl (fun k => HFF.out _ k HBF.out) 2).trans c2) ((h.cell hbl (fun k => HFF.out _ k HBF.out) 3).trans c3))
    have hcS : ∀ w', Below (w.alloc (.cells #[.int .u64 (cx : Int), .int .u64 (cy : Int), .int .i64 (i : Int)] 51)).heap.size (w.alloc (.cells #[.int .u64 (cx : Int), .int .u64 (cy : Int), .int .i64 (i : Int)] 51)) w' → (w'.cell? ⟨w.heap.size, 0, none⟩ = some (.int .u64 (cx : Int)) ∧ w'.cell? ⟨w.heap.size, 1, none⟩ = some (.int .u64 (cy : Int)) ∧ w'.cell? ⟨w.heap.size, 2, none⟩ = some (.int .i64 (i : Int)) ∧ w'.cell? ⟨b, 1, none⟩ = some (.int .i64 hv)) := fun w' h =>
      ⟨(HPB.out.below' h).cellv (i := 0) rfl, (HPB.out.below' h).cellv (i := 1) rfl, (HPB.out.below' h).cellv (i := 2) rfl, ((((Below.refl w.heap.size w).alloc (Nat.le_refl _) _).trans (h.mono (by simp))).cell (p := ⟨b, 1, none⟩) hbl).trans c1⟩
    have HCS := hid hcS
    clear hcS
    go_enter Try.func58, Try.ntmps58
    go_wp2_with fail
    have hS : (w.alloc (.cells #[.int .u64 (cx : Int), .int .u64 (cy : Int), .int .i64 (i : Int)] 51)).drew.cell? ⟨w.heap.size, 0, none⟩ = some (.int .u64 (cx : Int)) ∧ (w.alloc (.cells #[.int .u64 (cx : Int), .int .u64 (cy : Int), .int .i64 (i : Int)] 51)).drew.cell? ⟨w.heap.size, 1, none⟩ = some (.int .u64 (cy : Int)) ∧ (w.alloc (.cells #[.int .u64 (cx : Int), .int .u64 (cy : Int), .int .i64 (i : Int)] 51)).drew.cell? ⟨w.heap.size, 2, none⟩ = some (.int .i64 (i : Int)) ∧ (w.alloc (.cells #[.int .u64 (cx : Int), .int .u64 (cy : Int), .int .i64 (i : Int)] 51)).drew.cell? ⟨b, 1, none⟩ = some (.int .i64 hv) := HCS.out _ ((Below.refl _ _).drew)
    refine wp_region_ord (fun w' => w'.cell? ⟨w.heap.size, 0, none⟩ = some (.int .u64 (cx : Int)) ∧ w'.cell? ⟨w.heap.size, 1, none⟩ = some (.int .u64 (cy : Int)) ∧ w'.cell? ⟨w.heap.size, 2, none⟩ = some (.int .i64 (i : Int)) ∧ w'.cell? ⟨b, 1, none⟩ = some (.int .i64 hv)) (by kernel_rfl) hS ?_
    refine ord_still 0 rfl (v := ?_) (by kernel_rfl) (fun _ _ _ h => h) rfl (fun W hW => ?_) hS ?_
    rotate_left
    · try dsimp only at hW
      go_simp
      try with_reducible rfl
    simp only [Act.put, List.setIfInBounds_toArray, List.set_cons_zero, List.set_cons_succ]
    refine ord_still 1 rfl (v := ?_) (by kernel_rfl) (fun _ _ _ h => h) rfl (fun W hW => ?_) hS ?_
    rotate_left
    · try dsimp only at hW
      go_simp
      try with_reducible rfl
    simp only [Act.put, List.setIfInBounds_toArray, List.set_cons_zero, List.set_cons_succ]
    refine ord_still 2 rfl (v := ?_) (by kernel_rfl) (fun _ _ _ h => h) rfl (fun W hW => ?_) hS ?_
    rotate_left
    · try dsimp only at hW
      go_simp
      try with_reducible rfl
    simp only [Act.put, List.setIfInBounds_toArray, List.set_cons_zero, List.set_cons_succ]
    refine ord_still 3 rfl (v := ?_) (by kernel_rfl) (fun _ _ _ h => h) rfl (fun W hW => ?_) hS ?_
    rotate_left
    · try dsimp only at hW
      go_simp
      try with_reducible rfl
    simp only [Act.put, List.setIfInBounds_toArray, List.set_cons_zero, List.set_cons_succ]
    refine ord_still 4 rfl (v := ?_) (by kernel_rfl) (fun _ _ _ h => h) rfl (fun W hW => ?_) hS ?_
    rotate_left
    · try dsimp only at hW
      go_simp
      try with_reducible rfl
    simp only [Act.put, List.setIfInBounds_toArray, List.set_cons_zero, List.set_cons_succ]
    refine ord_still 5 rfl (v := ?_) (by kernel_rfl) (fun _ _ _ h => h) rfl (fun W hW => ?_) hS ?_
    rotate_left
    · try dsimp only at hW
      go_simp
      try with_reducible rfl
    simp only [Act.put, List.setIfInBounds_toArray, List.set_cons_zero, List.set_cons_succ]
    refine ord_still 6 rfl (v := ?_) (by kernel_rfl) (fun _ _ _ h => h) rfl (fun W hW => ?_) hS ?_
    rotate_left
    · try dsimp only at hW
      go_simp
      try with_reducible rfl
    simp only [Act.put, List.setIfInBounds_toArray, List.set_cons_zero, List.set_cons_succ]
    refine ord_alone 7 rfl (by kernel_rfl) rfl (fun K hK => ?_)
    go_simp
    clear hS
    have hS : ((w.alloc (.cells #[.int .u64 (cx : Int), .int .u64 (cy : Int), .int .i64 (i : Int)] 51)).drew.alloc (.cells #[.int .u64 (cx : Int), .int .u64 (cy : Int), .int .i64 (i : Int), .int .i64 hv] 87)).cell? ⟨w.heap.size, 0, none⟩ = some (.int .u64 (cx : Int)) ∧ ((w.alloc (.cells #[.int .u64 (cx : Int), .int .u64 (cy : Int), .int .i64 (i : Int)] 51)).drew.alloc (.cells #[.int .u64 (cx : Int), .int .u64 (cy : Int), .int .i64 (i : Int), .int .i64 hv] 87)).cell? ⟨w.heap.size, 1, none⟩ = some (.int .u64 (cy : Int)) ∧ ((w.alloc (.cells #[.int .u64 (cx : Int), .int .u64 (cy : Int), .int .i64 (i : Int)] 51)).drew.alloc (.cells #[.int .u64 (cx : Int), .int .u64 (cy : Int), .int .i64 (i : Int), .int .i64 hv] 87)).cell? ⟨w.heap.size, 2, none⟩ = some (.int .i64 (i : Int)) ∧ ((w.alloc (.cells #[.int .u64 (cx : Int), .int .u64 (cy : Int), .int .i64 (i : Int)] 51)).drew.alloc (.cells #[.int .u64 (cx : Int), .int .u64 (cy : Int), .int .i64 (i : Int), .int .i64 hv] 87)).cell? ⟨b, 1, none⟩ = some (.int .i64 hv) := HCS.out _ (((Below.refl (w.alloc (.cells #[.int .u64 (cx : Int), .int .u64 (cy : Int), .int .i64 (i : Int)] 51)).heap.size (w.alloc (.cells #[.int .u64 (cx : Int), .int .u64 (cy : Int), .int .i64 (i : Int)] 51))).drew).alloc (Nat.le_refl _) _)
    refine hK.out _ _ hS ?_
    clear hK
    have hOA : Owns ((w.alloc (.cells #[.int .u64 (cx : Int), .int .u64 (cy : Int), .int .i64 (i : Int)] 51)).drew.alloc (.cells #[.int .u64 (cx : Int), .int .u64 (cy : Int), .int .i64 (i : Int), .int .i64 hv] 87)) 0 87 4 (.slice Ao L.length co) L.length (rtsV L) := Owns.below HO.out (((Below.refl w.heap.size w).alloc (Nat.le_refl _) _).drew.alloc (by simp) _)
    have hBk : Blk ((w.alloc (.cells #[.int .u64 (cx : Int), .int .u64 (cy : Int), .int .i64 (i : Int)] 51)).drew.alloc (.cells #[.int .u64 (cx : Int), .int .u64 (cy : Int), .int .i64 (i : Int), .int .i64 hv] 87)) (w.heap.size + 1) 87 (([(((cx, cy), (i : Int)), hv)] : List Rt).flatMap rtEn) := Blk.new_at _ _ _ _ (by simp)
    refine ord_alone 8 rfl (by kernel_rfl) rfl (fun K hK => ?_)
    refine wp_append_rdb _ _ 60 rfl 87 _ 4 32 Try.underlying60 rt_row rfl (by decide) 0 _ L.length (rtsV L) rfl hOA ⟨w.heap.size + 1, 0, none⟩ 1 ([(((cx, cy), (i : Int)), hv)] : List Rt) rfl (row_of_blk hBk rtEn_length) rtEn_length cells_rt ?_ ?_ (Nat.zero_le _) ?_
    · have := HL1.out; simp only [List.length_singleton]; unfold maxLen; omega
    · have := HL1.out; simp only [List.length_singleton]; omega
    intro v8 w8 hO8 hi8 hC8
    have H0 := hid (H00.out v8 w8 hO8 (fun z hz => (hi8 z hz).imp id (fun h => by simpa using h)) hC8)
    have hS8 : w8.cell? ⟨w.heap.size, 0, none⟩ = some (.int .u64 (cx : Int)) ∧ w8.cell? ⟨w.heap.size, 1, none⟩ = some (.int .u64 (cy : Int)) ∧ w8.cell? ⟨w.heap.size, 2, none⟩ = some (.int .i64 (i : Int)) ∧ w8.cell? ⟨b, 1, none⟩ = some (.int .i64 hv) := ⟨H0.out.pb.cellv (i := 0) rfl, H0.out.pb.cellv (i := 1) rfl, H0.out.pb.cellv (i := 2) rfl, (H0.out.ch.cell hbl (fun k => HFF.out _ k HBF.out) 1).trans c1⟩
    obtain ⟨e2, e3⟩ := c3'.out w8 H0.out.ch
    clear hS
    have hS := hS8
    clear hS8 hOA hBk hO8 hi8 hC8 c0 c1 c2 c3
    refine hK.out _ _ hS ?_
    clear hK
    refine ord_still 9 rfl (v := ?_) (by kernel_rfl) (fun _ _ _ h => h) rfl (fun W hW => ?_) hS ?_
    rotate_left
    · try dsimp only at hW
      go_simp
      try with_reducible rfl
    simp only [Act.put, List.setIfInBounds_toArray, List.set_cons_zero, List.set_cons_succ]
    refine ord_done (by kernel_rfl) ?_
    clear hS
    go_wp2_with fail
    go_loopw [2, 27] (fun v kv wr => WkRel w l m L (.slice Ao L.length co) (cx, cy) i v kv wr) (fun _ kv _ => 2 - (intOf kv).toNat)
    case atStart => exact ⟨0, by omega, rfl, H0.out⟩
    case round =>
      obtain ⟨k, hk2, rfl, hS⟩ := hrel
      clear H0
      have HS := hid hS
      have p0 : wr.cell? ⟨w.heap.size, 0, none⟩ = some (.int .u64 (cx : Int)) := hS.pb.cellv (i := 0) rfl
      have p1 : wr.cell? ⟨w.heap.size, 1, none⟩ = some (.int .u64 (cy : Int)) := hS.pb.cellv (i := 1) rfl
      have p2 : wr.cell? ⟨w.heap.size, 2, none⟩ = some (.int .i64 (i : Int)) := hS.pb.cellv (i := 2) rfl
      have hws : w.heap.size < wr.heap.size := hS.pb.lt
      clear hS
      obtain rfl | rfl | rfl : k = 0 ∨ k = 1 ∨ k = 2 := by omega
      · cases q0 with
        | none =>
          obtain rfl : V0 = none := by have h := HV0.out; injection h with h; exact h.symm
          have HN1 := hid (show kidsE l m (cx, cy) i 1 = kidsE l m (cx, cy) i 0 from by rw [kids1, kids0, HNN.out _ _ HQ0.out, List.append_nil])
          go_wp2_with fail
          go_roundw
          case rel => exact ⟨1, by omega, by go_num, HS.out.skip (Below.refl _ _) HN1.out⟩
          case measure => simp [intOf]
        | some b' =>
          obtain rfl : V0 = some ⟨b', 0, none⟩ := by have h := HV0.out; injection h with h; exact h.symm
          have hi : i < 128 := by
            rcases Nat.lt_or_ge i 128 with h | h
            · exact h
            · obtain rfl : i = 128 := by omega
              have := HQ0.out; rw [HD.out] at this; cases this
          have HI := hid hi
          have hwi : IntKind.i64.wrap ((i : Int) + 1) = (i : Int) + 1 := by rw [IntKind.wrap_i64]; omega
          have cC := hid (fun (w' : World) (h : Below wr.heap.size wr w') => HIH.out w' u2 (L ++ kidsE l m (cx, cy) i 0) (cx, cy) b' HI.out (HTR.out w' (HS.out.ch.trans' (Chg.of_below h _))) (Kok.zero HK.out HI.out) HQ0.out (HS.out.ro.below h) (HFE.out u2 HS.out.oi) (by rw [List.length_append, kids0]; have := HKL.out; have := HLE.out; omega))
          have HNE := hid (show L ++ kidsE l m (cx, cy) i 0 ++ underL l (cx, cy) (i + 1) = L ++ kidsE l m (cx, cy) i 1 from by rw [kids0, kids1]; simp)
          clear hi
          have hBf : Below wr.heap.size wr (wr.alloc (.cells #[.int .u64 (cx : Int), .int .u64 (cy : Int), .int .i64 ((i : Int) + 1)] 51)) := (Below.refl wr.heap.size wr).alloc (Nat.le_refl _) _
          go_wp2_with fail
          refine (cC.out _ hBf).mono ?_
          rintro _ w7 ⟨v7, rfl, hO7, hi7, hc7⟩
          have HST := hid (HS.out.call hBf HVO.out hO7 hi7 hc7)
          rw [HNE.out] at HST
          clear hO7 hi7 hc7 hBf cC
          go_wp2_with fail
          go_roundw
          case rel => exact ⟨1, by omega, by go_num, HST.out⟩
          case measure => simp [intOf]
      · cases q1 with
        | none =>
          obtain rfl : V1 = none := by have h := HV1.out; injection h with h; exact h.symm
          have HN1 := hid (show kidsE l m (cx, cy) i 2 = kidsE l m (cx, cy) i 1 from by rw [kids2, kids1, HNN.out _ _ HQ1.out, List.append_nil])
          go_wp2_with fail
          go_roundw
          case rel => exact ⟨2, by omega, by go_num, HS.out.skip (Below.refl _ _) HN1.out⟩
          case measure => simp [intOf]
        | some b' =>
          obtain rfl : V1 = some ⟨b', 0, none⟩ := by have h := HV1.out; injection h with h; exact h.symm
          have hi : i < 128 := by
            rcases Nat.lt_or_ge i 128 with h | h
            · exact h
            · obtain rfl : i = 128 := by omega
              have := HQ1.out; rw [HD.out] at this; cases this
          have HI := hid hi
          have hwi : IntKind.i64.wrap ((i : Int) + 1) = (i : Int) + 1 := by rw [IntKind.wrap_i64]; omega
          have cC := hid (fun (w' : World) (h : Below wr.heap.size wr w') => HIH.out w' u2 (L ++ kidsE l m (cx, cy) i 1) (Ad.with (cx, cy) i) b' HI.out (HTR.out w' (HS.out.ch.trans' (Chg.of_below h _))) (Kok.one HK.out HI.out) HQ1.out (HS.out.ro.below h) (HFE.out u2 HS.out.oi) (by rw [List.length_append, kids1]; rw [List.length_append]; have := HKL.out; have := HLE.out; omega))
          have HNE := hid (show L ++ kidsE l m (cx, cy) i 1 ++ underL l (Ad.with (cx, cy) i) (i + 1) = L ++ kidsE l m (cx, cy) i 2 from by rw [kids1, kids2]; simp)
          clear hi
          have cW := hid (HWI.out HI.out)
          obtain ⟨wx, wy, hw⟩ : ∃ x y, Ad.with (cx, cy) i = ((x, y) : Ad) := ⟨_, _, rfl⟩
          rw [hw] at cW cC HNE
          clear hw
          have HPQ := hid (Blk.new wr [.int .u64 (cx : Int), .int .u64 (cy : Int), .int .i64 ((i : Int) + 1)] 51)
          go_wp2_with fail
          refine (cW.out _).mono ?_
          rintro _ w5 ⟨rfl, hb5⟩
          have HP5 := hid (HPQ.out.below' hb5)
          have HC5 := hid ((Chg.of_below ((Below.refl wr.heap.size wr).alloc (Nat.le_refl _) (.cells #[.int .u64 (cx : Int), .int .u64 (cy : Int), .int .i64 ((i : Int) + 1)] 51)) (fun _ => False)).trans' (Chg.of_below hb5 _))
          have t0 := HP5.out.cellv (i := 0) rfl
          have t1 := HP5.out.cellv (i := 1) rfl
          have t2 := HP5.out.cellv (i := 2) rfl
          have f0 := HP5.out.frozen 0
          have f1 := HP5.out.frozen 1
          have hBf : Below wr.heap.size wr ((w5.setCell ⟨wr.heap.size, 0, none⟩ (.int .u64 (wx : Int))).setCell ⟨wr.heap.size, 1, none⟩ (.int .u64 (wy : Int))) :=
            ((HC5.out.setCell (p := ⟨wr.heap.size, 0, none⟩) (fun h => absurd h (Nat.lt_irrefl _)) (.int .u64 (wx : Int))).setCell (p := ⟨wr.heap.size, 1, none⟩) (fun h => absurd h (Nat.lt_irrefl _)) (.int .u64 (wy : Int))).below (Nat.le_refl _) (fun _ _ h => h)
          clear hb5 cW
          go_wp2_with fail
          refine (cC.out _ hBf).mono ?_
          rintro _ w7 ⟨v7, rfl, hO7, hi7, hc7⟩
          have HST := hid (HS.out.call hBf HVO.out hO7 hi7 hc7)
          rw [HNE.out] at HST
          clear hO7 hi7 hc7 hBf cC
          go_wp2_with fail
          go_roundw
          case rel => exact ⟨2, by omega, by go_num, HST.out⟩
          case measure => simp [intOf]
      · have HF := hid (show WkPost w (.slice Ao L.length co) (L ++ underL l (cx, cy) i) (.returned u2) wr from ⟨_, rfl, by rw [← HKA.out]; exact HS.out.ro, fun z hz => (HS.out.oi z hz).imp id (fun h => by omega), HS.out.ch⟩)
        go_wp2_with fail
        go_ret
        exact HF.out

theorem walk_at : ∀ d, WalkAt d
  | 0 => walk_step 0 fun d' h => by omega
  | d + 1 => walk_step (d + 1) fun d' h => by
    obtain rfl : d' = d := by omega
    exact walk_at d'

theorem trie_all {w : World} {g : Nat} {F : Nat → Prop} {N : Ad → Nat → Option Nat} {m : Ad → Nat → Option Int} {n : Int} (H : TrieN w g F N m n) (l : List Rt) (hs : SL l) (hsay : Says m l) (hok : ∀ r ∈ l, r.1.1.ok) (hl : l.length ≤ 1000000) :
    Calls Try.prog 44 #[.pointer (some ⟨g, 0, none⟩)] w (RetRts w (l.filter fun r => decide r.1.right)) := by
  have c1 := hid (walk_at 128 w g F N m n l (0, 0) 0 g 0 (.slice none 0 0) [] H hs hsay hok Kok.root rfl H.root rfl (Owns.nil _ _ _ _) (fun z hz => by cases hz) (by rw [under_root hok]; have := List.length_filter_le (fun r : Rt => decide r.1.right) l; simp; omega))
  rw [under_root hok, List.nil_append] at c1
  clear H
  go_enter Try.func44, Try.ntmps44
  go_wp2_with fail
  refine c1.out.mono ?_
  rintro _ w1 ⟨v1, rfl, hO, hi, hC⟩
  have HF := hid (show RetRts w (l.filter fun r => decide r.1.right) (.returned v1) w1 from ⟨v1, rfl, Owns.raise hO (fun z hz => (hi z hz).elim (fun k => by cases k) id), hC.below (Nat.le_refl _) (fun z hz k => by cases k)⟩)
  clear hO hi hC c1
  go_wp2_with fail
  go_ret
  exact HF.out
end Go.Proofs.Ytcnecjjgnnkjkaa
