/-
  The walk of the law TrieNested: for all inputs it returns true and leaves memory alone. No condition.
-/
import Derived.Test.YtjhgmjfjlndomaaTrieCovers
namespace Go.Proofs.Ytjhgmjfjlndomaa
open Go.RowKit
set_option linter.unusedVariables false
set_option linter.unusedSimpArgs false
set_option maxRecDepth 100000
attribute [local go_sem high] eq_ad eq_pf eq_rt

theorem and_low (x : Int) : bits .and .i64 x 1023 = x % 1024 := by
  unfold bits
  have h1 : ((BitVec.ofInt IntKind.i64.bits x) &&& (BitVec.ofInt IntKind.i64.bits 1023)).toNat = (BitVec.ofInt 64 x).toNat % 2 ^ 10 := by
    show ((BitVec.ofInt 64 x) &&& (BitVec.ofInt 64 1023)).toNat = _
    rw [BitVec.toNat_and, show (BitVec.ofInt 64 1023).toNat = 2 ^ 10 - 1 from by decide, Nat.and_two_pow_sub_one_eq_mod]
  show IntKind.i64.wrap ((((BitVec.ofInt IntKind.i64.bits x) &&& (BitVec.ofInt IntKind.i64.bits 1023)).toNat : Nat) : Int) = _
  rw [h1, BitVec.toNat_ofInt, IntKind.wrap_i64]
  omega
def iEn (n : Int) : List Value := [.int .i64 n]
def bEn (b : Bool) : List Value := [.bool b]
theorem iEn_len (n : Int) : (iEn n).length = 1 := rfl
theorem bEn_len (b : Bool) : (bEn b).length = 1 := rfl
theorem open_i : Opens Try.prog 3 Int iEn (fun n => (Lit.int .i64 n).wf = true) := Opens.int Try.underlying3 (by kernel_rfl)
theorem open_b : Opens Try.prog 4 Bool bEn (fun _ => True) := Opens.bool Try.underlying4 (by kernel_rfl)
theorem i_cells : Try.prog.cellsOf 3 = 1 := by kernel_rfl
theorem b_cells : Try.prog.cellsOf 4 = 1 := by kernel_rfl

/-- Which lengths of one address have a route. -/
def nestM (a : Ad) (th : List Bool) : Ad → Nat → Option Int := fun c k => if c = a.cut k ∧ th.getD k false = true then some (k : Int) else none
theorem getD_set_b (th : List Bool) (n : Nat) (b : Bool) (hn : n < th.length) (k : Nat) : (th.set n b).getD k false = if k = n then b else th.getD k false := by
  simp only [List.getD_eq_getElem?_getD, List.getElem?_set]
  by_cases h : n = k
  · subst h; simp [hn]
  · rw [if_neg h, if_neg (fun e => h e.symm)]
theorem nest_set (a : Ad) (th : List Bool) (n : Nat) (b : Bool) (hn : n < th.length) : updN (nestM a th) (a.cut n) n (if b = true then some (n : Int) else none) = nestM a (th.set n b) := by
  funext c k
  unfold updN nestM
  rw [getD_set_b th n b hn]
  by_cases h : c = a.cut n ∧ k = n
  · obtain ⟨rfl, rfl⟩ := h
    rw [if_pos ⟨rfl, rfl⟩, if_pos rfl]; simp
  · rw [if_neg h]
    by_cases h2 : k = n
    · subst h2; rw [if_neg (fun e => h ⟨e.1, rfl⟩), if_neg (fun e => h ⟨e.1, rfl⟩)]
    · rw [if_neg h2]
theorem nest_same (a : Ad) (th : List Bool) (n : Nat) (hn : n < th.length) (h : th.getD n false = false) : nestM a (th.set n false) = nestM a th := by
  funext c k
  unfold nestM
  rw [getD_set_b th n false hn]
  by_cases h2 : k = n
  · subst h2; rw [if_pos rfl, h]
  · rw [if_neg h2]
theorem nest_at (a : Ad) (th : List Bool) (n : Nat) : nestM a th (a.cut n) n = if th.getD n false = true then some (n : Int) else none := by
  unfold nestM; by_cases h : th.getD n false = true
  · rw [if_pos ⟨rfl, h⟩, if_pos h]
  · rw [if_neg (fun e => h e.2), if_neg h]
/-- How many have. -/
def cntT (th : List Bool) : Int := (th.count true : Int)
theorem cntT_set (th : List Bool) (n : Nat) (b : Bool) (hn : n < th.length) : cntT (th.set n b) = cntT th - (if th.getD n false = true then 1 else 0) + (if b = true then 1 else 0) := by
  unfold cntT
  rw [List.count_set hn]
  have e : th.getD n false = th[n] := by simp [hn]
  rw [e]
  cases hx : th[n] <;> cases b <;> simp
  · have : 0 < th.count true := List.count_pos_iff.2 (by rw [← hx]; exact List.getElem_mem hn)
    omega
  · have : 0 < th.count true := List.count_pos_iff.2 (by rw [← hx]; exact List.getElem_mem hn)
    omega

theorem best_step {m : Ad → Nat → Option Int} {b : Ad} (k : Nat) : bestT m b (-1) (k + 1) = match m (b.cut k) k with | some h => some (k, h) | none => bestT m b (-1) k := by
  rw [bestT, if_pos (by omega)]
  cases m (b.cut k) k <;> rfl
def bI (v : Option (Nat × Int)) : Int := match v with | some (j, _) => (j : Int) | none => -1
/-- The value stands for its own length. -/
theorem nest_best {a b : Ad} {th : List Bool} {K j : Nat} {h : Int} (e : bestT (nestM a th) b (-1) K = some (j, h)) : h = (j : Int) := by
  have h3 := (bestT_lt e).2.2
  unfold nestM at h3
  split at h3
  · injection h3 with h3; exact h3.symm
  · cases h3
theorem nest_step {a b : Ad} (ha : a.ok) (hb : b.ok) {th : List Bool} {k : Nat} (hk : k ≤ a.com b) : bestT (nestM a th) b (-1) (k + 1) = if th.getD k false = true then some (k, (k : Int)) else bestT (nestM a th) b (-1) k := by
  have hI := Ad.com_is a b
  have hc : b.cut k = a.cut k := (Ad.cut_eq hb ha k (by have := hI.1; omega)).2 fun i hi => (hI.2.1 i (by omega)).symm
  rw [best_step, hc, nest_at]
  by_cases h : th.getD k false = true
  · rw [if_pos h, if_pos h]
  · rw [if_neg h, if_neg h]
theorem nest_end {a b : Ad} (ha : a.ok) (hb : b.ok) (th : List Bool) : bestT (nestM a th) b (-1) 129 = bestT (nestM a th) b (-1) (a.com b + 1) := by
  have hI := Ad.com_is a b
  refine bestT_none (by have := hI.1; omega) fun j h1 h2 => ?_
  unfold nestM
  rw [if_neg]
  rintro ⟨e, _⟩
  have := (Ad.cut_eq hb ha j (by omega)).1 e (a.com b) (by omega)
  exact hI.2.2 (by omega) this.symm

theorem nest_get {a : Ad} (ha : a.ok) (th : List Bool) (n : Nat) (hn : n ≤ 128) : getV (nestM a th) (a.cut n, (n : Int)) = if th.getD n false = true then some (n : Int) else none := by
  unfold getV
  rw [if_pos ⟨by simp, by show (n : Int) ≤ 128; omega, by show (a.cut n).cut (n : Int).toNat = a.cut n; rw [Int.toNat_natCast, Ad.cut_cut ha n n hn hn, Nat.min_self]⟩]
  show nestM a th (a.cut n) (n : Int).toNat = _
  rw [Int.toNat_natCast, nest_at]
theorem nest_del {a : Ad} (ha : a.ok) (th : List Bool) (n : Nat) (hn : n ≤ 128) (hl : th.length = 129) :
    (if (getV (nestM a th) (a.cut n, (n : Int))).isSome then updN (nestM a th) (a.cut n) (n : Int).toNat none else nestM a th) = nestM a (th.set n false) ∧
    (if (getV (nestM a th) (a.cut n, (n : Int))).isSome then cntT th - 1 else cntT th) = cntT (th.set n false) := by
  rw [nest_get ha th n hn, Int.toNat_natCast, cntT_set th n false (by omega)]
  have h0 := nest_set a th n false (by omega)
  rw [if_neg (by decide)] at h0
  by_cases h : th.getD n false = true
  · rw [if_pos h, if_pos h]; simp only [Option.isSome_some, if_true]
    exact ⟨h0, by simp⟩
  · rw [if_neg h, if_neg h]
    refine ⟨?_, by simp⟩
    rw [nest_same a th n (by omega) (by simpa using h)]; rfl
theorem nest_put {a : Ad} (ha : a.ok) (th : List Bool) (n : Nat) (hn : n ≤ 128) (hl : th.length = 129) :
    putM (nestM a th) (a.cut n, (n : Int)) (n : Int) = nestM a (th.set n true) ∧ putC (nestM a th) (a.cut n, (n : Int)) (cntT th) = cntT (th.set n true) := by
  have hr : Pf.right (a.cut n, (n : Int)) := ⟨by simp, by show (n : Int) ≤ 128; omega, by show (a.cut n).cut (n : Int).toNat = a.cut n; rw [Int.toNat_natCast, Ad.cut_cut ha n n hn hn, Nat.min_self]⟩
  have h0 := nest_set a th n true (by omega)
  rw [if_pos rfl] at h0
  unfold putM putC
  rw [if_pos hr, if_pos hr]
  show updN (nestM a th) (a.cut n) (n : Int).toNat (some (n : Int)) = _ ∧ (if (nestM a th (a.cut n) (n : Int).toNat).isSome then cntT th else cntT th + 1) = _
  rw [Int.toNat_natCast, nest_at, cntT_set th n true (by omega)]
  refine ⟨h0, ?_⟩
  by_cases h : th.getD n false = true
  · rw [if_pos h, if_pos h]; simp
  · rw [if_neg h, if_neg h]; simp
theorem nest_none (a : Ad) (n : Nat) : nestM a (List.replicate n false) = fun _ _ => none := by
  funext c k
  unfold nestM
  rw [if_neg]
  rintro ⟨_, h⟩
  have e : (List.replicate n false).getD k false = false := by
    simp only [List.getD_eq_getElem?_getD, List.getElem?_replicate]; split <;> rfl
  rw [e] at h
  cases h
theorem cntT_none (n : Nat) : cntT (List.replicate n false) = 0 := by unfold cntT; simp [List.count_replicate]
theorem cntT_le (th : List Bool) (h : th.length = 129) : 0 ≤ cntT th ∧ cntT th ≤ 129 := by
  unfold cntT; have := List.count_le_length (a := true) (l := th); omega

def bools (th : List Bool) : List Value := th.map Value.bool
theorem bools_get {th : List Bool} {i : Nat} (h : i < th.length) : (bools th)[i]? = some (.bool (th.getD i false)) := by
  simp [bools, h]
theorem bools_set (th : List Bool) (i : Nat) (b : Bool) : (bools th).set i (.bool b) = bools (th.set i b) := by simp [bools, List.map_set]

def NestLoop (W : World) (g q : Nat) (L : Nat) (a b : Ad) (i : Value) (wr : World) : Prop :=
  ∃ (k : Nat) (F : Nat → Prop) (N : Ad → Nat → Option Nat) (th : List Bool), k ≤ L ∧ i = .int .i64 k ∧ th.length = 129 ∧ TrieN wr g F N (nestM a th) (cntT th) ∧ (∀ x, F x → W.heap.size + 1 < x ∧ x ≠ q) ∧ Blk wr q 4 (bools th) ∧
    Blk wr W.heap.size 24 [.int .u64 (a.1 : Int), .int .u64 (a.2 : Int)] ∧ Blk wr (W.heap.size + 1) 24 [.int .u64 (b.1 : Int), .int .u64 (b.2 : Int)] ∧ Below W.heap.size W wr
def NestLoop2 (W : World) (g q : Nat) (a b : Ad) (th : List Bool) (be n : Value) (wr : World) : Prop :=
  ∃ (k : Nat) (F : Nat → Prop) (N : Ad → Nat → Option Nat), k ≤ a.com b + 1 ∧ n = .int .i64 k ∧ be = .int .i64 (bI (bestT (nestM a th) b (-1) k)) ∧ TrieN wr g F N (nestM a th) (cntT th) ∧ Blk wr q 4 (bools th) ∧
    Blk wr (W.heap.size + 1) 24 [.int .u64 (b.1 : Int), .int .u64 (b.2 : Int)] ∧ Below W.heap.size W wr

theorem trieNested_out (W : World) (a b : Ad) (A : Option Addr) (cap n : Nat) (hl : n ≤ cap) (hc : cap ≤ maxLen) (B : Option Addr) (cap2 n2 : Nat) (hl2 : n2 ≤ cap2) (hc2 : cap2 ≤ maxLen) (h : ¬ (n ≤ 60 ∧ n ≤ n2)) :
    Calls Try.prog 7 #[.agg #[.int .u64 (a.1 : Int), .int .u64 (a.2 : Int)], .agg #[.int .u64 (b.1 : Int), .int .u64 (b.2 : Int)], .slice A n cap, .slice B n2 cap2] W fun e W' => e = .returned (.bool true) ∧ Below W.heap.size W W' := by
  unfold maxLen at hc hc2
  obtain ⟨x, y⟩ := a
  obtain ⟨z, t⟩ := b
  go_enter Try.func7, Try.ntmps7
  go_wp2_with fail
  refine (trie_alive _).mono ?_
  rintro e w1 ⟨rfl, hb⟩
  have hb' := hid (Below.trans (b := _) (((Below.refl W.heap.size W).alloc (Nat.le_refl _) _).alloc (by simp) _) (hb.mono (by simp; omega)))
  clear hb
  go_wp2_with fail
  all_goals (go_ret; exact ⟨rfl, hb'.out⟩)

theorem b_row : (Try.prog.info? 4).map (fun i => (i.zero, i.size, i.bytes)) = some (some (.bool false), 1, 1) := by kernel_rfl

set_option maxHeartbeats 2000000 in
theorem trieNested_in (W : World) (a b : Ad) (ha : a.ok) (hb : b.ok) (v2 : Value) (ls : List Int) (R2 : Rd iEn 1 W v2 ls) (v3 : Value) (gs : List Bool) (R3 : Rd bEn 1 W v3 gs) (h60 : ls.length ≤ 60) (hle : ls.length ≤ gs.length) :
    Calls Try.prog 7 #[.agg #[.int .u64 (a.1 : Int), .int .u64 (a.2 : Int)], .agg #[.int .u64 (b.1 : Int), .int .u64 (b.2 : Int)], v2, v3] W fun e W' => e = .returned (.bool true) ∧ Below W.heap.size W W' := by
  have HR2 := hid fun k x (h : ls[k]? = some x) => R2.get iEn_len (by decide) h
  have HR3 := hid fun k x (h : gs[k]? = some x) => R3.get bEn_len (by decide) h
  obtain ⟨A, cap, rfl, hl, hc⟩ := R2.form
  obtain ⟨B, cap2, rfl, hl2, hc2⟩ := R3.form
  obtain ⟨L, hL⟩ : ∃ L, ls.length = L := ⟨_, rfl⟩
  obtain ⟨G, hG⟩ : ∃ G, gs.length = G := ⟨_, rfl⟩
  have HL := hid hL
  have HG := hid hG
  have HA := hid ha
  have HBo := hid hb
  unfold maxLen at hc hc2
  rw [hL] at h60 hle hl ⊢
  rw [hG] at hle hl2 ⊢
  have hmk := fun w => make_at (P := Try.prog) 56 4 (.bool false) 1 Try.underlying56 b_row rfl .i64 .i64 129 129 rfl (by omega) (by omega) w
  have ccut := hid fun k (hk : k ≤ 128) w => ref_cutN a ha k hk _ rfl w
  have ccom := hid fun w => ref_common a b ha hb w
  have d1 : decide ((60 : Int) < (L : Int)) = false := decide_eq_false (by omega)
  have d2 : decide (G < L) = false := decide_eq_false (by omega)
  have d3 : decide ((G : Int) < (L : Int)) = false := decide_eq_false (by omega)
  clear R2 R3 hL hG ha hb
  obtain ⟨x, y⟩ := a
  obtain ⟨z, t⟩ := b
  go_enter Try.func7, Try.ntmps7
  go_wp2_with fail
  refine (trie_alive _).mono ?_
  rintro e w1 ⟨rfl, hb⟩
  have hB := hid (Below.trans (b := _) (((Below.refl W.heap.size W).alloc (Nat.le_refl _) (.cells #[.int .u64 (x : Int), .int .u64 (y : Int)] 24)).alloc (by simp) (.cells #[.int .u64 (z : Int), .int .u64 (t : Int)] 24)) (hb.mono (by simp; omega)))
  have hX := hid (((Blk.new_at W #[.int .u64 (x : Int), .int .u64 (y : Int)] 24 W.heap.size rfl).alloc (.cells #[.int .u64 (z : Int), .int .u64 (t : Int)] 24)).below' hb)
  have hY := hid ((Blk.new_at (W.alloc (.cells #[.int .u64 (x : Int), .int .u64 (y : Int)] 24)) #[.int .u64 (z : Int), .int .u64 (t : Int)] 24 (W.heap.size + 1) (by simp)).below' hb)
  have hlt1 : W.heap.size + 1 < w1.heap.size := hY.out.lt
  clear hb
  go_wp2_with fail
  clear hmk
  go_loopw [12] (fun i' wr => NestLoop W w1.heap.size (w1.heap.size + 1) L (x, y) (z, t) i' wr) (fun i' _ => L - (intOf i').toNat)
  case atStart =>
    refine ⟨0, fun x => x = w1.heap.size, fun c i => if c = (0, 0) ∧ i = 0 then some w1.heap.size else none, List.replicate 129 false, Nat.zero_le _, rfl, by simp, ?_, ?_, ?_, (hX.out.alloc _).alloc _, (hY.out.alloc _).alloc _, (hB.out.alloc hB.out.size _).alloc (hB.out.alloc hB.out.size _).size _⟩
    · rw [nest_none, cntT_none]
      exact (TrieN.new w1).below ((Below.refl _ _).alloc (Nat.le_refl _) _)
    · intro v hv; omega
    · have := Blk.made (w1.alloc (.cells #[.bool false, .int .i64 0, .pointer none, .pointer none, .int .i64 0] 47)) (.bool false) 129 4
      simpa [bools] using this
  case round =>
    clear hX hY hB
    obtain ⟨k, F, N, th, hk, rfl, hth, hT, hF, hQ, hX, hY, hB⟩ := hrel
    by_cases hlt : k < L
    · have hget2 : ls[k]? = some (ls[k]'(by rw [HL.out]; exact hlt)) := List.getElem?_eq_getElem _
      have hget3 : gs[k]? = some (gs[k]'(by rw [HG.out]; omega)) := List.getElem?_eq_getElem _
      generalize ls[k]'_ = lv at hget2
      generalize gs[k]'_ = gv at hget3
      obtain ⟨b2, o2, ca, hv2, _, _, hbl2, hc2'⟩ := HR2.out k lv hget2
      obtain ⟨b3, o3, cb, hv3, _, _, hbl3, hc3'⟩ := HR3.out k gv hget3
      injection hv2 with hA2 hx2 hca
      injection hv3 with hA3 hx3 hcb
      subst hA2 hca hA3 hcb
      clear hx2 hx3
      have y2 : wr.cell? ⟨b2, o2 + k, none⟩ = some (.int .i64 lv) := by
        have := (hB.cell (p := ⟨b2, o2 + k * 1 + 0, none⟩) hbl2).trans (hc2' 0 _ rfl)
        simpa using this
      have Y3 := hid (show W.cell? ⟨b3, o3 + k, none⟩ = some (.bool gv) by simpa using hc3' 0 _ rfl)
      have y3 : wr.cell? ⟨b3, o3 + k, none⟩ = some (.bool gv) := by
        have := (hB.cell (p := ⟨b3, o3 + k * 1 + 0, none⟩) hbl3).trans (hc3' 0 _ rfl)
        simpa using this
      obtain ⟨u, hu⟩ : ∃ u : Nat, lv % 1024 = (u : Int) := Int.eq_ofNat_of_zero_le (Int.emod_nonneg _ (by decide))
      have hu2 : u < 1024 := by omega
      have hand := and_low lv
      rw [hu] at hand
      obtain ⟨nn, hnn⟩ : ∃ nn : Nat, nn = u % 129 := ⟨_, rfl⟩
      have hn128 : nn ≤ 128 := by omega
      have hni : (u : Int) % 129 = (nn : Int) := by omega
      have HNI := hid hni
      have HNN := hid hnn
      have cc := hid (ccut.out nn hn128)
      have x0 := hX.cellv (i := 0) rfl
      have x1 := hX.cellv (i := 1) rfl
      have HT := hid hT
      have HF := hid hF
      have HQ := hid hQ
      have HX := hid hX
      have HY := hid hY
      have HB := hid hB
      have HTH := hid hth
      have hrl := HY.out.lt
      have hbl2' : b2 < wr.heap.size := Nat.lt_of_lt_of_le hbl2 hB.size
      have hbl3' : b3 < wr.heap.size := Nat.lt_of_lt_of_le hbl3 hB.size
      clear hget2 hget3 hc2' hc3' hu hnn hni hT hF hQ hX hY hB hth
      generalize hcut : Ad.cut (x, y) nn = r at cc
      have HCUT := hid hcut
      clear hcut
      obtain ⟨rx, ry⟩ := r
      go_wp2_with fail
      rw [HNI.out]
      refine (cc.out _).mono ?_
      rintro _ w3 ⟨rfl, hb3⟩
      have hd3 := HB.out.size
      have HT3 := hid ((HT.out.below hb3).below ((Below.refl w3.heap.size w3).alloc (Nat.le_refl _) (.cells #[.int .u64 (rx : Int), .int .u64 (ry : Int), .int .i64 (nn : Int)] 26)))
      have BP := hid (Blk.new_at w3 #[.int .u64 (rx : Int), .int .u64 (ry : Int), .int .i64 (nn : Int)] 26 w3.heap.size rfl)
      have HQ3 := hid ((HQ.out.below' hb3).alloc (.cells #[.int .u64 (rx : Int), .int .u64 (ry : Int), .int .i64 (nn : Int)] 26))
      have HX3 := hid ((HX.out.below' hb3).alloc (.cells #[.int .u64 (rx : Int), .int .u64 (ry : Int), .int .i64 (nn : Int)] 26))
      have HY3 := hid ((HY.out.below' hb3).alloc (.cells #[.int .u64 (rx : Int), .int .u64 (ry : Int), .int .i64 (nn : Int)] 26))
      have HB3 := hid ((held_next HB.out hb3).alloc (held_next HB.out hb3).size (.cells #[.int .u64 (rx : Int), .int .u64 (ry : Int), .int .i64 (nn : Int)] 26))
      have HFL := hid (fun z hz => HT.out.lt z hz)
      have hs3 := hb3.size
      have y3 := (hb3.cell (p := ⟨b3, o3 + k, none⟩) hbl3').trans y3
      have hbl3w : b3 < w3.heap.size := Nat.lt_of_lt_of_le hbl3' hs3
      have HQL := hid (show w1.heap.size + 1 < w3.heap.size from Nat.lt_of_lt_of_le HQ.out.lt hs3)
      clear hb3 HT HQ HX HY HB y2 x0 x1 hand
      have hcl := cntT_le th HTH.out
      have hro : Ad.ok (rx, ry) := by rw [← HCUT.out]; exact Ad.cut_ok HA.out nn
      cases gv
      · have cp := hid (trie_put HT3.out hcl.1 (by omega) ((rx, ry), (nn : Int)) hro (nn : Int))
        go_wp2_with fail
        refine cp.out.mono ?_
        rintro _ w5 ⟨rfl, F', N', hT5, hC5, hF5⟩
        have eE := nest_put HA.out th nn hn128 HTH.out
        rw [HCUT.out] at eE
        rw [eE.1, eE.2] at hT5
        have hq3 := HQ3.out.lt
        have hwq : w1.heap.size + 1 < w3.heap.size := by have := HQL.out; omega
        have HX5 := hid (HX3.out.chg hC5 (fun h => by have := (HF.out _ h).1; omega))
        have HY5 := hid (HY3.out.chg hC5 (fun h => by have := (HF.out _ h).1; omega))
        have HQ5 := hid (HQ3.out.chg hC5 (fun h => (HF.out _ h).2 rfl))
        have HB5 := hid (HB3.out.trans (hC5.below (by have := HB3.out.size; omega) (fun z hz h => by have := (HF.out z h).1; omega)))
        have HF5 := hid (show ∀ z, F' z → W.heap.size + 1 < z ∧ z ≠ w1.heap.size + 1 from fun z hz => (hF5 z hz).elim (fun h => HF.out z h) (fun h => by simp at h; omega))
        have HT5 := hid hT5
        have y5 := (HB5.out.cell (p := ⟨b3, o3 + k, none⟩) hbl3).trans Y3.out
        have q5 := HQ5.out.cellv (i := nn) (bools_get (by have := HTH.out; omega))
        have qf5 := HQ5.out.frozen nn
        have HTQ := hid (fun (h : F' (w1.heap.size + 1)) => (HF5.out _ h).2 rfl)
        have HSZ := HB5.out.size
        clear hT5 hC5 hF5 eE HX3 HY3 HQ3 HB3 HF HT3 BP y3 cp
        go_wp2_with fail
        go_roundw
        case rel =>
          refine ⟨k + 1, F', N', th.set nn true, by omega, by go_num, by rw [List.length_set]; exact HTH.out, ?_, HF5.out, ?_, HX5.out.set_ne (by simp; omega) _, HY5.out.set_ne (by simp; omega) _, HB5.out.setCell (by simp; omega) _⟩
          · exact HT5.out.chg (Chg.store _ _ _ _) (fun z hz e => by subst e; exact HTQ.out hz)
          · rw [← bools_set]; exact HQ5.out.set nn _
        case measure => simp [intOf]; omega
      · have cp := hid (trie_delete HT3.out hcl.1 (by omega) ((rx, ry), (nn : Int)) hro)
        go_wp2_with fail
        refine cp.out.mono ?_
        rintro _ w5 ⟨rfl, F', N', hT5, hC5, hF5⟩
        have eE := nest_del HA.out th nn hn128 HTH.out
        rw [HCUT.out] at eE
        rw [eE.1, eE.2] at hT5
        have hq3 := HQ3.out.lt
        have hwq : w1.heap.size + 1 < w3.heap.size := by have := HQL.out; omega
        have HX5 := hid (HX3.out.chg hC5 (fun h => by have := (HF.out _ h).1; omega))
        have HY5 := hid (HY3.out.chg hC5 (fun h => by have := (HF.out _ h).1; omega))
        have HQ5 := hid (HQ3.out.chg hC5 (fun h => (HF.out _ h).2 rfl))
        have HB5 := hid (HB3.out.trans (hC5.below (by have := HB3.out.size; omega) (fun z hz h => by have := (HF.out z h).1; omega)))
        have HF5 := hid (show ∀ z, F' z → W.heap.size + 1 < z ∧ z ≠ w1.heap.size + 1 from fun z hz => (hF5 z hz).elim (fun h => HF.out z h) (fun h => by simp at h; omega))
        have HT5 := hid hT5
        have y5 := (HB5.out.cell (p := ⟨b3, o3 + k, none⟩) hbl3).trans Y3.out
        have q5 := HQ5.out.cellv (i := nn) (bools_get (by have := HTH.out; omega))
        have qf5 := HQ5.out.frozen nn
        have HTQ := hid (fun (h : F' (w1.heap.size + 1)) => (HF5.out _ h).2 rfl)
        have HSZ := HB5.out.size
        clear hT5 hC5 hF5 eE HX3 HY3 HQ3 HB3 HF HT3 BP y3 cp
        go_wp2_with fail
        go_roundw
        case rel =>
          refine ⟨k + 1, F', N', th.set nn false, by omega, by go_num, by rw [List.length_set]; exact HTH.out, ?_, HF5.out, ?_, HX5.out.set_ne (by simp; omega) _, HY5.out.set_ne (by simp; omega) _, HB5.out.setCell (by simp; omega) _⟩
          · exact HT5.out.chg (Chg.store _ _ _ _) (fun z hz e => by subst e; exact HTQ.out hz)
          · rw [← bools_set]; exact HQ5.out.set nn _
        case measure => simp [intOf]; omega
    · have HT := hid hT
      have HQ := hid hQ
      have HY := hid hY
      have HB := hid hB
      have HTH := hid hth
      have x0 := hX.cellv (i := 0) rfl
      have x1 := hX.cellv (i := 1) rfl
      have z0 := hY.cellv (i := 0) rfl
      have z1 := hY.cellv (i := 1) rfl
      have hcom := (Ad.com_is (x, y) (z, t)).1
      have hs := hB.size
      clear hT hQ hX hY hB hF hth
      have hend := hid (nest_end HA.out HBo.out th)
      have hstep := hid fun k hk => nest_step HA.out HBo.out (th := th) (k := k) hk
      generalize hC : Ad.com (x, y) (z, t) = C at ccom hcom hend hstep
      have HC := hid hC
      clear hC
      go_wp2_with fail
      refine (ccom.out _).mono ?_
      rintro _ w3 ⟨rfl, hb3⟩
      have HT3 := hid (HT.out.below hb3)
      have HQ3 := hid (HQ.out.below' hb3)
      have HY3 := hid (HY.out.below' hb3)
      have HB3 := hid (held_next HB.out hb3)
      clear hb3 HT HQ HY HB x0 x1 z0 z1
      go_wp2_with fail
      go_loopw [15, 17] (fun be n' wr => NestLoop2 W w1.heap.size (w1.heap.size + 1) (x, y) (z, t) th be n' wr) (fun _ n' _ => C + 1 - (intOf n').toNat)
      case atStart => exact ⟨0, F, N, by omega, rfl, rfl, HT3.out, HQ3.out, HY3.out, HB3.out⟩
      case round =>
        clear HT3 HQ3 HY3 HB3
        obtain ⟨j, F2, N2, hj, rfl, rfl, hT, hQ, hY, hB⟩ := hrel
        rw [HC.out] at hj
        by_cases hlj : j ≤ C
        · have hst := hstep.out j hlj
          have q0 := hQ.cellv (i := j) (bools_get (by rw [HTH.out]; omega))
          have HT := hid hT
          have HQ := hid hQ
          have HY := hid hY
          have HB := hid hB
          clear hT hQ hY hB
          generalize hbv : bestT (nestM (x, y) th) (z, t) (-1) j = bv at hst
          clear hbv
          generalize th.getD j false = tb at hst q0
          cases tb
          · have HST := hid (show bestT (nestM (x, y) th) (z, t) (-1) (j + 1) = bv by rw [hst]; rfl)
            clear hst
            go_wp2_with fail
            go_roundw
            case rel => exact ⟨j + 1, F2, N2, by rw [HC.out]; omega, by go_num, by rw [HST.out], HT.out, HQ.out, HY.out, HB.out⟩
            case measure => simp [intOf]; omega
          · have HST := hid (show bestT (nestM (x, y) th) (z, t) (-1) (j + 1) = some (j, (j : Int)) by rw [hst]; rfl)
            clear hst
            go_wp2_with fail
            go_roundw
            case rel => exact ⟨j + 1, F2, N2, by rw [HC.out]; omega, by go_num, by rw [HST.out]; rfl, HT.out, HQ.out, HY.out, HB.out⟩
            case measure => simp [intOf]; omega
        · obtain rfl : j = C + 1 := by omega
          have z0 := hY.cellv (i := 0) rfl
          have z1 := hY.cellv (i := 1) rfl
          have HT := hid hT
          have HB := hid hB
          have hs := hB.size
          have hend' := hend.out
          have hself : ∀ j h, bestT (nestM (x, y) th) (z, t) (-1) (C + 1) = some (j, h) → h = (j : Int) := fun j h e => nest_best e
          generalize bestT (nestM (x, y) th) (z, t) (-1) (C + 1) = bv at hend' hself
          have cl := hid (trie_longest' HT.out (z, t) HBo.out bv hend' _ _ rfl rfl)
          clear hend' hT hQ hY hB
          cases bv with
          | none =>
            unfold btR at cl
            unfold bI
            go_wp2_with fail
            refine cl.out.mono ?_
            rintro _ w4 ⟨rfl, hb4⟩
            have HB4 := hid ((held_next HB.out hb4))
            clear hb4
            go_wp2_with fail
            go_ret
            exact ⟨rfl, HB4.out.alloc HB4.out.size _⟩
          | some jh =>
            obtain ⟨j, h⟩ := jh
            obtain rfl := hself j h rfl
            unfold btR at cl
            unfold bI
            generalize Ad.cut (z, t) j = ct at cl
            obtain ⟨cx, cy⟩ := ct
            clear hself
            go_wp2_with fail
            refine cl.out.mono ?_
            rintro _ w4 ⟨rfl, hb4⟩
            have HB4 := hid ((held_next HB.out hb4))
            clear hb4
            go_wp2_with fail
            go_ret
            refine ⟨?_, HB4.out.alloc HB4.out.size _⟩
            first
              | rfl
              | (refine ret_bool ?_; simp; omega)

theorem trieNested_walk (W : World) (a : Ad) (ha : a.ok) (b : Ad) (hb : b.ok) (v2 : Value) (ls : List Int) (R2 : Rd iEn 1 W v2 ls) (ok2 : ∀ x ∈ ls, (Lit.int .i64 x).wf = true) (v3 : Value) (gs : List Bool) (R3 : Rd bEn 1 W v3 gs) (ok3 : ∀ x ∈ gs, True) :
    Calls Try.prog 7 #[.agg #[.int .u64 (a.1 : Int), .int .u64 (a.2 : Int)], .agg #[.int .u64 (b.1 : Int), .int .u64 (b.2 : Int)], v2, v3] W fun e W' => e = .returned (.bool true) ∧ Below W.heap.size W W' := by
  by_cases h : ls.length ≤ 60 ∧ ls.length ≤ gs.length
  · exact trieNested_in W a b ha hb v2 ls R2 v3 gs R3 h.1 h.2
  · obtain ⟨A, cap, rfl, hl, hc⟩ := R2.form
    obtain ⟨B, cap2, rfl, hl2, hc2⟩ := R3.form
    exact trieNested_out W a b A cap _ hl hc B cap2 _ hl2 hc2 h

end Go.Proofs.Ytjhgmjfjlndomaa
