/-
  Contracts of package direct: an array of the shortest, made, filled, asked. No condition but that words are words.
-/
import Derived.Test.YtjhgmjfjlndomaaCover
import Derived.Test.YtjhgmjfjlndomaaSpread
import Derived.Test.YtjhgmjfjlndomaaMake
import Derived.Handy
namespace Go.Proofs.Ytjhgmjfjlndomaa
open Go.RowKit
set_option linter.unusedVariables false
set_option linter.unusedSimpArgs false
set_option maxRecDepth 100000
attribute [local go_sem high] eq_ad eq_pf eq_rt

def plEn (o : Option Int) : List Value := [.bool o.isSome, .int .i64 (o.getD 0)]
theorem plEn_len (o : Option Int) : (plEn o).length = 2 := rfl
theorem pl_row : (Try.prog.info? 108).map (fun i => (i.zero, i.size, i.bytes)) = some (some (.agg #[.bool false, .int .i64 0]), 2, 16) := by kernel_rfl
/-- The array at g, of b bits; its places at q. -/
structure DirA (w : World) (g q b : Nat) (ps : List (Option Int)) : Prop where
  ba : Blk w g 106 [.int .i64 b, .slice (some ⟨q, 0, none⟩) (2 ^ b) (2 ^ b)]
  bl : Blk w q 108 (ps.flatMap plEn)
  len : ps.length = 2 ^ b
  b8 : b ≤ 8
  ne : g ≠ q
theorem DirA.chg {w w' : World} {g q b : Nat} {ps : List (Option Int)} {S : Nat → Prop} (h : DirA w g q b ps) (k : Chg S w w') (h1 : ¬ S g) (h2 : ¬ S q) : DirA w' g q b ps := ⟨h.ba.chg k h1, h.bl.chg k h2, h.len, h.b8, h.ne⟩
theorem DirA.below {w w' : World} {g q b : Nat} {ps : List (Option Int)} (h : DirA w g q b ps) (k : Below w.heap.size w w') : DirA w' g q b ps := ⟨h.ba.below' k, h.bl.below' k, h.len, h.b8, h.ne⟩

def capB (n : Int) : Nat := (max 0 (min n 8)).toNat
def NewPost (w : World) (b : Nat) (e : Ending) (w' : World) : Prop :=
  ∃ g q, e = .returned (.pointer (some ⟨g, 0, none⟩)) ∧ DirA w' g q b (List.replicate (2 ^ b) none) ∧ w.heap.size ≤ g ∧ w.heap.size ≤ q ∧ Below w.heap.size w w'
theorem direct_new (w : World) (n : Int) : Calls Try.prog 48 #[.int .i64 n] w (NewPost w (capB n)) := by
  obtain ⟨b, hb⟩ : ∃ b : Nat, capB n = b := ⟨_, rfl⟩
  have hb8 : b ≤ 8 := by unfold capB at hb; omega
  have hbi : max 0 (min n 8) = (b : Int) := by unfold capB at hb; omega
  rw [hb]
  have hmin := min_at .i64 n 8 (min n 8) (by split <;> omega)
  have hmax := max_at .i64 0 (min n 8) (b : Int) (by split <;> omega)
  have hp := Nat.pow_le_pow_right (show 0 < 2 by decide) hb8
  obtain ⟨N, hN⟩ : ∃ N, 2 ^ b = N := ⟨_, rfl⟩
  have hw : wrap64 (2 ^ b) = (N : Int) := by
    rw [← hN, Int.natCast_pow]
    have : ((2 : Int) ^ b) ≤ 256 := by have h1 : ((2 ^ b : Nat) : Int) ≤ 256 := by omega
                                       rwa [Int.natCast_pow] at h1
    have h2 : (0 : Int) ≤ 2 ^ b := Int.pow_nonneg (by decide)
    unfold wrap64
    show _ = (2 : Int) ^ b
    omega
  have hN2 : N ≤ 256 := by omega
  have hmk := fun w => make_atk (P := Try.prog) 104 108 (.agg #[.bool false, .int .i64 0]) 2 16 Try.underlying104 pl_row .i64 .i64 N N rfl (by omega) (by omega) w
  have HN := hid hN
  clear hb hbi hN hp
  go_enter Try.func48, Try.ntmps48
  go_wp2_with fail
  go_ret
  refine ⟨w.heap.size + 1, w.heap.size, rfl, ⟨?_, ?_, by rw [List.length_replicate], hb8, by omega⟩, by omega, by omega, ((Below.refl _ _).alloc (Nat.le_refl _) _).alloc (by simp) _⟩
  · rw [HN.out]; exact Blk.new_at _ _ _ _ (by simp)
  · rw [HN.out]; exact (Blk.madek plEn_len (by decide) w none N _).alloc _

theorem direct_len {w : World} {g q b : Nat} {ps : List (Option Int)} (h : DirA w g q b ps) : Calls Try.prog 49 #[.pointer (some ⟨g, 0, none⟩)] w fun e w' => e = .returned (.int .i64 ((2 ^ b : Nat) : Int)) ∧ w = w' := by
  have y1 := h.ba.cellv (i := 1) rfl
  clear h
  go_enter Try.func49, Try.ntmps49
  go_wp2_with fail
  go_ret
  exact ⟨rfl, rfl⟩

theorem direct_get {w : World} {g q b : Nat} {ps : List (Option Int)} (h : DirA w g q b ps) (x : Ad) (hx : x.ok) (o : Option Int) (ho : ps[x.1 / 2 ^ (64 - b)]? = some o) :
    Calls Try.prog 50 #[.pointer (some ⟨g, 0, none⟩), .agg #[.int .u64 (x.1 : Int), .int .u64 (x.2 : Int)]] w fun e w' => e = .returned (.tuple #[.int .i64 (o.getD 0), .bool o.isSome]) ∧ Below w.heap.size w w' := by
  obtain ⟨j, hj⟩ : ∃ j, x.1 / 2 ^ (64 - b) = j := ⟨_, rfl⟩
  obtain ⟨N, hN⟩ : ∃ N, 2 ^ b = N := ⟨_, rfl⟩
  rw [hj] at ho
  have hb8 := h.b8
  have hjN : j < N := by rw [← hN, ← h.len]; exact (List.getElem?_eq_some_iff.1 ho).1
  have y0 := h.ba.cellv (i := 0) rfl
  have y1 := h.ba.cellv (i := 1) rfl
  have z0 := h.bl.cellv (i := j * 2 + 0) (flat_get plEn_len ps j o ho 0 (by decide))
  have z1 := h.bl.cellv (i := j * 2 + 1) (flat_get plEn_len ps j o ho 1 (by decide))
  rw [hN] at y1
  have hgl := h.ba.lt
  have hql := h.bl.lt
  clear h ho
  obtain ⟨x, y⟩ := x
  simp only at hj
  obtain ⟨c, hc⟩ : ∃ c, 63 - b = c := ⟨_, rfl⟩
  have hsub : IntKind.i64.wrap (63 - (b : Int)) = (c : Int) := by rw [IntKind.wrap_i64]; omega
  have hidx : (x : Int) / 2 / 2 ^ c = (j : Int) := by
    rw [← hj, show 64 - b = c + 1 by omega, Nat.pow_succ, Nat.mul_comm, ← Nat.div_div_eq_div_mul]
    simp
  have hj0 : (0 : Int) ≤ (j : Int) := by omega
  have hjn : (j : Int) < (N : Int) := by omega
  have hc63 : c ≤ 63 := by omega
  rw [Nat.add_zero] at z0
  clear hN hj hc
  go_enter Try.func50, Try.ntmps50
  go_wp2_with fail
  have x0 : (w.alloc (.cells #[.int .u64 (x : Int), .int .u64 (y : Int)] 24)).cell? ⟨w.heap.size, 0, none⟩ = some (.int .u64 (x : Int)) := (Blk.new w [.int .u64 (x : Int), .int .u64 (y : Int)] 24).cellv (i := 0) rfl
  have HB := hid ((Below.refl w.heap.size w).alloc (Nat.le_refl _) (.cells #[.int .u64 (x : Int), .int .u64 (y : Int)] 24))
  have y0 := (HB.out.cell (p := ⟨g, 0, none⟩) hgl).trans y0
  have y1 := (HB.out.cell (p := ⟨g, 1, none⟩) hgl).trans y1
  have z0 := (HB.out.cell (p := ⟨q, j * 2, none⟩) hql).trans z0
  have z1 := (HB.out.cell (p := ⟨q, j * 2 + 1, none⟩) hql).trans z1
  have hws : w.heap.size < (w.alloc (.cells #[.int .u64 (x : Int), .int .u64 (y : Int)] 24)).heap.size := by simp
  generalize w.alloc (.cells #[.int .u64 (x : Int), .int .u64 (y : Int)] 24) = w1 at *
  have hg1 : g < w1.heap.size := by omega
  have hq1 : q < w1.heap.size := by omega
  go_region_held3 (fun w' => w'.cell? ⟨w.heap.size, 0, none⟩ = some (.int .u64 (x : Int)) ∧ w'.cell? ⟨g, 0, none⟩ = some (.int .i64 b) ∧ w'.cell? ⟨g, 1, none⟩ = some (.slice (some ⟨q, 0, none⟩) N N) ∧ w'.cell? ⟨q, j * 2, none⟩ = some (.bool o.isSome) ∧ w'.cell? ⟨q, j * 2 + 1, none⟩ = some (.int .i64 (o.getD 0))) (first | go_keep | (refine ⟨?_, ?_, ?_, ?_, ?_⟩ <;> assumption)) (fail)
  go_wp2_with fail
  go_quiet (fail)
  go_wp2_with fail
  go_ret2
  exact ⟨rfl, ((HB.out.alloc (Nat.le_of_lt hws) _).drew).drewN _⟩

/-- What each place has. -/
def fillL (l : List Rt) (b : Nat) : List (Option Int) := (keysOf (0, 0) 0 b).map fun k => atV (ofM l) k (-1)
theorem fillL_len (l : List Rt) (b : Nat) : (fillL l b).length = 2 ^ b := by simp [fillL, keysOf_length]
theorem keysP_zero {b : Nat} (h : b ≤ 8) : keysP ((0, 0), 0) (b : Int) = keysOf (0, 0) 0 b := by
  unfold keysP
  rw [if_pos ⟨by decide, by show (0 : Int) ≤ b; omega, by omega, by show (b : Int) - 0 ≤ 8; omega⟩]; simp
theorem set2 {α : Type} (a b : α) : ∀ (i : Nat) (xs : List α), i + 2 ≤ xs.length → (xs.set i a).set (i + 1) b = xs.take i ++ [a, b] ++ xs.drop (i + 2)
  | 0, x0 :: x1 :: xs, _ => rfl
  | 0, [], h => by simp at h
  | 0, [_], h => by simp at h
  | i + 1, [], h => by simp at h
  | i + 1, x :: xs, h => by
    have ih := set2 a b i xs (by simp at h; omega)
    show x :: ((xs.set i a).set (i + 1) b) = _
    rw [ih]; rfl
theorem place_set {w : World} {q : Nat} {t : TypeId} {ps : List (Option Int)} (h : Blk w q t (ps.flatMap plEn)) (k : Nat) (hk : k < ps.length) (o : Option Int) :
    Blk ((w.setCell ⟨q, k * 2, none⟩ (.bool o.isSome)).setCell ⟨q, k * 2 + 1, none⟩ (.int .i64 (o.getD 0))) q t ((ps.set k o).flatMap plEn) := by
  have h1 := (h.set (k * 2) (.bool o.isSome)).set (k * 2 + 1) (.int .i64 (o.getD 0))
  have hl := flat_len plEn_len ps
  rw [set2 _ _ (k * 2) _ (by rw [hl]; omega)] at h1
  rw [flat_set plEn_len ps k o hk]
  exact h1

def FillRel (w2 : World) (g q b L : Nat) (fl : List (Option Int)) (i : Value) (wr : World) : Prop :=
  ∃ (k : Nat) (ps : List (Option Int)), k ≤ L ∧ i = .int .i64 k ∧ DirA wr g q b ps ∧ (∀ j, j < k → ps[j]? = fl[j]?) ∧ Chg (· = q) w2 wr
def FillPost (w : World) (g q b : Nat) (l : List Rt) (e : Ending) (w' : World) : Prop := e = .returned (.tuple #[]) ∧ DirA w' g q b (fillL l b) ∧ Chg (· = q) w w'
theorem direct_fill {w : World} {g q b : Nat} {ps : List (Option Int)} (h : DirA w g q b ps) (v : Value) (l : List Rt) (hR : Rd rtEn 4 w v l) (hok : ∀ r ∈ l, r.1.1.ok) (hlen : l.length ≤ 100000) :
    Calls Try.prog 51 #[.pointer (some ⟨g, 0, none⟩), v] w (FillPost w g q b l) := by
  have HD := hid h
  have HKO := hid (fun k (hk : k ∈ keysOf (0, 0) 0 b) => (show k.1.ok by
    obtain ⟨i, hi⟩ := List.getElem?_of_mem hk
    have hil := (List.getElem?_eq_some_iff.1 hi).1
    rw [keysOf_length] at hil
    rw [keysOf_get _ _ _ _ hil] at hi
    injection hi with hi
    subst hi
    exact key_ok (a := (0, 0)) ⟨by decide, by decide⟩ (by decide) (Nat.zero_le _) (by have := h.b8; omega) hil))
  have hb8 := h.b8
  have hKL := hid (keysOf_length (0, 0) 0 b)
  rw [Nat.sub_zero] at hKL
  have c1 := hid (cover_of w v l hR hok (by omega))
  have c2 := hid (show ∀ w, Calls Try.prog 18 #[.agg #[.int .u64 0, .int .u64 0, .int .i64 0], .int .i64 b] w (RetPfs w (keysOf (0, 0) 0 b)) from fun w => by
    have h1 := spread_keys ((0, 0), 0) ⟨by decide, by decide⟩ (b : Int) w
    rw [keysP_zero hb8] at h1
    exact h1)
  have hFL : ∀ (k : Nat) (x : Pf), (keysOf (0, 0) 0 b)[k]? = some x → (fillL l b)[k]? = some (atV (ofM l) x (-1)) := fun k x hx => by unfold fillL; rw [List.getElem?_map, hx]; rfl
  have HFL := hid hFL
  have HFN := hid (fillL_len l b)
  clear hFL
  generalize keysOf (0, 0) 0 b = ks at HKO hKL c2 HFL
  obtain ⟨A, cap, rfl, n1, m1⟩ := hR.form
  have y0 := h.ba.cellv (i := 0) rfl
  have hgl := h.ba.lt
  have hql := h.bl.lt
  clear hR hok
  go_enter Try.func51, Try.ntmps51
  go_wp2_with fail
  refine c1.out.mono ?_
  rintro _ w1 ⟨gt, F, N, n, rfl, hT, h0, hn, hF, hb1⟩
  have HT := hid hT
  have HF := hid hF
  have HB1 := hid hb1
  have y0 := (hb1.cell (p := ⟨g, 0, none⟩) hgl).trans y0
  clear c1 hT hF hb1
  go_wp2_with fail
  refine (c2.out _).mono ?_
  rintro _ w2 ⟨vk, rfl, hO, hb2⟩
  have HRk := hid (Rd.of_owns (l := ks) hO pfEn_length)
  have HV := hid fun z hz => (Owns.base_le hO z hz).1
  obtain ⟨A2, cap2, rfl, n2, m2, _⟩ := Owns.form hO
  unfold maxLen at m2
  have HB2 := hid (HB1.out.trans (hb2.mono HB1.out.size))
  have HT2 := hid (HT.out.below hb2)
  have HD2 := hid (HD.out.below HB2.out)
  have hs1 := HB1.out.size
  have hs2 := hb2.size
  clear hb2 hO y0 c2 HT HD HB1
  obtain ⟨L, hL⟩ : ∃ L, ks.length = L := ⟨_, rfl⟩
  have HL := hid hL
  rw [hL] at hKL n2 ⊢
  clear hL
  go_wp2_with fail
  go_loopw [20] (fun i wr => FillRel w2 g q b L (fillL l b) i wr) (fun i _ => L - (intOf i).toNat)
  case atStart => exact ⟨0, ps, Nat.zero_le _, rfl, HD2.out, fun j hj => by omega, Chg.refl _ _⟩
  case round =>
    obtain ⟨k, ps', hk, rfl, hD, hP, hC⟩ := hrel
    have HP := hid hP
    have HC := hid hC
    have HDr := hid hD
    have hszr := hC.size
    by_cases hlt : k < L
    · have hget : ks[k]? = some (ks[k]'(by rw [HL.out]; exact hlt)) := List.getElem?_eq_getElem _
      generalize ks[k]'_ = x at hget
      have hxok := hid (HKO.out x (List.mem_of_getElem? hget))
      have HXF := hid (HFL.out k x hget)
      obtain ⟨ba, oa, ca, hv, _, _, la, sa⟩ := (HRk.out.chg pfEn_length hC (fun z hz e => by have := HV.out z hz; omega)).get pfEn_length (by decide) hget
      injection hv with hA hx hc
      subst hA hc
      have u0 : wr.cell? ⟨ba, oa + k * 3, none⟩ = some (.int .u64 (x.1.1 : Int)) := sa 0 _ rfl
      have u1 : wr.cell? ⟨ba, oa + k * 3 + 1, none⟩ = some (.int .u64 (x.1.2 : Int)) := sa 1 _ rfl
      have u2 : wr.cell? ⟨ba, oa + k * 3 + 2, none⟩ = some (.int .i64 x.2) := sa 2 _ rfl
      have HT3 := hid ((HT2.out.chg hC (fun z hz e => by have := HF.out z hz; omega)).below ((Below.refl wr.heap.size wr).alloc (Nat.le_refl _) (.cells #[.int .u64 (x.1.1 : Int), .int .u64 (x.1.2 : Int), .int .i64 x.2] 26)))
      have cat := hid (cover_at HT3.out x hxok.out (-1))
      generalize atV (ofM l) x (-1) = o at cat HXF
      clear hx sa hget hP hC hD HT3 hxok
      obtain ⟨⟨xa, xb⟩, xn⟩ := x
      go_wp2_with fail
      refine cat.out.mono ?_
      rintro _ w4 ⟨rfl, hb4⟩
      have HBr := hid (Below.trans (b := _) ((Below.refl wr.heap.size wr).alloc (Nat.le_refl _) (.cells #[.int .u64 (xa : Int), .int .u64 (xb : Int), .int .i64 xn] 26)) (hb4.mono (by simp)))
      have HD4 := hid (HDr.out.below HBr.out)
      have y0 := HD4.out.ba.cellv (i := 0) rfl
      have y1 := HD4.out.ba.cellv (i := 1) rfl
      have hpk : k < ps'.length := by rw [HD4.out.len, ← hKL.out]; exact hlt
      obtain ⟨o2, ho2⟩ : ∃ o2, ps'[k]? = some o2 := ⟨_, List.getElem?_eq_getElem hpk⟩
      have z0 := HD4.out.bl.cellv (i := k * 2 + 0) (flat_get plEn_len ps' k _ ho2 0 (by decide))
      have z1 := HD4.out.bl.cellv (i := k * 2 + 1) (flat_get plEn_len ps' k _ ho2 1 (by decide))
      rw [Nat.add_zero] at z0
      have HPK := hid hpk
      clear hpk ho2
      have f0 := HD4.out.bl.frozen (k * 2)
      have f1 := HD4.out.bl.frozen (k * 2 + 1)
      have hN := HFN.out
      have hplen := HD4.out.len
      rw [← hKL.out] at y1 hplen
      have hk0 : (0 : Int) ≤ (k : Int) := by omega
      have hkL : (k : Int) < (L : Int) := by omega
      clear hb4 u0 u1 u2 cat hN
      go_wp2_with fail
      go_roundw
      case rel =>
        refine ⟨k + 1, ps'.set k o, by omega, by go_num, ⟨?_, ?_, ?_, hb8, HD4.out.ne⟩, ?_, ?_⟩
        · exact (HD4.out.ba.set_ne (a := ⟨q, k * 2, none⟩) (HD4.out.ne) _).set_ne (a := ⟨q, k * 2 + 1, none⟩) HD4.out.ne _
        · exact place_set HD4.out.bl k HPK.out o
        · rw [List.length_set]; exact HD4.out.len
        · intro j hj
          by_cases e : j = k
          · subst e; rw [HXF.out, List.getElem?_set_self HPK.out]
          · rw [List.getElem?_set_ne (fun e' => e e'.symm)]; exact HP.out j (by omega)
        · exact ((HC.out.trans' (Chg.of_below HBr.out _)).setCell (fun _ => rfl) _).setCell (fun _ => rfl) _
      case measure => simp [intOf]; omega
    · have hkL : k = L := by omega
      clear hP hC hD
      go_wp2_with fail
      go_returns
      refine ⟨rfl, ?_, ?_⟩
      · have e : ps' = fillL l b := by
          apply List.ext_getElem?
          intro j
          by_cases hj : j < k
          · exact HP.out j hj
          · rw [List.getElem?_eq_none (by have := HDr.out.len; have := hKL.out; omega), List.getElem?_eq_none (by have := HFN.out; have := hKL.out; omega)]
        rw [← e]; exact HDr.out
      · exact (Chg.of_below HB2.out _).trans' HC.out

end Go.Proofs.Ytjhgmjfjlndomaa
