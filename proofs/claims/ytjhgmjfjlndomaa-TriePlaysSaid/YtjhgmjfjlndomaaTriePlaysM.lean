/-
  Two tries and the list that says what the first one does: what each call of law 14 leaves of them. No condition but that words are words.
-/
import Derived.Test.YtjhgmjfjlndomaaTrieList
namespace Go.Proofs.Ytjhgmjfjlndomaa
open Go.RowKit
set_option linter.unusedVariables false
set_option linter.unusedSimpArgs false

/-- Trie g says what the list T does, q is another trie, v is the list now; no block of K is any of theirs. -/
def Play (K : Nat → Prop) (g q k : Nat) (T now : List Rt) (v : Value) (w : World) : Prop :=
  ∃ (F : Nat → Prop) (N : Ad → Nat → Option Nat) (F2 : Nat → Prop) (N2 : Ad → Nat → Option Nat) (m2 : Ad → Nat → Option Int) (n2 : Int),
    Srt T ∧ T.length ≤ k ∧ Srt now ∧ now.length ≤ k ∧ TrieN w g F N (mapOf T) (T.length : Int) ∧ TrieN w q F2 N2 m2 n2 ∧ 0 ≤ n2 ∧ n2 ≤ k ∧
    (∀ x, F x → ¬ K x ∧ ¬ F2 x ∧ v.ownBlock ≠ some x) ∧ (∀ x, F2 x → ¬ K x ∧ v.ownBlock ≠ some x) ∧
    Owns w 0 51 4 v now.length (rtsV now) ∧ (∀ b, v.ownBlock = some b → ¬ K b) ∧ (∀ b, K b → b < w.heap.size)

section
variable {K : Nat → Prop} {g q k : Nat} {T now : List Rt} {v : Value} {w : World}
theorem Play.below {w' : World} (h : Play K g q k T now v w) (hb : Below w.heap.size w w') : Play K g q k T now v w' := by
  obtain ⟨F, N, F2, N2, m2, n2, s1, s2, s3, s4, t1, t2, n0, n1, f1, f2, o, o1, kk⟩ := h
  exact ⟨F, N, F2, N2, m2, n2, s1, s2, s3, s4, t1.below hb, t2.below hb, n0, n1, f1, f2, o.below hb, o1, fun b hk => Nat.lt_of_lt_of_le (kk b hk) hb.size⟩
theorem Play.up {k' : Nat} (h : Play K g q k T now v w) (hk : k ≤ k') : Play K g q k' T now v w := by
  obtain ⟨F, N, F2, N2, m2, n2, s1, s2, s3, s4, t1, t2, n0, n1, f1, f2, o, o1, kk⟩ := h
  exact ⟨F, N, F2, N2, m2, n2, s1, by omega, s3, by omega, t1, t2, n0, by omega, f1, f2, o, o1, kk⟩
theorem Play.less {K' : Nat → Prop} (h : Play K g q k T now v w) (hk : ∀ z, K' z → K z) : Play K' g q k T now v w := by
  obtain ⟨F, N, F2, N2, m2, n2, s1, s2, s3, s4, t1, t2, n0, n1, f1, f2, o, o1, kk⟩ := h
  exact ⟨F, N, F2, N2, m2, n2, s1, s2, s3, s4, t1, t2, n0, n1, fun x hx => ⟨fun e => (f1 x hx).1 (hk x e), (f1 x hx).2⟩, fun x hx => ⟨fun e => (f2 x hx).1 (hk x e), (f2 x hx).2⟩, o, fun b hb e => o1 b hb (hk b e), fun b hb => kk b (hk b hb)⟩
theorem Play.more (h : Play K g q k T now v w) (o : Obj) : Play (fun z => K z ∨ z = w.heap.size) g q k T now v (w.alloc o) := by
  obtain ⟨F, N, F2, N2, m2, n2, s1, s2, s3, s4, t1, t2, n0, n1, f1, f2, ow, o1, kk⟩ := h
  have hb := (Below.refl w.heap.size w).alloc (Nat.le_refl _) o
  refine ⟨F, N, F2, N2, m2, n2, s1, s2, s3, s4, t1.below hb, t2.below hb, n0, n1, fun x hx => ⟨fun e => e.elim (f1 x hx).1 (fun e => by have := t1.lt x hx; omega), (f1 x hx).2⟩,
    fun x hx => ⟨fun e => e.elim (f2 x hx).1 (fun e => by have := t2.lt x hx; omega), (f2 x hx).2⟩, ow.below hb, fun b hb e => e.elim (o1 b hb) (fun e => by have := (ow.base_le b hb).2; omega), ?_⟩
  rintro b (hb | rfl)
  · simp; have := kk b hb; omega
  · simp
theorem Play.rd (h : Play K g q k T now v w) : Rd rtEn 4 w v now := by
  obtain ⟨F, N, F2, N2, m2, n2, s1, s2, s3, s4, t1, t2, n0, n1, f1, f2, o, o1, kk⟩ := h
  exact Rd.of_owns o rtEn_length
theorem Play.srt (h : Play K g q k T now v w) : Srt now ∧ now.length ≤ k ∧ Srt T ∧ T.length ≤ k := by
  obtain ⟨F, N, F2, N2, m2, n2, s1, s2, s3, s4, t1, t2, n0, n1, f1, f2, o, o1, kk⟩ := h
  exact ⟨s3, s4, s1, s2⟩
theorem Play.trie (h : Play K g q k T now v w) : ∃ F N, TrieN w g F N (mapOf T) (T.length : Int) := by
  obtain ⟨F, N, F2, N2, m2, n2, s1, s2, s3, s4, t1, t2, n0, n1, f1, f2, o, o1, kk⟩ := h
  exact ⟨F, N, t1⟩
theorem chg_own {w w' : World} {F : Nat → Prop} (hC : Chg F w w') (hF : ∀ z, F z → ¬ K z) : Chg (fun z => ¬ K z) w w' := hC.mono fun z _ => hF z
/-- o.Put. -/
theorem Play.putO (h : Play K g q k T now v w) (hk : k ≤ 100) (p : Pf) (hp : p.1.ok) (hop : Int) :
    Calls Try.prog 26 #[.pointer (some ⟨q, 0, none⟩), .agg #[.int .u64 (p.1.1 : Int), .int .u64 (p.1.2 : Int), .int .i64 p.2], .int .i64 hop] w fun e w' => (∃ (u : Int) (f : Bool), e = .returned (.tuple #[.int .i64 u, .bool f])) ∧ Play K g q (k + 1) T now v w' ∧ Chg (fun z => ¬ K z) w w' := by
  obtain ⟨F, N, F2, N2, m2, n2, s1, s2, s3, s4, t1, t2, n0, n1, f1, f2, o, o1, kk⟩ := h
  refine (trie_put t2 n0 (by omega) p hp hop).mono ?_
  rintro e w' ⟨rfl, F', N', hT, hC, hF⟩
  have hle := putC_le m2 p n2
  refine ⟨⟨_, _, rfl⟩, ⟨F, N, F', N', _, _, s1, by omega, s3, by omega, t1.chg hC (fun b hb => (f1 b hb).2.1), hT, by omega, by omega, fun x hx => ⟨(f1 x hx).1, fun e => ?_, (f1 x hx).2.2⟩, fun x hx => ?_, o.chg hC (fun b hb e => (f2 b e).2 hb), o1, fun b hb => Nat.lt_of_lt_of_le (kk b hb) hC.size⟩, hC.mono fun z _ hz => (f2 z hz).1⟩
  · exact (hF x e).elim (f1 x hx).2.1 fun e => by have := t1.lt x hx; omega
  · rcases hF x hx with e | e
    · exact f2 x e
    · exact ⟨fun hk => by have := kk x hk; omega, fun hb => by have := (o.base_le x hb).2; omega⟩
/-- t.Delete. -/
theorem Play.del (h : Play K g q k now now v w) (hk : k ≤ 101) (p : Pf) (hp : p.1.ok) :
    Calls Try.prog 28 #[.pointer (some ⟨g, 0, none⟩), .agg #[.int .u64 (p.1.1 : Int), .int .u64 (p.1.2 : Int), .int .i64 p.2]] w fun e w' => e = .returned (.tuple #[.int .i64 ((getV (mapOf now) p).getD 0), .bool (getV (mapOf now) p).isSome]) ∧ Play K g q k (withoutL now p) now v w' ∧ Chg (fun z => ¬ K z) w w' := by
  obtain ⟨F, N, F2, N2, m2, n2, s1, s2, s3, s4, t1, t2, n0, n1, f1, f2, o, o1, kk⟩ := h
  refine (trie_delete t1 (by omega) (by omega) p hp).mono ?_
  rintro e w' ⟨rfl, F', N', hT, hC, hF⟩
  have hm := s1.without_map p
  rw [hm.1, hm.2] at hT
  refine ⟨rfl, ⟨F', N', F2, N2, m2, n2, s1.without p, Nat.le_trans (without_le _ _) s2, s3, s4, hT, t2.chg hC (fun b hb e => (f1 b e).2.1 hb), n0, n1, fun x hx => ?_, f2, o.chg hC (fun b hb e => (f1 b e).2.2 hb), o1, fun b hb => Nat.lt_of_lt_of_le (kk b hb) hC.size⟩, hC.mono fun z _ hz => (f1 z hz).1⟩
  rcases hF x hx with e | e
  · exact f1 x e
  · exact ⟨fun hk => by have := kk x hk; omega, fun hb => by have := t2.lt x hb; omega, fun hb => by have := (o.base_le x hb).2; omega⟩
/-- t.Put. -/
def putL (l : List Rt) (p : Pf) (hop : Int) : List Rt := if p.right then intoL l (p, hop) else l
theorem Play.put (h : Play K g q k now now v w) (hk : k ≤ 101) (hlen : now.length < k) (p : Pf) (hp : p.1.ok) (hop : Int) :
    Calls Try.prog 26 #[.pointer (some ⟨g, 0, none⟩), .agg #[.int .u64 (p.1.1 : Int), .int .u64 (p.1.2 : Int), .int .i64 p.2], .int .i64 hop] w fun e w' => e = .returned (.tuple #[.int .i64 ((getV (mapOf now) p).getD 0), .bool (getV (mapOf now) p).isSome]) ∧ Play K g q k (putL now p hop) now v w' ∧ Chg (fun z => ¬ K z) w w' := by
  obtain ⟨F, N, F2, N2, m2, n2, s1, s2, s3, s4, t1, t2, n0, n1, f1, f2, o, o1, kk⟩ := h
  refine (trie_put t1 (by omega) (by omega) p hp hop).mono ?_
  rintro e w' ⟨rfl, F', N', hT, hC, hF⟩
  have hm : putM (mapOf now) p hop = mapOf (putL now p hop) ∧ putC (mapOf now) p (now.length : Int) = ((putL now p hop).length : Int) := by
    unfold putL
    by_cases hr : p.right
    · rw [if_pos hr]; exact s1.into_map hop hp hr
    · rw [if_neg hr]; unfold putM putC; rw [if_neg hr, if_neg hr]; exact ⟨rfl, rfl⟩
  have hS : Srt (putL now p hop) ∧ (putL now p hop).length ≤ k := by
    unfold putL
    by_cases hr : p.right
    · rw [if_pos hr]; exact ⟨s1.into ⟨hp, hr⟩, Nat.le_trans (into_length _ _) (by omega)⟩
    · rw [if_neg hr]; exact ⟨s1, s2⟩
  rw [hm.1, hm.2] at hT
  refine ⟨rfl, ⟨F', N', F2, N2, m2, n2, hS.1, hS.2, s3, s4, hT, t2.chg hC (fun b hb e => (f1 b e).2.1 hb), n0, n1, fun x hx => ?_, f2, o.chg hC (fun b hb e => (f1 b e).2.2 hb), o1, fun b hb => Nat.lt_of_lt_of_le (kk b hb) hC.size⟩, hC.mono fun z _ hz => (f1 z hz).1⟩
  rcases hF x hx with e | e
  · exact f1 x e
  · exact ⟨fun hk => by have := kk x hk; omega, fun hb => by have := t2.lt x hb; omega, fun hb => by have := (o.base_le x hb).2; omega⟩
/-- A new list in the place of the old one. -/
theorem Play.turn {w' : World} {now' : List Rt} {v' : Value} (h : Play K g q k T now v w) (hS : Srt now') (hl : now'.length ≤ k) (hO : Owns w' w.heap.size 51 4 v' now'.length (rtsV now')) (hb : Below w.heap.size w w') : Play K g q k T now' v' w' := by
  obtain ⟨F, N, F2, N2, m2, n2, s1, s2, s3, s4, t1, t2, n0, n1, f1, f2, o, o1, kk⟩ := h
  exact ⟨F, N, F2, N2, m2, n2, s1, s2, hS, hl, t1.below hb, t2.below hb, n0, n1, fun x hx => ⟨(f1 x hx).1, (f1 x hx).2.1, fun e => by have := (hO.base_le x e).1; have := t1.lt x hx; omega⟩,
    fun x hx => ⟨(f2 x hx).1, fun e => by have := (hO.base_le x e).1; have := t2.lt x hx; omega⟩, hO.lower (Nat.zero_le _), fun b hb e => by have := (hO.base_le b hb).1; have := kk b e; omega, fun b hk => Nat.lt_of_lt_of_le (kk b hk) hb.size⟩
theorem Play.without (h : Play K g q k T now v w) (hk : k ≤ 101) (p : Pf) :
    Calls Try.prog 32 #[v, .agg #[.int .u64 (p.1.1 : Int), .int .u64 (p.1.2 : Int), .int .i64 p.2]] w fun e w' => ∃ v', e = .returned v' ∧ Play K g q k T (withoutL now p) v' w' ∧ Below w.heap.size w w' := by
  have hs := h.srt
  refine (ref_without w v now h.rd (by omega) p).mono ?_
  rintro e w' ⟨v', rfl, hO, hb⟩
  exact ⟨v', rfl, h.turn (hs.1.without p) (Nat.le_trans (without_le _ _) hs.2.1) hO hb, hb⟩
theorem Play.into (h : Play K g q k T now v w) (hk : k ≤ 101) (hlen : now.length < k) (p : Pf) (hp : p.1.ok) (hr : p.right) (hop : Int) :
    Calls Try.prog 33 #[v, .agg #[.int .u64 (p.1.1 : Int), .int .u64 (p.1.2 : Int), .int .i64 p.2, .int .i64 hop]] w fun e w' => ∃ v', e = .returned v' ∧ Play K g q k T (intoL now (p, hop)) v' w' ∧ Below w.heap.size w w' := by
  have hs := h.srt
  refine (ref_into w v now h.rd (by omega) (p, hop)).mono ?_
  rintro e w' ⟨v', rfl, hO, hb⟩
  exact ⟨v', rfl, h.turn (hs.1.into ⟨hp, hr⟩) (Nat.le_trans (into_length _ _) (by omega)) hO hb, hb⟩
end

theorem find_no {l : List Rt} (h : Srt l) {p : Pf} (e : getV (mapOf l) p = none) : findI l p = -1 := by
  rcases find_parts h p with ⟨h1, _⟩ | ⟨k, u, _, _, h3⟩
  · exact h1
  · rw [e] at h3; cases h3
theorem find_yes {l : List Rt} (h : Srt l) {p : Pf} {u : Int} (e : getV (mapOf l) p = some u) : ∃ k : Nat, findI l p = (k : Int) ∧ l[k]? = some (p, u) := by
  rcases find_parts h p with ⟨_, h2⟩ | ⟨k, u', h1, h2, h3⟩
  · rw [e] at h2; cases h2
  · rw [e] at h3; injection h3 with h3; subst h3; exact ⟨k, h1, h2⟩

abbrev Actn := Bool × Pf × Int
def actEn (x : Actn) : List Value := [.bool x.1, .int .u64 (x.2.1.1.1 : Int), .int .u64 (x.2.1.1.2 : Int), .int .i64 x.2.1.2, .int .i64 x.2.2]
def Actn.fit (x : Actn) : Prop := x.2.1.fit
theorem actEn_len (x : Actn) : (actEn x).length = 5 := rfl
end Go.Proofs.Ytjhgmjfjlndomaa
