/-
  Contracts: natural.Text, integer.Text, ratio.Text.
-/
import Derived.Test.YtfhipkdcekffaaaGreatDoorCn11
namespace Go.Proofs.YtfhipkdcekffaaaGreatDoor
open Go Go.Vcg
attribute [local irreducible] Br

/-- What is still to be written. -/
def preD (x : Nat) : List UInt8 := if x = 0 then [] else Lib.decDigits x

/-- One group of digits. -/
def grp (x : Nat) : List UInt8 := if x / 10 ^ 9 = 0 then Lib.decDigits (x % 10 ^ 9) else padK 9 (x % 10 ^ 9)

theorem preD_step (x : Nat) : preD (x / 10 ^ 9) ++ grp x = Lib.decDigits x := by
  unfold preD grp
  by_cases h : x / 10 ^ 9 = 0
  · rw [if_pos h, if_pos h, List.nil_append, Nat.mod_eq_of_lt]
    rcases Nat.lt_or_ge x (10 ^ 9) with q | q
    · exact q
    · have := Nat.div_pos q (by decide); omega
  · rw [if_neg h, if_neg h]
    refine (dec_split 9 x ?_).symm
    rcases Nat.lt_or_ge x (10 ^ 9) with q | q
    · exact absurd (Nat.div_eq_of_lt q) h
    · exact q

theorem ba_append (a b : List UInt8) : (⟨a.toArray⟩ : ByteArray) ++ ⟨b.toArray⟩ = ⟨(a ++ b).toArray⟩ := by
  apply ByteArray.ext
  rw [ByteArray.data_append]
  simp

theorem ba_size (a : List UInt8) : (⟨a.toArray⟩ : ByteArray).size = a.length := by simp [ByteArray.size]

/-- The strings gathered so far: the slice's first elements, in a block of the call's own. -/
def Own (h h' : Heap) (A : Option Addr) (n c : Nat) (gs : List (List UInt8)) : Prop :=
  n = gs.length ∧ ((A = none ∧ n = 0 ∧ c = 0) ∨ ∃ g zs, A = some ⟨g, 0, none⟩ ∧ h g = none ∧ h' g = some ⟨(gs ++ zs).map sv, 9, (0, 0)⟩ ∧ c = (gs ++ zs).length)

theorem Own.le {h h' h'' : Heap} {A : Option Addr} {n c : Nat} {gs : List (List UInt8)} (o : Own h h' A n c gs) (l : Le h' h'') : Own h h'' A n c gs := by
  obtain ⟨a, b⟩ := o
  refine ⟨a, b.imp id ?_⟩
  rintro ⟨g, zs, e, h0, hb, hc⟩
  exact ⟨g, zs, e, h0, l _ _ hb, hc⟩

theorem repV_sv (n : Nat) : repV [Value.string ByteArray.empty] n = (List.replicate n ([] : List UInt8)).map sv := by
  induction n with
  | zero => rfl
  | succ n ih => simp only [repV, ih, List.replicate_succ]; rfl

/-- append of one string. -/
theorem Own.app {h h4 : Heap} {A : Option Addr} {n c : Nat} {gs : List (List UInt8)} {x : List UInt8} {K : Option Addr → Nat → Heap → Prop} (o : Own h h4 A n c gs) (hl : Le h h4) {g0 : Nat} (hg0 : h4 g0 = none) (hn : (n + 1) * 16 ≤ 140737488355328)
    (hK : ∀ A' c' h', Own h h' A' (n + 1) c' (gs ++ [x]) → Le h h' → (∀ k, k ≠ g0 → h4 k ≠ none → (∀ ad, A = some ad → k ≠ ad.block) → h' k = h4 k) → K A' c' h') :
    ∃ xs : List Value, RdS (h4.put g0 ⟨[sv x], 9, (0, 0)⟩) (some ⟨g0, 0, none⟩) (1 * 1) xs ∧ (∀ y ∈ xs, Go.Vcg.one y = true) ∧
      (n + 1 ≤ c → ∃ (ad : Addr) (b : Blk), A = some ad ∧ ad.spot = none ∧ (h4.put g0 ⟨[sv x], 9, (0, 0)⟩) ad.block = some b ∧ b.fz = (0, 0) ∧ ad.off + n * 1 + 1 * 1 ≤ b.cells.length ∧
        ∀ h' : Heap, h' = Heap.put (h4.put g0 ⟨[sv x], 9, (0, 0)⟩) ad.block { b with cells := setSeg b.cells (ad.off + n * 1) xs } → K A c h') ∧
      (c < n + 1 → ∃ olds : List Value, RdS (h4.put g0 ⟨[sv x], 9, (0, 0)⟩) A (n * 1) olds ∧ (n + 1) * 16 ≤ 140737488355328 ∧
        ∀ (g1 cap : Nat) (h' : Heap), (h4.put g0 ⟨[sv x], 9, (0, 0)⟩) g1 = none → n + 1 ≤ cap → h' = Heap.put (h4.put g0 ⟨[sv x], 9, (0, 0)⟩) g1 ⟨olds ++ xs ++ repV [Value.string ByteArray.empty] (cap - (n + 1)), 9, (0, 0)⟩ → K (some ⟨g1, 0, none⟩) cap h') := by
  obtain ⟨en, o⟩ := o
  have hg0h : h g0 = none := hl.free hg0
  refine ⟨[sv x], ⟨rfl, fun _ => ⟨_, rfl, rfl, _, Heap.put_same _ _ _, rfl⟩⟩, fun y hy => by simp at hy; subst hy; rfl, fun hc => ?_, fun hc => ?_⟩
  · rcases o with ⟨_, _, e⟩ | ⟨g, zs, rfl, h0, hb, rfl⟩
    · omega
    · have hne : g ≠ g0 := fun e => by rw [e, hg0] at hb; cases hb
      have hzl : 0 < zs.length := by simp at hc; omega
      obtain ⟨z, zs', rfl⟩ : ∃ z zs', zs = z :: zs' := by
        cases zs with
        | nil => simp at hzl
        | cons z r => exact ⟨z, r, rfl⟩
      refine ⟨_, _, rfl, rfl, (Heap.put_ne _ _ hne).trans hb, rfl, by simp; omega, ?_⟩
      rintro h' rfl
      have e : setSeg ((gs ++ z :: zs').map sv) (0 + n * 1) [sv x] = ((gs ++ [x]) ++ zs').map sv := by
        unfold setSeg
        subst en
        simp [List.drop_append]
      refine hK _ _ _ ⟨by simp [en], Or.inr ⟨g, zs', rfl, h0, ?_, by simp⟩⟩ ((hl.put hg0h _).put h0 _) (fun k k0 _ kA => ?_)
      · rw [Heap.put_same]; simp only [e]
      · rw [Heap.put_ne _ _ (kA _ rfl), Heap.put_ne _ _ k0]
  · refine ⟨gs.map sv, ?_, hn, ?_⟩
    · refine ⟨by simp [en], fun h0 => ?_⟩
      rcases o with ⟨_, e, _⟩ | ⟨g, zs, rfl, h0, hb, _⟩
      · omega
      · have hne : g ≠ g0 := fun e => by rw [e, hg0] at hb; cases hb
        exact ⟨_, rfl, rfl, _, (Heap.put_ne _ _ hne).trans hb, by simp⟩
    · rintro g1 cap h' hg1 hcap rfl
      have hne : g1 ≠ g0 := fun e => by rw [e, Heap.put_same] at hg1; cases hg1
      have hg1' : h4 g1 = none := by rw [Heap.put_ne _ _ hne] at hg1; exact hg1
      refine hK _ _ _ ⟨by simp [en], Or.inr ⟨g1, List.replicate (cap - (n + 1)) [], rfl, hl.free hg1', ?_, by simp [en]; omega⟩⟩ ((hl.put hg0h _).put (hl.free hg1') _) (fun k k0 kn _ => ?_)
      · rw [Heap.put_same, repV_sv]; simp
      · rw [Heap.put_ne _ _ (fun e => kn (by rw [e]; exact hg1')), Heap.put_ne _ _ k0]

theorem U32.agree {h h' : Heap} {A : Option Addr} {n c : Nat} {xs : List Nat} (u : U32 h A n c xs) (ha : ∀ ad b, 0 < n → A = some ad → h ad.block = some b → (b.cells.drop ad.off).take n = xs.map lv → h' ad.block = some b) : U32 h' A n c xs :=
  ⟨u.len, u.cap, u.lt, fun hn => let ⟨ad, b, e, sp, hb, hc⟩ := u.mem hn; ⟨ad, b, e, sp, ha ad b hn e hb hc, hc⟩⟩

theorem not_str {xs : List Nat} {ys : List (List UInt8)} {o n : Nat} (hn : 0 < n) (hl : xs.length = n) (h : ((ys.map sv).drop o).take n = xs.map lv) : False := by
  cases xs with
  | nil => simp at hl; omega
  | cons x r =>
    have h1 : (((ys.map sv).drop o).take n)[0]? = (List.map lv (x :: r))[0]? := by rw [h]
    rw [List.getElem?_take_of_lt hn, List.getElem?_drop, List.getElem?_map] at h1
    cases hy : ys[o + 0]? with
    | none => rw [hy] at h1; simp at h1
    | some y => rw [hy] at h1; simp at h1

theorem NmN.app {h h4 h' : Heap} {A B : Option Addr} {n c k d x g0 : Nat} {gs : List (List UInt8)} (u : NmN h4 B k d x) (o : Own h h4 A n c gs) (hg0 : h4 g0 = none)
    (ha : ∀ k, k ≠ g0 → h4 k ≠ none → (∀ ad, A = some ad → k ≠ ad.block) → h' k = h4 k) : NmN h' B k d x := by
  obtain ⟨xs, a, e, r⟩ := u
  refine ⟨xs, U32.agree a fun ad b hk eB hb hc => ?_, e, r⟩
  rw [ha ad.block (fun q => by rw [q, hg0] at hb; cases hb) (fun q => by rw [q] at hb; cases hb) ?_]
  · exact hb
  · intro ad' eA q
    rcases o.2 with ⟨e1, _, _⟩ | ⟨g, zs, e1, _, hg, _⟩
    · rw [e1] at eA; cases eA
    · rw [e1] at eA
      cases eA
      rw [q, hg] at hb
      cases hb
      exact not_str hk a.len hc

theorem groups_lt {k v n : Nat} (h : (10 ^ 9) ^ k ≤ v) (hv : v < B32 ^ n) : k < 2 * n := by
  have h1 : (2 ^ 16) ^ k ≤ (10 ^ 9) ^ k := Nat.pow_le_pow_left (by decide) k
  have h2 : B32 ^ n = (2 ^ 16) ^ (2 * n) := by rw [Nat.pow_mul]; rfl
  rw [h2] at hv
  exact (Nat.pow_lt_pow_iff_right (by decide)).1 (Nat.lt_of_le_of_lt (Nat.le_trans h1 h) hv)

theorem digits_le {v n : Nat} (hn : 1 ≤ n) (hv : v < B32 ^ n) : Lib.nDigits v ≤ 10 * n := by
  have h2 : B32 ^ n ≤ 10 ^ (10 * n) := by rw [Nat.pow_mul]; exact Nat.pow_le_pow_left (by decide) n
  exact (padK_dec (10 * n) v (Nat.lt_of_lt_of_le hv h2) (by omega)).2

theorem dec_ne (v : Nat) : Lib.decDigits v ≠ [] := fun e => by
  have h1 := dec_length v
  have h2 := Lib.nDigits_pos v
  rw [e, List.length_nil] at h1
  omega

theorem text_c {h : Heap} {A : Option Addr} {n c v : Nat} (u : IsN h A n c v) (hn : n ≤ 4294967296)
    (hF : ∀ (r : Nat) (h' : Heap), r ≤ v → r < 10 ^ 9 → Le h h' → CallsU Tryz.prog 69 [.int .u64 r, .int .i64 10] h' fun s h'' => s = sv (Lib.decDigits r) ∧ h' = h'') :
    CallsU Tryz.prog 49 [.slice A n c] h fun r h' => r = sv (Lib.decDigits v) ∧ Le h h' := by
  apply natural_Text_ok
  refine (trim_n u (by omega)).mono ?_
  rintro _ _ ⟨n', rfl, hn', nv, rfl⟩
  have hz := NmN.zero_iff nv
  have hvlt : v < B32 ^ n := u.lt
  refine ⟨_, _, _, rfl, Br.mk (fun q => ?_) (fun q => ?_)⟩
  · have : v = 0 := by simp at q; omega
    subst this
    exact ⟨by rw [dec_lt (by decide)]; rfl, Le.refl _⟩
  · have hv0 : v ≠ 0 := by simp at q; omega
    have hn1 : 1 ≤ n := by simp at q; omega
    have hB : Sz v n := hvlt
    refine ⟨fun x aA an ac gA gn gc h' => ∃ gs, NmN h' aA an ac x ∧ Own h h' gA gn gc gs ∧ Le h h' ∧ preD x ++ gs.reverse.flatten = Lib.decDigits v ∧ x * (10 ^ 9) ^ gs.length ≤ v ∧ gs.length ≤ 2 * n,
      ⟨v, [], nv, ⟨rfl, Or.inl ⟨rfl, rfl, rfl⟩⟩, Le.refl _, by simp [preD, hv0], by simp, by simp⟩, ?_⟩
    rintro x aA an ac gA gn gc h2 ⟨gs, nx, own, hl, hdig, hxk, hgl⟩
    have hxz := NmN.zero_iff nx
    have hgn := own.1
    have hpk : 0 < (10 ^ 9) ^ gs.length := Nat.pow_pos (by decide)
    have hxv : x ≤ v := Nat.le_trans (Nat.le_mul_of_pos_right _ hpk) hxk
    have han := NmN.le_of nx (hB.le hxv)
    refine Br.mk (fun q2 => ?_) (fun q2 => ?_)
    · have hx0 : x ≠ 0 := by simp at q2; omega
      have hk : gs.length < 2 * n := by
        refine groups_lt (v := v) ?_ hvlt
        have := Nat.mul_le_mul_right ((10 ^ 9) ^ gs.length) (show 1 ≤ x by omega)
        omega
      have hdiv : x / 10 ^ 9 < x := Nat.div_lt_self (by omega) (by decide)
      have hmodlt : x % 10 ^ 9 < 10 ^ 9 := Nat.mod_lt _ (by decide)
      have hxk' : x / 10 ^ 9 * (10 ^ 9) ^ (gs.length + 1) ≤ v := by
        refine Nat.le_trans ?_ hxk
        rw [show (10 ^ 9) ^ (gs.length + 1) = (10 ^ 9) ^ gs.length * 10 ^ 9 from Nat.pow_succ _ _, Nat.mul_comm _ (10 ^ 9), ← Nat.mul_assoc]
        exact Nat.mul_le_mul_right _ (Nat.div_mul_le_self _ _)
      refine (short_c nx.is (by omega) (d := 1000000000) (by decide) (by decide)).mono ?_
      rintro _ h3 ⟨A3, n3, c3, rfl, n3N, hl3⟩
      have hz3 := NmN.zero_iff n3N
      refine ⟨_, _, _, _, rfl, ?_⟩
      rw [wu (n := x % 1000000000) rfl (by omega)]
      refine (hF (x % 10 ^ 9) h3 (Nat.le_trans (Nat.mod_le _ _) hxv) hmodlt (hl.trans hl3)).mono ?_
      rintro _ _ ⟨rfl, rfl⟩
      refine ⟨_, rfl, ?_⟩
      have own3 := own.le hl3
      have fin : ∀ (A' : Option Addr) (c' : Nat) (h' : Heap) (g0 : Nat), h3 g0 = none → Own h h' A' (gn + 1) c' (gs ++ [grp x]) → Le h h' → (∀ k, k ≠ g0 → h3 k ≠ none → (∀ ad, gA = some ad → k ≠ ad.block) → h' k = h3 k) →
          ∃ m_1, m_1 < x ∧ ∃ gs, NmN h' A3 n3 c3 m_1 ∧ Own h h' A' (gn + 1) c' gs ∧ Le h h' ∧ preD m_1 ++ gs.reverse.flatten = Lib.decDigits v ∧ m_1 * (10 ^ 9) ^ gs.length ≤ v ∧ gs.length ≤ 2 * n := by
        intro A' c' h' g0 hg0 o l a
        refine ⟨x / 10 ^ 9, hdiv, gs ++ [grp x], n3N.app own3 hg0 a, o, l, ?_, by rw [List.length_append, List.length_singleton]; exact hxk', by simp; omega⟩
        rw [List.reverse_append, List.reverse_singleton, List.flatten_append, List.flatten_singleton, ← List.append_assoc, preD_step, ← hdig]
        rw [preD, if_neg hx0]
      refine Br.mk (fun q3 => ?_) (fun q3 => ?_)
      · have h30 : x / 10 ^ 9 ≠ 0 := by
          intro e; have := hz3.2 e; simp at q3; omega
        have hpd := padK_dec 9 (x % 10 ^ 9) hmodlt (by omega)
        have hg : grp x = List.replicate (9 - Lib.nDigits (x % 10 ^ 9)) 48 ++ Lib.decDigits (x % 10 ^ 9) := by rw [grp, if_neg h30, hpd.1]
        have hlen := dec_length (x % 10 ^ 9)
        have hb2 : Lib.nDigits (x % 1000000000) ≤ 9 := hpd.2
        rw [ba_size, hlen]
        rintro _ rfl
        rw [wi (n := 9 - Lib.nDigits (x % 10 ^ 9)) (by omega) (by omega)]
        refine (repeat_c [48] (9 - Lib.nDigits (x % 10 ^ 9)) h3 (by omega) (by simp; omega)).mono ?_
        rintro _ _ ⟨rfl, rfl⟩
        refine ⟨_, rfl, ?_⟩
        rw [ba_size, ba_append, repeatL_48, ← hg]
        refine ⟨by simp; omega, ?_⟩
        rintro g0 _ hg0 rfl
        exact own3.app (hl.trans hl3) hg0 (by omega) (fun A' c' h' o l a => fin A' c' h' g0 hg0 o l a)
      · have h30 : x / 10 ^ 9 = 0 := by
          have : n3 = 0 := by simp at q3; omega
          exact hz3.1 this
        have hg : grp x = Lib.decDigits (x % 10 ^ 9) := by rw [grp, if_pos h30]
        rw [← hg]
        rintro g0 _ hg0 rfl
        exact own3.app (hl.trans hl3) hg0 (by omega) (fun A' c' h' o l a => fin A' c' h' g0 hg0 o l a)
    · have hx0 : x = 0 := by simp at q2; omega
      subst hx0
      rw [preD, if_pos rfl, List.nil_append] at hdig
      rcases own.2 with ⟨_, e, _⟩ | ⟨g, zs, rfl, hg0, hgb, hgc⟩
      · exfalso
        have : gs = [] := List.length_eq_zero_iff.1 (by omega)
        rw [this] at hdig
        exact dec_ne v hdig.symm
      · refine (reverse_c (zs := gs) hgb hgn (by omega)).mono ?_
        rintro _ _ ⟨rfl, rfl⟩
        refine ⟨rfl, ?_⟩
        have hfl : gs.reverse.flatten.length ≤ 10 * n := by rw [hdig, dec_length]; exact digits_le hn1 hvlt
        refine (join_c (zs := gs.reverse) (Heap.put_same _ _ _) (by rw [List.length_reverse]; exact hgn) (by rw [hgc]; simp; omega) (by omega) (by omega)).mono ?_
        rintro _ _ ⟨rfl, rfl⟩
        exact ⟨_, rfl, by rw [hdig], hl.put hg0 _⟩

/-- An integer's decimal text. -/
def itx (z : Int) : List UInt8 := if z < 0 then 45 :: Lib.decDigits z.natAbs else Lib.decDigits z.natAbs

theorem itext_c {h : Heap} {s : Bool} {A : Option Addr} {n c : Nat} {z : Int} (u : IsI h s A n c z) (hn : n ≤ 4294967296)
    (hF : ∀ (r : Nat) (h' : Heap), r ≤ z.natAbs → r < 10 ^ 9 → Le h h' → CallsU Tryz.prog 69 [.int .u64 r, .int .i64 10] h' fun s h'' => s = sv (Lib.decDigits r) ∧ h' = h'') :
    CallsU Tryz.prog 48 [.agg #[.bool s, .slice A n c]] h fun r h' => r = sv (itx z) ∧ Le h h' := by
  apply integer_Text_ok
  have hsz := u.sz
  refine (inorm_c u (by omega)).mono ?_
  rintro _ h1 ⟨s1, A1, k1, c1, rfl, n1, hk1, hl1⟩
  have e1 := n1.2
  have hlen : (Lib.decDigits z.natAbs).length ≤ 10 * (n + 1) := by rw [dec_length]; exact digits_le (by omega) (hsz.mono (by omega))
  refine ⟨_, _, _, _, rfl, Br.mk (fun q => ?_) (fun q => ?_)⟩
  · refine (text_c n1.1.is (by omega) fun r h' a b l => hF r h' a b (hl1.trans l)).mono ?_
    rintro _ h2 ⟨rfl, hl2⟩
    refine ⟨_, rfl, ?_⟩
    rw [show (⟨#[45]⟩ : ByteArray) = ⟨[45].toArray⟩ from rfl, ba_size, ba_size, ba_append]
    rw [e1] at q
    refine ⟨by simp; omega, ?_, hl1.trans hl2⟩
    rw [itx, if_pos (by simpa using q)]
    rfl
  · refine (text_c n1.1.is (by omega) fun r h' a b l => hF r h' a b (hl1.trans l)).mono ?_
    rintro _ h2 ⟨rfl, hl2⟩
    rw [e1] at q
    refine ⟨_, rfl, ?_, hl1.trans hl2⟩
    rw [itx, if_neg (by simpa using q)]

/-- A ratio's text. -/
def rtx (q : Rat) : List UInt8 := if q.den = 1 then itx q.num else itx q.num ++ [47] ++ Lib.decDigits q.den

theorem rtext_c {h : Heap} {s : Bool} {A B : Option Addr} {n c m d : Nat} {q : Rat} (u : IsQ h s A n c B m d q) (hn : n ≤ 1073741824) (hm : m ≤ 1073741824)
    (hF : ∀ (r : Nat) (h' : Heap), r ≤ max q.num.natAbs q.den → r < 10 ^ 9 → Le h h' → CallsU Tryz.prog 69 [.int .u64 r, .int .i64 10] h' fun s h'' => s = sv (Lib.decDigits r) ∧ h' = h'') :
    CallsU Tryz.prog 22 [.agg #[.bool s, .slice A n c, .slice B m d]] h fun r h' => r = sv (rtx q) ∧ Le h h' := by
  apply ratio_Text_ok
  refine (rnorm_c u (by omega) (by omega)).mono ?_
  rintro _ h1 ⟨s1, A1, n1, c1, B1, m1, d1, rfl, nq, hn1, hm1, hl1⟩
  refine ⟨_, _, _, _, _, _, _, rfl, (of_c 1 (by omega) h1).mono ?_⟩
  rintro _ h2 ⟨A2, n2, c2, rfl, hn2, nN2, hl2⟩
  refine ⟨_, _, _, rfl, (cmp_c (nq.2.mono hl2).is nN2.is (by omega) (by omega)).mono ?_⟩
  rintro _ _ ⟨rfl, rfl⟩
  have nq2 := nq.mono hl2
  have hl12 := hl1.trans hl2
  have hcmp : cmpI ((q.den : Nat) : Int) ((1 : Nat) : Int) = 0 ↔ q.den = 1 := by
    have := q.den_nz
    unfold cmpI
    split
    · omega
    · split <;> omega
  refine ⟨_, rfl, Br.mk (fun p => ?_) (fun p => ?_)⟩
  · have p' : q.den = 1 := hcmp.1 (by simpa using p)
    refine (itext_c nq2.1.is (by omega) fun r h' a b l => hF r h' (by omega) b (hl12.trans l)).mono ?_
    rintro _ h3 ⟨rfl, hl3⟩
    exact ⟨_, rfl, by rw [rtx, if_pos p'], hl12.trans hl3⟩
  · have p' : q.den ≠ 1 := fun e => absurd (hcmp.2 e) (by simpa using p)
    refine (itext_c nq2.1.is (by omega) fun r h' a b l => hF r h' (by omega) b (hl12.trans l)).mono ?_
    rintro _ h3 ⟨rfl, hl3⟩
    have hI : (itx q.num).length ≤ 10 * (n1 + 1) + 1 := by
      have : (Lib.decDigits q.num.natAbs).length ≤ 10 * (n1 + 1) := by rw [dec_length]; exact digits_le (by omega) (nq2.1.is.sz.mono (by omega))
      unfold itx
      split
      · simp; omega
      · omega
    have hD : (Lib.decDigits q.den).length ≤ 10 * (m1 + 1) := by rw [dec_length]; exact digits_le (by omega) (nq2.2.sz.mono (by omega))
    refine ⟨_, rfl, ?_⟩
    rw [show (⟨#[47]⟩ : ByteArray) = ⟨[47].toArray⟩ from rfl, ba_append, ba_size, ba_size, ba_size]
    refine ⟨by simp; omega, (text_c (nq2.2.mono hl3).is (by omega) fun r h' a b l => hF r h' (by omega) b ((hl12.trans hl3).trans l)).mono ?_⟩
    rintro _ h4 ⟨rfl, hl4⟩
    refine ⟨_, rfl, ?_⟩
    rw [ba_append, ba_size]
    exact ⟨by simp; omega, by rw [rtx, if_neg p'], (hl12.trans hl3).trans hl4⟩
end Go.Proofs.YtfhipkdcekffaaaGreatDoor
