/-
  Gathered texts of this proof: Rp3, Rp4, Rp5, Rp6, Fo10, Rh2, Rh3.
-/
import Derived.Test.YtdpdaphholileaaGreatDoorG11

/-
  Contracts: the reference's reader: product and sum (printed by wip/gen/mkrp3.py).
-/
namespace Go.Proofs.YtdpdaphholileaaGreatDoor
open Go Go.Vcg Go.RowKit Go.Sort
attribute [local irreducible] Br

/-- The shape of a tree's value. -/
def Shp (r : Value) : Prop := ∃ (k : Int) (s : Bool) (A : Option Addr) (n c : Nat) (B : Option Addr) (m d : Nat) (nm : List UInt8) (K : Option Addr) (kn kc : Nat), r = .agg (cellsE k s A n c B m d nm K kn kc).toArray

theorem Shp.of {h : Heap} {x : Ex} {vs : List Value} (u : IsE h x vs) : Shp (.agg vs.toArray) := by
  obtain ⟨s, A, c, B, d, K, kc, rfl, _⟩ := u.open
  exact ⟨_, _, _, _, _, _, _, _, _, _, _, _, rfl⟩

/-- What a method of the reader gives. -/
def GR (S : Option Addr × Nat) (o : RT) (T : List (List UInt8)) (g a : Nat) (h : Heap) (r : Value) (h' : Heap) : Prop :=
  Le (hole h g) (hole h' g) ∧ match o with
    | .ok (x, ts) => ∃ (vs : List Value) (a' : Nat), r = .agg vs.toArray ∧ IsE (hole h' g) x vs ∧ Szs x ∧ Rdr S h' g T a' 0 ∧ a ≤ a' ∧ a' ≤ T.length ∧ T.drop a' = ts
    | .error er => er ≠ 0 ∧ Shp r ∧ ∃ a' : Nat, Rdr S h' g T a' er ∧ a' + 2 * a ≤ 3 * T.length + 2

def ROk (f : FuncId) (args : Nat → List Value) (o : List (List UInt8) → RT) : Prop :=
  ∀ {S : Option Addr × Nat} {h : Heap} {g : Nat} {T : List (List UInt8)} {a : Nat}, Rdr S h g T a 0 → a ≤ T.length → T.length ≤ 400 → (∀ t ∈ T, t ≠ [] ∧ t.length ≤ 400) → o (T.drop a) ≠ .error 99 → CallsU Tryz.prog f (args g) h (GR S (o (T.drop a)) T g a h)

/-- .. behind an error. -/
def RErr (f : FuncId) (args : Nat → List Value) : Prop :=
  ∀ {S : Option Addr × Nat} {h : Heap} {g : Nat} {T : List (List UInt8)} {a : Nat} {e : Int}, Rdr S h g T a e → e ≠ 0 → CallsU Tryz.prog f (args g) h fun r h' => Shp r ∧ Rdr S h' g T a e ∧ hole h' g = hole h g

theorem nxt_err (T : List (List UInt8)) (a : Nat) {e : Int} (h : e ≠ 0) : nxtV T a e = [] := if_neg h
theorem nxt_ok (T : List (List UInt8)) (a : Nat) : nxtV T a 0 = hdT (T.drop a) := if_pos rfl
theorem wrg_err (T : List (List UInt8)) (a : Nat) {e : Int} (h : e ≠ 0) : wrgV T a e = e := if_neg h

theorem hd_lt {T : List (List UInt8)} {a : Nat} (h : hdT (T.drop a) ≠ []) : a < T.length := by
  rcases Nat.lt_or_ge a T.length with q | q
  · exact q
  · rw [List.drop_eq_nil_of_le q] at h; exact absurd rfl h
theorem drop_tail {T : List (List UInt8)} {a : Nat} : T.drop (a + 1) = (T.drop a).tail := by rw [List.tail_drop]

/-- A block that is not the reader's is laid. -/
theorem Rdr.put {S : Option Addr × Nat} {h : Heap} {g k : Nat} {T : List (List UInt8)} {a : Nat} {e : Int} (u : Rdr S h g T a e) (hk : h k = none) (b : Blk) : Rdr S (h.put k b) g T a e ∧ k ≠ g ∧ hole h g k = none ∧ hole (h.put k b) g = (hole h g).put k b := by
  obtain ⟨ty, hs, hb⟩ := u
  have hne : k ≠ g := fun q => by rw [q, hb] at hk; cases hk
  have hn : hole h g k = none := by rw [hole_ne _ hne]; exact hk
  refine ⟨⟨ty, ?_, by rw [Heap.put_ne _ _ (fun q => hne q.symm)]; exact hb⟩, hne, hn, hole_put_ne _ _ hne⟩
  rw [hole_put_ne _ _ hne]
  exact hs.mono (Le.new hn _)

theorem Rdr.same {S : Option Addr × Nat} {h h' : Heap} {g : Nat} {T : List (List UInt8)} {a : Nat} {e : Int} (u : Rdr S h g T a e) (hh : hole h' g = hole h g) (hb : h' g = h g) : Rdr S h' g T a e := by
  obtain ⟨ty, hs, hb'⟩ := u
  exact ⟨ty, by rw [hh]; exact hs, by rw [hb]; exact hb'⟩

theorem rproduct_err (ih : RErr 122 ptr) : RErr 73 ptr := by
  intro S h g T a e u he
  apply garment_ref17_reader_product_ok
  unfold garment_ref17_reader_product_vc
  simp only [and_true, and_self]
  refine (ih u he).mono ?_
  rintro _ h1 ⟨⟨k, s, A, n, c, B, m, d, nm, K, kn, kc, rfl⟩, u1, ho1⟩
  refine ⟨_, _, _, _, _, _, _, _, _, _, _, _, rfl, fun m0 _ _ _ _ _ _ _ _ _ _ _ _ h' => h' = h1, ⟨0, rfl⟩, ?_⟩
  rintro m0 e0 e1 e2A e2n e2c e3A e3n e3c e4 e5A e5n e5c _ rfl
  refine ⟨fun _ => False, fun _ q => q.elim, (rNext_c u1).mono ?_⟩
  rintro _ _ ⟨rfl, rfl⟩
  have b1 : (⟨#[42]⟩ : ByteArray).toList = [42] := bytes_toList _
  have b2 : (⟨#[47]⟩ : ByteArray).toList = [47] := bytes_toList _
  refine ⟨_, rfl, ?_⟩
  rw [nxt_err _ _ he, bytes_toList, b1, b2]
  refine Br.mk (fun q => by exact absurd q (by decide)) (fun _ => (rNext_c u1).mono ?_)
  rintro _ _ ⟨rfl, rfl⟩
  refine ⟨_, rfl, ?_⟩
  rw [nxt_err _ _ he, bytes_toList]
  refine Br.mk (fun q => by exact absurd q (by decide)) (fun _ => ⟨?_, u1, ho1⟩)
  exact ⟨e0, e1, e2A, e2n, e2c, e3A, e3n, e3c, e4.data.toList, e5A, e5n, e5c, rfl⟩

theorem rproduct_step {n : Nat} (ihE : RErr 122 ptr) (ih : ∀ k, k ≤ n → ROk 122 ptr (qFac k)) : ROk 73 ptr (qProd (n + 1)) := by
  intro S h g T a u ha hT hTl hne
  -- the outcome of the whole
  generalize hX : qProd (n + 1) (T.drop a) = X at hne ⊢
  rw [qProd] at hX
  apply garment_ref17_reader_product_ok
  unfold garment_ref17_reader_product_vc
  simp only [and_true, and_self]
  have b1 : (⟨#[42]⟩ : ByteArray).toList = [42] := bytes_toList _
  have b2 : (⟨#[47]⟩ : ByteArray).toList = [47] := bytes_toList _
  -- behind an error
  have out : ∀ {h2 : Heap} {er : Int} {a2 : Nat} (e0 : Int) (e1 : Bool) (e2A : Option Addr) (e2n e2c : Nat) (e3A : Option Addr) (e3n e3c : Nat) (e4 : ByteArray) (e5A : Option Addr) (e5n e5c : Nat), X = .error er → er ≠ 0 → Rdr S h2 g T a2 er → a2 + 2 * a ≤ 3 * T.length + 2 → Le (hole h g) (hole h2 g) →
      GR S X T g a h (Value.agg #[Value.int .i64 e0, Value.bool e1, Value.slice e2A e2n e2c, Value.slice e3A e3n e3c, Value.string e4, Value.slice e5A e5n e5c]) h2 := by
    intro h2 er a2 e0 e1 e2A e2n e2c e3A e3n e3c e4 e5A e5n e5c hX he u2 hb hle
    rw [hX]
    exact ⟨hle, he, ⟨e0, e1, e2A, e2n, e2c, e3A, e3n, e3c, e4.data.toList, e5A, e5n, e5c, rfl⟩, a2, u2, hb⟩
  have hsub := ih n (Nat.le_refl _) (T := T) (a := a) u ha hT hTl (fun q => by rw [q] at hX; exact hne hX.symm)
  refine hsub.mono ?_
  intro v h1 hG
  -- the state of the loop
  have start : ∃ k s A nn c B m d nm K kn kc, v = .agg (cellsE k s A nn c B m d nm K kn kc).toArray ∧ Le (hole h g) (hole h1 g) ∧
      ((∃ er a', X = .error er ∧ er ≠ 0 ∧ Rdr S h1 g T a' er ∧ a' + 2 * a ≤ 3 * T.length + 2) ∨ ∃ x a', qProdL n x (T.drop a') = X ∧ IsE (hole h1 g) x (cellsE k s A nn c B m d nm K kn kc) ∧ Szs x ∧ Rdr S h1 g T a' 0 ∧ a ≤ a' ∧ a' ≤ T.length) := by
    obtain ⟨hle, hG⟩ := hG
    cases ho : qFac n (T.drop a) with
    | error er =>
      rw [ho] at hG hX
      obtain ⟨he, ⟨k, s, A, nn, c, B, m, d, nm, K, kn, kc, rfl⟩, a', u', hb⟩ := hG
      exact ⟨k, s, A, nn, c, B, m, d, nm, K, kn, kc, rfl, hle, Or.inl ⟨er, a', hX.symm, he, u', hb⟩⟩
    | ok p =>
      obtain ⟨x, ts⟩ := p
      rw [ho] at hG hX
      obtain ⟨vs, a', rfl, ux, zx, u', h3, h4, h5⟩ := hG
      have ux' := ux
      obtain ⟨s, A, c, B, d, K, kc, rfl, _⟩ := ux'.open
      exact ⟨_, _, _, _, _, _, _, _, _, _, _, _, rfl, hle, Or.inr ⟨x, a', by rw [h5]; exact hX, ux, zx, u', h3, h4⟩⟩
  obtain ⟨k0, s0, A0, n0, c0, B0, m0, d0, nm0, K0, kn0, kc0, rfl, hle1, hcase⟩ := start
  refine ⟨_, _, _, _, _, _, _, _, _, _, _, _, rfl, fun m e0 e1 e2A e2n e2c e3A e3n e3c e4 e5A e5n e5c h' => Le (hole h g) (hole h' g) ∧
      ((∃ er a', X = .error er ∧ er ≠ 0 ∧ Rdr S h' g T a' er ∧ a' + 2 * a ≤ 3 * T.length + 2) ∨ (m ≤ n ∧ ∃ x a', qProdL m x (T.drop a') = X ∧ IsE (hole h' g) x [.int .i64 e0, .bool e1, .slice e2A e2n e2c, .slice e3A e3n e3c, .string e4, .slice e5A e5n e5c] ∧ Szs x ∧ Rdr S h' g T a' 0 ∧ a ≤ a' ∧ a' ≤ T.length)), ⟨n, hle1, hcase.imp id fun q => ⟨Nat.le_refl _, q⟩⟩, ?_⟩
  rintro m e0 e1 e2A e2n e2c e3A e3n e3c e4 e5A e5n e5c h2 ⟨hle2, hcase2⟩
  rcases hcase2 with ⟨er, a', hXe, he, u2, hb⟩ | ⟨hm, x, a', hy, ux, zx, u2, ha1, ha2⟩
  · refine ⟨fun _ => False, fun _ q => q.elim, (rNext_c u2).mono ?_⟩
    rintro _ _ ⟨rfl, rfl⟩
    refine ⟨_, rfl, ?_⟩
    rw [nxt_err _ _ he, bytes_toList, b1, b2]
    refine Br.mk (fun q => by exact absurd q (by decide)) (fun _ => (rNext_c u2).mono ?_)
    rintro _ _ ⟨rfl, rfl⟩
    refine ⟨_, rfl, ?_⟩
    rw [nxt_err _ _ he, bytes_toList]
    exact Br.mk (fun q => by exact absurd q (by decide)) (fun _ => out _ _ _ _ _ _ _ _ _ _ _ _ hXe he u2 hb hle2)
  · cases m with
    | zero => rw [qProdL] at hy; exact absurd hy.symm hne
    | succ m =>
      rw [qProdL] at hy
      generalize hts : T.drop a' = ts at *
      have htl : T.drop (a' + 1) = ts.tail := by rw [drop_tail, hts]
      -- one more operand
      have go : ∀ kd : Int, hdT ts ≠ [] → (match qFac m ts.tail with | .error e => .error e | .ok (z, r') => qProdL m (op2 kd x z) r' : RT) = X → ∀ {h5 : Heap}, Rdr S h5 g T (a' + 1) 0 → hole h5 g = hole h2 g →
          CallsU Tryz.prog 122 (ptr g) h5 fun v_1 h_6 =>
          ∃ t28_0 : Int, ∃ t28_1 : Bool, ∃ t28_2A : Option Addr, ∃ t28_2n t28_2c : Nat, ∃ t28_3A : Option Addr, ∃ t28_3n t28_3c : Nat, ∃ t28_4 : ByteArray, ∃ t28_5A : Option Addr, ∃ t28_5n t28_5c : Nat, v_1 = Value.agg #[Value.int .i64 t28_0, Value.bool t28_1, Value.slice t28_2A t28_2n t28_2c, Value.slice t28_3A t28_3n t28_3c, Value.string t28_4, Value.slice t28_5A t28_5n t28_5c] ∧
          ∀ (g_1 : Nat) (h_7 : Heap), h_6 g_1 = none → h_7 = Heap.put h_6 g_1 ⟨[Value.int .i64 e0, Value.bool e1, Value.slice e2A e2n e2c, Value.slice e3A e3n e3c, Value.string e4, Value.slice e5A e5n e5c, Value.int .i64 t28_0, Value.bool t28_1, Value.slice t28_2A t28_2n t28_2c, Value.slice t28_3A t28_3n t28_3c, Value.string t28_4, Value.slice t28_5A t28_5n t28_5c], 30, (0, 0)⟩ →
          ∃ m_1, m_1 < m + 1 ∧ (Le (hole h g) (hole h_7 g) ∧
            ((∃ er a', X = .error er ∧ er ≠ 0 ∧ Rdr S h_7 g T a' er ∧ a' + 2 * a ≤ 3 * T.length + 2) ∨ (m_1 ≤ n ∧ ∃ x a', qProdL m_1 x (T.drop a') = X ∧ IsE (hole h_7 g) x [.int .i64 kd, .bool false, .slice none 0 0, .slice none 0 0, .string ByteArray.empty, .slice (some ⟨g_1, 0, none⟩) 2 2] ∧ Szs x ∧ Rdr S h_7 g T a' 0 ∧ a ≤ a' ∧ a' ≤ T.length))) := by
        intro kd hh heq h5 u5 ho5
        have hlt : a' < T.length := hd_lt (by rw [hts]; exact hh)
        have hs2 := ih m (by omega) (T := T) (a := a' + 1) u5 (by omega) hT hTl (fun q => by
          rw [htl] at q
          rw [q] at heq
          exact hne heq.symm)
        rw [htl] at hs2
        refine hs2.mono ?_
        rintro _ h6 ⟨hle6, hG6⟩
        have hle26 : Le (hole h2 g) (hole h6 g) := by rw [← ho5]; exact hle6
        cases ho6 : qFac m ts.tail with
        | error er =>
          rw [ho6] at hG6 heq
          obtain ⟨he, ⟨k, s, A, nn, c, B, mm, d, nm, K, kn, kc, rfl⟩, a6, u6, hb6⟩ := hG6
          refine ⟨_, _, _, _, _, _, _, _, _, _, _, _, rfl, ?_⟩
          rintro g1 _ hg1 rfl
          obtain ⟨u7, hgg, hn7, ho7⟩ := u6.put hg1 _
          refine ⟨m, by omega, ?_, Or.inl ⟨er, a6, heq.symm, he, u7, by omega⟩⟩
          rw [ho7]
          exact (hle2.trans hle26).trans (Le.new hn7 _)
        | ok p =>
          obtain ⟨z, r3⟩ := p
          rw [ho6] at hG6 heq
          obtain ⟨vs, a6, rfl, uz, zz, u6, h61, h62, h63⟩ := hG6
          have uz' := uz
          obtain ⟨s, A, c, B, d, K, kc, rfl, _⟩ := uz'.open
          refine ⟨_, _, _, _, _, _, _, _, _, _, _, _, rfl, ?_⟩
          rintro g1 _ hg1 rfl
          obtain ⟨u7, hgg, hn7, ho7⟩ := u6.put hg1 _
          refine ⟨m, by omega, ?_, Or.inr ⟨by omega, op2 kd x z, a6, by rw [h63]; exact heq, ?_, Szs_two zx zz, u7, by omega, h62⟩⟩
          · rw [ho7]
            exact (hle2.trans hle26).trans (Le.new hn7 _)
          · rw [ho7]
            exact IsE_two hn7 (IsE.mono hle26 _ _ ux) uz
      refine ⟨fun h' => h2 = h' ∧ (hdT ts = [42] ∨ hdT ts = [47]), ?_, (rNext_c u2).mono ?_⟩
      · rintro _ ⟨rfl, hor⟩
        refine ⟨fun kd h' => h2 = h' ∧ hdT ts ≠ [] ∧ (match qFac m ts.tail with | .error e => .error e | .ok (z, r') => qProdL m (op2 kd x z) r' : RT) = X, ?_, (rNext_c u2).mono ?_⟩
        · rintro kd _ ⟨rfl, hh, heq⟩
          exact u2.step (by omega) fun h5 u5 ho5 => go kd hh heq u5 ho5
        · rintro _ _ ⟨rfl, rfl⟩
          refine ⟨_, rfl, ?_⟩
          rw [nxt_ok, hts, bytes_toList, b2]
          refine Br.mk (fun q => ?_) (fun q => ?_)
          · have e1 := beq_iff_eq.1 q
            have d1 : ([47] : List UInt8) ≠ [42] := by decide
            rw [e1, if_neg d1, if_pos rfl] at hy
            exact ⟨rfl, by rw [e1]; simp, hy⟩
          · have e2 := beq_eq_false_iff_ne.1 q
            have e1 := hor.resolve_right e2
            rw [e1, if_pos rfl] at hy
            exact ⟨rfl, by rw [e1]; simp, hy⟩
      · rintro _ _ ⟨rfl, rfl⟩
        refine ⟨_, rfl, ?_⟩
        rw [nxt_ok, hts, bytes_toList, b1, b2]
        refine Br.mk (fun q => ⟨rfl, Or.inl (beq_iff_eq.1 q)⟩) (fun q => (rNext_c u2).mono ?_)
        rintro _ _ ⟨rfl, rfl⟩
        refine ⟨_, rfl, ?_⟩
        rw [nxt_ok, hts, bytes_toList]
        refine Br.mk (fun q2 => ⟨rfl, Or.inr (beq_iff_eq.1 q2)⟩) (fun q2 => ?_)
        rw [if_neg (beq_eq_false_iff_ne.1 q), if_neg (beq_eq_false_iff_ne.1 q2)] at hy
        rw [← hy]
        exact ⟨hle2, _, a', rfl, ux, zx, u2, ha1, ha2, hts⟩

theorem rsum_err (ih : RErr 73 ptr) : RErr 44 ptr := by
  intro S h g T a e u he
  apply garment_ref17_reader_sum_ok
  unfold garment_ref17_reader_sum_vc
  simp only [and_true, and_self]
  refine (ih u he).mono ?_
  rintro _ h1 ⟨⟨k, s, A, n, c, B, m, d, nm, K, kn, kc, rfl⟩, u1, ho1⟩
  refine ⟨_, _, _, _, _, _, _, _, _, _, _, _, rfl, fun m0 _ _ _ _ _ _ _ _ _ _ _ _ h' => h' = h1, ⟨0, rfl⟩, ?_⟩
  rintro m0 e0 e1 e2A e2n e2c e3A e3n e3c e4 e5A e5n e5c _ rfl
  refine ⟨fun _ => False, fun _ q => q.elim, (rNext_c u1).mono ?_⟩
  rintro _ _ ⟨rfl, rfl⟩
  have b1 : (⟨#[43]⟩ : ByteArray).toList = [43] := bytes_toList _
  have b2 : (⟨#[45]⟩ : ByteArray).toList = [45] := bytes_toList _
  refine ⟨_, rfl, ?_⟩
  rw [nxt_err _ _ he, bytes_toList, b1, b2]
  refine Br.mk (fun q => by exact absurd q (by decide)) (fun _ => (rNext_c u1).mono ?_)
  rintro _ _ ⟨rfl, rfl⟩
  refine ⟨_, rfl, ?_⟩
  rw [nxt_err _ _ he, bytes_toList]
  refine Br.mk (fun q => by exact absurd q (by decide)) (fun _ => ⟨?_, u1, ho1⟩)
  exact ⟨e0, e1, e2A, e2n, e2c, e3A, e3n, e3c, e4.data.toList, e5A, e5n, e5c, rfl⟩

theorem rsum_step {n : Nat} (ihE : RErr 73 ptr) (ih : ∀ k, k ≤ n → ROk 73 ptr (qProd k)) : ROk 44 ptr (qSum (n + 1)) := by
  intro S h g T a u ha hT hTl hne
  -- the outcome of the whole
  generalize hX : qSum (n + 1) (T.drop a) = X at hne ⊢
  rw [qSum] at hX
  apply garment_ref17_reader_sum_ok
  unfold garment_ref17_reader_sum_vc
  simp only [and_true, and_self]
  have b1 : (⟨#[43]⟩ : ByteArray).toList = [43] := bytes_toList _
  have b2 : (⟨#[45]⟩ : ByteArray).toList = [45] := bytes_toList _
  -- behind an error
  have out : ∀ {h2 : Heap} {er : Int} {a2 : Nat} (e0 : Int) (e1 : Bool) (e2A : Option Addr) (e2n e2c : Nat) (e3A : Option Addr) (e3n e3c : Nat) (e4 : ByteArray) (e5A : Option Addr) (e5n e5c : Nat), X = .error er → er ≠ 0 → Rdr S h2 g T a2 er → a2 + 2 * a ≤ 3 * T.length + 2 → Le (hole h g) (hole h2 g) →
      GR S X T g a h (Value.agg #[Value.int .i64 e0, Value.bool e1, Value.slice e2A e2n e2c, Value.slice e3A e3n e3c, Value.string e4, Value.slice e5A e5n e5c]) h2 := by
    intro h2 er a2 e0 e1 e2A e2n e2c e3A e3n e3c e4 e5A e5n e5c hX he u2 hb hle
    rw [hX]
    exact ⟨hle, he, ⟨e0, e1, e2A, e2n, e2c, e3A, e3n, e3c, e4.data.toList, e5A, e5n, e5c, rfl⟩, a2, u2, hb⟩
  have hsub := ih n (Nat.le_refl _) (T := T) (a := a) u ha hT hTl (fun q => by rw [q] at hX; exact hne hX.symm)
  refine hsub.mono ?_
  intro v h1 hG
  -- the state of the loop
  have start : ∃ k s A nn c B m d nm K kn kc, v = .agg (cellsE k s A nn c B m d nm K kn kc).toArray ∧ Le (hole h g) (hole h1 g) ∧
      ((∃ er a', X = .error er ∧ er ≠ 0 ∧ Rdr S h1 g T a' er ∧ a' + 2 * a ≤ 3 * T.length + 2) ∨ ∃ x a', qSumL n x (T.drop a') = X ∧ IsE (hole h1 g) x (cellsE k s A nn c B m d nm K kn kc) ∧ Szs x ∧ Rdr S h1 g T a' 0 ∧ a ≤ a' ∧ a' ≤ T.length) := by
    obtain ⟨hle, hG⟩ := hG
    cases ho : qProd n (T.drop a) with
    | error er =>
      rw [ho] at hG hX
      obtain ⟨he, ⟨k, s, A, nn, c, B, m, d, nm, K, kn, kc, rfl⟩, a', u', hb⟩ := hG
      exact ⟨k, s, A, nn, c, B, m, d, nm, K, kn, kc, rfl, hle, Or.inl ⟨er, a', hX.symm, he, u', hb⟩⟩
    | ok p =>
      obtain ⟨x, ts⟩ := p
      rw [ho] at hG hX
      obtain ⟨vs, a', rfl, ux, zx, u', h3, h4, h5⟩ := hG
      have ux' := ux
      obtain ⟨s, A, c, B, d, K, kc, rfl, _⟩ := ux'.open
      exact ⟨_, _, _, _, _, _, _, _, _, _, _, _, rfl, hle, Or.inr ⟨x, a', by rw [h5]; exact hX, ux, zx, u', h3, h4⟩⟩
  obtain ⟨k0, s0, A0, n0, c0, B0, m0, d0, nm0, K0, kn0, kc0, rfl, hle1, hcase⟩ := start
  refine ⟨_, _, _, _, _, _, _, _, _, _, _, _, rfl, fun m e0 e1 e2A e2n e2c e3A e3n e3c e4 e5A e5n e5c h' => Le (hole h g) (hole h' g) ∧
      ((∃ er a', X = .error er ∧ er ≠ 0 ∧ Rdr S h' g T a' er ∧ a' + 2 * a ≤ 3 * T.length + 2) ∨ (m ≤ n ∧ ∃ x a', qSumL m x (T.drop a') = X ∧ IsE (hole h' g) x [.int .i64 e0, .bool e1, .slice e2A e2n e2c, .slice e3A e3n e3c, .string e4, .slice e5A e5n e5c] ∧ Szs x ∧ Rdr S h' g T a' 0 ∧ a ≤ a' ∧ a' ≤ T.length)), ⟨n, hle1, hcase.imp id fun q => ⟨Nat.le_refl _, q⟩⟩, ?_⟩
  rintro m e0 e1 e2A e2n e2c e3A e3n e3c e4 e5A e5n e5c h2 ⟨hle2, hcase2⟩
  rcases hcase2 with ⟨er, a', hXe, he, u2, hb⟩ | ⟨hm, x, a', hy, ux, zx, u2, ha1, ha2⟩
  · refine ⟨fun _ => False, fun _ q => q.elim, (rNext_c u2).mono ?_⟩
    rintro _ _ ⟨rfl, rfl⟩
    refine ⟨_, rfl, ?_⟩
    rw [nxt_err _ _ he, bytes_toList, b1, b2]
    refine Br.mk (fun q => by exact absurd q (by decide)) (fun _ => (rNext_c u2).mono ?_)
    rintro _ _ ⟨rfl, rfl⟩
    refine ⟨_, rfl, ?_⟩
    rw [nxt_err _ _ he, bytes_toList]
    exact Br.mk (fun q => by exact absurd q (by decide)) (fun _ => out _ _ _ _ _ _ _ _ _ _ _ _ hXe he u2 hb hle2)
  · cases m with
    | zero => rw [qSumL] at hy; exact absurd hy.symm hne
    | succ m =>
      rw [qSumL] at hy
      generalize hts : T.drop a' = ts at *
      have htl : T.drop (a' + 1) = ts.tail := by rw [drop_tail, hts]
      -- one more operand
      have go : ∀ kd : Int, hdT ts ≠ [] → (match qProd m ts.tail with | .error e => .error e | .ok (z, r') => qSumL m (op2 kd x z) r' : RT) = X → ∀ {h5 : Heap}, Rdr S h5 g T (a' + 1) 0 → hole h5 g = hole h2 g →
          CallsU Tryz.prog 73 (ptr g) h5 fun v_1 h_6 =>
          ∃ t28_0 : Int, ∃ t28_1 : Bool, ∃ t28_2A : Option Addr, ∃ t28_2n t28_2c : Nat, ∃ t28_3A : Option Addr, ∃ t28_3n t28_3c : Nat, ∃ t28_4 : ByteArray, ∃ t28_5A : Option Addr, ∃ t28_5n t28_5c : Nat, v_1 = Value.agg #[Value.int .i64 t28_0, Value.bool t28_1, Value.slice t28_2A t28_2n t28_2c, Value.slice t28_3A t28_3n t28_3c, Value.string t28_4, Value.slice t28_5A t28_5n t28_5c] ∧
          ∀ (g_1 : Nat) (h_7 : Heap), h_6 g_1 = none → h_7 = Heap.put h_6 g_1 ⟨[Value.int .i64 e0, Value.bool e1, Value.slice e2A e2n e2c, Value.slice e3A e3n e3c, Value.string e4, Value.slice e5A e5n e5c, Value.int .i64 t28_0, Value.bool t28_1, Value.slice t28_2A t28_2n t28_2c, Value.slice t28_3A t28_3n t28_3c, Value.string t28_4, Value.slice t28_5A t28_5n t28_5c], 30, (0, 0)⟩ →
          ∃ m_1, m_1 < m + 1 ∧ (Le (hole h g) (hole h_7 g) ∧
            ((∃ er a', X = .error er ∧ er ≠ 0 ∧ Rdr S h_7 g T a' er ∧ a' + 2 * a ≤ 3 * T.length + 2) ∨ (m_1 ≤ n ∧ ∃ x a', qSumL m_1 x (T.drop a') = X ∧ IsE (hole h_7 g) x [.int .i64 kd, .bool false, .slice none 0 0, .slice none 0 0, .string ByteArray.empty, .slice (some ⟨g_1, 0, none⟩) 2 2] ∧ Szs x ∧ Rdr S h_7 g T a' 0 ∧ a ≤ a' ∧ a' ≤ T.length))) := by
        intro kd hh heq h5 u5 ho5
        have hlt : a' < T.length := hd_lt (by rw [hts]; exact hh)
        have hs2 := ih m (by omega) (T := T) (a := a' + 1) u5 (by omega) hT hTl (fun q => by
          rw [htl] at q
          rw [q] at heq
          exact hne heq.symm)
        rw [htl] at hs2
        refine hs2.mono ?_
        rintro _ h6 ⟨hle6, hG6⟩
        have hle26 : Le (hole h2 g) (hole h6 g) := by rw [← ho5]; exact hle6
        cases ho6 : qProd m ts.tail with
        | error er =>
          rw [ho6] at hG6 heq
          obtain ⟨he, ⟨k, s, A, nn, c, B, mm, d, nm, K, kn, kc, rfl⟩, a6, u6, hb6⟩ := hG6
          refine ⟨_, _, _, _, _, _, _, _, _, _, _, _, rfl, ?_⟩
          rintro g1 _ hg1 rfl
          obtain ⟨u7, hgg, hn7, ho7⟩ := u6.put hg1 _
          refine ⟨m, by omega, ?_, Or.inl ⟨er, a6, heq.symm, he, u7, by omega⟩⟩
          rw [ho7]
          exact (hle2.trans hle26).trans (Le.new hn7 _)
        | ok p =>
          obtain ⟨z, r3⟩ := p
          rw [ho6] at hG6 heq
          obtain ⟨vs, a6, rfl, uz, zz, u6, h61, h62, h63⟩ := hG6
          have uz' := uz
          obtain ⟨s, A, c, B, d, K, kc, rfl, _⟩ := uz'.open
          refine ⟨_, _, _, _, _, _, _, _, _, _, _, _, rfl, ?_⟩
          rintro g1 _ hg1 rfl
          obtain ⟨u7, hgg, hn7, ho7⟩ := u6.put hg1 _
          refine ⟨m, by omega, ?_, Or.inr ⟨by omega, op2 kd x z, a6, by rw [h63]; exact heq, ?_, Szs_two zx zz, u7, by omega, h62⟩⟩
          · rw [ho7]
            exact (hle2.trans hle26).trans (Le.new hn7 _)
          · rw [ho7]
            exact IsE_two hn7 (IsE.mono hle26 _ _ ux) uz
      refine ⟨fun h' => h2 = h' ∧ (hdT ts = [43] ∨ hdT ts = [45]), ?_, (rNext_c u2).mono ?_⟩
      · rintro _ ⟨rfl, hor⟩
        refine ⟨fun kd h' => h2 = h' ∧ hdT ts ≠ [] ∧ (match qProd m ts.tail with | .error e => .error e | .ok (z, r') => qSumL m (op2 kd x z) r' : RT) = X, ?_, (rNext_c u2).mono ?_⟩
        · rintro kd _ ⟨rfl, hh, heq⟩
          exact u2.step (by omega) fun h5 u5 ho5 => go kd hh heq u5 ho5
        · rintro _ _ ⟨rfl, rfl⟩
          refine ⟨_, rfl, ?_⟩
          rw [nxt_ok, hts, bytes_toList, b2]
          refine Br.mk (fun q => ?_) (fun q => ?_)
          · have e1 := beq_iff_eq.1 q
            have d1 : ([45] : List UInt8) ≠ [43] := by decide
            rw [e1, if_neg d1, if_pos rfl] at hy
            exact ⟨rfl, by rw [e1]; simp, hy⟩
          · have e2 := beq_eq_false_iff_ne.1 q
            have e1 := hor.resolve_right e2
            rw [e1, if_pos rfl] at hy
            exact ⟨rfl, by rw [e1]; simp, hy⟩
      · rintro _ _ ⟨rfl, rfl⟩
        refine ⟨_, rfl, ?_⟩
        rw [nxt_ok, hts, bytes_toList, b1, b2]
        refine Br.mk (fun q => ⟨rfl, Or.inl (beq_iff_eq.1 q)⟩) (fun q => (rNext_c u2).mono ?_)
        rintro _ _ ⟨rfl, rfl⟩
        refine ⟨_, rfl, ?_⟩
        rw [nxt_ok, hts, bytes_toList]
        refine Br.mk (fun q2 => ⟨rfl, Or.inr (beq_iff_eq.1 q2)⟩) (fun q2 => ?_)
        rw [if_neg (beq_eq_false_iff_ne.1 q), if_neg (beq_eq_false_iff_ne.1 q2)] at hy
        rw [← hy]
        exact ⟨hle2, _, a', rfl, ux, zx, u2, ha1, ha2, hts⟩
end Go.Proofs.YtdpdaphholileaaGreatDoor

/-
  Contracts: the reference's reader: factor, call.
-/
namespace Go.Proofs.YtdpdaphholileaaGreatDoor
open Go Go.Vcg Go.RowKit Go.Sort
attribute [local irreducible] Br

/-- append of one tree's cells to the kids. -/
theorem KO.app {h0 h3 : Heap} {g : Nat} {A : Option Addr} {k c : Nat} {es : List Ex} (ko : KO h0 h3 g A k c es) {vs : List Value} (hvl : vs.length = 6) (hv1 : ∀ y ∈ vs, Go.Vcg.one y = true) {g6 : Nat} (hg6 : h3 g6 = none) (hg : h3 g ≠ none) (hle : Le (hole h0 g) (hole h3 g)) (hk : k ≤ 8) {K : Option Addr → Nat → Heap → Prop}
    (hK : ∀ A' c' h', A' ≠ none → Le (hole h0 g) (hole h' g) → h' g = h3 g → (∀ x, IsE (cutA (hole h3 g) A) x vs → Szs x → KO h0 h' g A' (k + 1) c' (es ++ [x])) → K A' c' h') :
    ∃ xs : List Value, RdS (h3.put g6 ⟨vs, 30, (0, 0)⟩) (some ⟨g6, 0, none⟩) (1 * 6) xs ∧ (∀ y ∈ xs, Go.Vcg.one y = true) ∧
      (k + 1 ≤ c → ∃ (ad : Addr) (b : Blk), A = some ad ∧ ad.spot = none ∧ (h3.put g6 ⟨vs, 30, (0, 0)⟩) ad.block = some b ∧ b.fz = (0, 0) ∧ ad.off + k * 6 + 1 * 6 ≤ b.cells.length ∧
        ∀ h' : Heap, h' = Heap.put (h3.put g6 ⟨vs, 30, (0, 0)⟩) ad.block { b with cells := setSeg b.cells (ad.off + k * 6) xs } → K A c h') ∧
      (c < k + 1 → ∃ olds : List Value, RdS (h3.put g6 ⟨vs, 30, (0, 0)⟩) A (k * 6) olds ∧ (k + 1) * 104 ≤ 140737488355328 ∧
        ∀ (g1 cap : Nat) (h' : Heap), (h3.put g6 ⟨vs, 30, (0, 0)⟩) g1 = none → k + 1 ≤ cap → h' = Heap.put (h3.put g6 ⟨vs, 30, (0, 0)⟩) g1 ⟨olds ++ xs ++ repV zE (cap - (k + 1)), 30, (0, 0)⟩ → K (some ⟨g1, 0, none⟩) cap h') := by
  obtain ⟨a1, a2, a3⟩ := ko
  have hgg : g6 ≠ g := fun e => by rw [e] at hg6; exact hg hg6
  have hn6 : hole h3 g g6 = none := by rw [hole_ne _ hgg]; exact hg6
  refine ⟨vs, ⟨by rw [hvl], fun _ => ⟨_, rfl, rfl, _, Heap.put_same _ _ _, by simp [List.take_of_length_le]⟩⟩, hv1, ?_, ?_⟩
  · intro hcap
    rcases a3 with ⟨_, _, rfl⟩ | ⟨gk, cs, b0', b1, rfl, b3, b4, b5, b6⟩
    · omega
    · have hg6k : g6 ≠ gk := fun e => by rw [e, b3] at hg6; cases hg6
      refine ⟨_, _, rfl, rfl, by rw [Heap.put_ne _ _ (fun e => hg6k e.symm)]; exact b3, rfl, by simp only; omega, ?_⟩
      rintro _ rfl
      have hx1 : ∀ B6 B7 : Blk, hole ((h3.put g6 B6).put gk B7) g = ((hole h3 g).put g6 B6).put gk B7 := fun B6 B7 => by
        rw [hole_put_ne _ _ b1, hole_put_ne _ _ hgg]
      refine hK _ _ _ (by simp) ?_ ?_ (fun x ux zx => ⟨by rw [List.length_append]; simp; omega, SzsL.snoc a2 zx, Or.inr ⟨gk, setSeg cs (0 + k * 6) vs, b0', b1, rfl, Heap.put_same _ _ _, ?_, hcap, ?_⟩⟩)
      · rw [hx1]
        refine Le.put ?_ (by rw [hole_ne _ b1]; exact b0') _
        exact hle.trans (Le.new hn6 _)
      · rw [Heap.put_ne _ _ (fun e => b1 e.symm), Heap.put_ne _ _ (fun e => hgg e.symm)]
      · unfold setSeg
        rw [List.length_append, List.length_append, List.length_take, List.length_drop, hvl]
        omega
      · refine IsEs.mono (h := (hole (hole h3 g) gk).put g6 ⟨vs, 30, (0, 0)⟩) ?_ _ _ ?_
        · rw [hx1, hole_put, hole_put_ne _ _ hg6k]
          exact Le.refl _
        · have hn7 : hole (hole h3 g) gk g6 = none := by rw [hole_ne _ hg6k]; exact hn6
          have l7 := Le.new hn7 ⟨vs, 30, (0, 0)⟩
          have := IsEs.snoc (rest := cs.drop (0 + k * 6 + vs.length)) (IsEs.mono l7 _ _ b6) (by omega) (IsE.mono l7 _ _ ux)
          unfold setSeg
          rw [show 0 + k * 6 = 6 * es.length by omega] at this ⊢
          exact this
  · intro hcap
    have hk6 : k * 6 = 6 * es.length := by omega
    have holds : ∃ olds : List Value, RdS (h3.put g6 ⟨vs, 30, (0, 0)⟩) A (k * 6) olds ∧ IsEs (hole h3 g) es olds ∧ olds.length = 6 * es.length := by
      rcases a3 with ⟨rfl, rfl, rfl⟩ | ⟨gk, cs, b0', b1, rfl, b3, b4, b5, b6⟩
      · have : es = [] := List.length_eq_zero_iff.1 a1
        subst this
        exact ⟨[], ⟨rfl, fun q => absurd q (by decide)⟩, by unfold IsEs; trivial, rfl⟩
      · have hg6k : g6 ≠ gk := fun e => by rw [e, b3] at hg6; cases hg6
        refine ⟨cs.take (6 * es.length), ⟨by rw [List.length_take]; omega, fun _ => ⟨_, rfl, rfl, _, by rw [Heap.put_ne _ _ (fun e => hg6k e.symm)]; exact b3, ?_⟩⟩, ?_, by rw [List.length_take]; omega⟩
        · simp only [List.drop_zero, List.length_take]
          congr 1
          omega
        · exact IsEs.take (IsEs.mono (hole_le _ _) _ _ b6)
    obtain ⟨olds, hrd, hes, hol⟩ := holds
    refine ⟨olds, hrd, by omega, ?_⟩
    rintro g7 cap _ hg7 hcap7 rfl
    have hg76 : g7 ≠ g6 := fun e => by rw [e, Heap.put_same] at hg7; cases hg7
    rw [Heap.put_ne _ _ hg76] at hg7
    have hgg7 : g7 ≠ g := fun e => by rw [e] at hg7; exact hg hg7
    have h07 : h0 g7 = none := by
      cases hh : h0 g7 with
      | none => rfl
      | some bb =>
        have := hle g7 bb (by rw [hole_ne _ hgg7]; exact hh)
        rw [hole_ne _ hgg7, hg7] at this
        cases this
    have hx1 : ∀ B6 B7 : Blk, hole ((h3.put g6 B6).put g7 B7) g = ((hole h3 g).put g6 B6).put g7 B7 := fun B6 B7 => by
      rw [hole_put_ne _ _ hgg7, hole_put_ne _ _ hgg]
    refine hK _ _ _ (by simp) ?_ ?_ (fun x ux zx => ⟨by rw [List.length_append]; simp; omega, SzsL.snoc a2 zx, Or.inr ⟨g7, _, h07, hgg7, rfl, Heap.put_same _ _ _, ?_, hcap7, ?_⟩⟩)
    · rw [hx1]
      refine Le.put ?_ (by rw [hole_ne _ hgg7]; exact h07) _
      exact hle.trans (Le.new hn6 _)
    · rw [Heap.put_ne _ _ (fun e => hgg7 e.symm), Heap.put_ne _ _ (fun e => hgg e.symm)]
    · rw [List.length_append, List.length_append, hol, hvl, repV_six]
      omega
    · rw [hx1, hole_put, hole_none (by rw [Heap.put_ne _ _ hg76, hole_ne _ hgg7]; exact hg7)]
      have l7 := Le.new hn6 ⟨vs, 30, (0, 0)⟩
      have := IsEs.snoc (rest := repV zE (cap - (k + 1))) (IsEs.mono l7 _ _ hes) (by omega) (IsE.mono (cutA_le _ _) _ _ ux |> IsE.mono l7 _ _)
      rw [List.take_of_length_le (by omega)] at this
      exact this

theorem Rdr.ne {S : Option Addr × Nat} {h : Heap} {g : Nat} {T : List (List UInt8)} {a : Nat} {e : Int} (u : Rdr S h g T a e) : h g ≠ none := by
  obtain ⟨ty, _, hb⟩ := u
  rw [hb]; simp
/-- The reader stays where its block stays and the tokens do. -/
theorem Rdr.keep {S : Option Addr × Nat} {h0 h h' : Heap} {g : Nat} {T : List (List UInt8)} {a a0 : Nat} {e e0 : Int} (u : Rdr S h g T a e) (u0 : Rdr S h0 g T a0 e0) (hle : Le (hole h0 g) (hole h' g)) (hb : h' g = h g) : Rdr S h' g T a e := by
  obtain ⟨ty, _, hb1⟩ := u
  obtain ⟨_, hs0, _⟩ := u0
  exact ⟨ty, hs0.mono hle, by rw [hb]; exact hb1⟩

theorem Shp.ones {k : Int} {s : Bool} {A : Option Addr} {n c : Nat} {B : Option Addr} {m d : Nat} {nm : List UInt8} {K : Option Addr} {kn kc : Nat} : ∀ y ∈ cellsE k s A n c B m d nm K kn kc, Go.Vcg.one y = true := by
  intro y hy
  simp only [cellsE, List.mem_cons, List.not_mem_nil, or_false] at hy
  rcases hy with rfl | rfl | rfl | rfl | rfl | rfl <;> rfl

/-- The next kid, apart from those that are there. -/
theorem rKid_c {n : Nat} (ih : ROk 44 ptr (qSum n)) {S : Option Addr × Nat} {h0 h : Heap} {g : Nat} {T : List (List UInt8)} {a a0 : Nat} {e0 : Int} {A : Option Addr} {k c : Nat} {es : List Ex} (u : Rdr S h g T a 0) (u0 : Rdr S h0 g T a0 e0) (hle0 : Le (hole h0 g) (hole h g)) (ha : a ≤ T.length) (hT : T.length ≤ 400) (hTl : ∀ t ∈ T, t ≠ [] ∧ t.length ≤ 400) (hne : qSum n (T.drop a) ≠ .error 99) (ko : KO h0 h g A k c es) :
    CallsU Tryz.prog 44 (ptr g) h fun v h' => Le (hole h g) (hole h' g) ∧ KO h0 h' g A k c es ∧ match qSum n (T.drop a) with
      | .error er => er ≠ 0 ∧ Shp v ∧ ∃ a' : Nat, Rdr S h' g T a' er ∧ a' + 2 * a ≤ 3 * T.length + 2
      | .ok (x, ts) => ∃ (vs : List Value) (a' : Nat), v = .agg vs.toArray ∧ IsE (cutA (hole h' g) A) x vs ∧ Szs x ∧ Rdr S h' g T a' 0 ∧ a ≤ a' ∧ a' ≤ T.length ∧ T.drop a' = ts := by
  obtain ⟨k1, k2, k3⟩ := ko
  rcases k3 with ⟨rfl, rfl, rfl⟩ | ⟨gk, cs, hg0, hgk, rfl, hb, hcl, hkc, hes⟩
  · refine (ih u ha hT hTl hne).mono ?_
    rintro v h' ⟨hle, hm⟩
    refine ⟨hle, ⟨k1, k2, Or.inl ⟨rfl, rfl, rfl⟩⟩, ?_⟩
    cases ho : qSum n (T.drop a) with
    | error e => rw [ho] at hm; exact hm
    | ok p => rw [ho] at hm; exact hm
  · have hleK : Le (hole h0 g) (hole (hole h gk) g) := fun j b hj => by
      have hjk : j ≠ gk := fun e => by
        rw [e, hole_ne _ hgk, hg0] at hj; cases hj
      have := hle0 j b hj
      by_cases e2 : j = g
      · subst e2; rw [hole_at] at hj; cases hj
      · rw [hole_ne _ e2] at this ⊢
        rw [hole_ne _ hjk]; exact this
    have u1 : Rdr S (hole h gk) g T a 0 := by
      obtain ⟨ty, _, e2⟩ := u
      obtain ⟨_, hs0, _⟩ := u0
      exact ⟨ty, hs0.mono hleK, by rw [hole_ne _ (fun e => hgk e.symm)]; exact e2⟩
    have fr := (ih u1 ha hT hTl hne).frame (g := gk) (b := ⟨cs, 30, (0, 0)⟩) (hole_at h gk)
    rw [put_hole hb] at fr
    refine fr.mono ?_
    rintro v _ ⟨h1, ⟨hle, hm⟩, h1k, rfl⟩
    have hx : hole (h1.put gk ⟨cs, 30, (0, 0)⟩) g = (hole h1 g).put gk ⟨cs, 30, (0, 0)⟩ := hole_put_ne _ _ hgk
    have h1n : hole h1 g gk = none := by rw [hole_ne _ hgk]; exact h1k
    have hcut : hole ((hole h1 g).put gk ⟨cs, 30, (0, 0)⟩) gk = hole h1 g := by rw [hole_put, hole_none h1n]
    have hleR : Le (hole h g) (hole (h1.put gk ⟨cs, 30, (0, 0)⟩) g) := by
      rw [hx]
      intro j b hj
      by_cases e : j = gk
      · subst e
        rw [hole_ne _ hgk, hb] at hj
        cases hj
        rw [Heap.put_same]
      · rw [Heap.put_ne _ _ e]
        apply hle
        by_cases e2 : j = g
        · subst e2; rw [hole_at] at hj; cases hj
        · rw [hole_ne _ e2] at hj ⊢
          rw [hole_ne _ e]; exact hj
    have keep : ∀ {a' : Nat} {e' : Int}, Rdr S h1 g T a' e' → Rdr S (h1.put gk ⟨cs, 30, (0, 0)⟩) g T a' e' := fun u => by
      obtain ⟨ty, hs, hb'⟩ := u
      exact ⟨ty, by rw [hx]; exact hs.mono (Le.new h1n _), by rw [Heap.put_ne _ _ (fun e => hgk e.symm)]; exact hb'⟩
    refine ⟨hleR, ⟨k1, k2, Or.inr ⟨gk, cs, hg0, hgk, rfl, Heap.put_same _ _ _, hcl, hkc, ?_⟩⟩, ?_⟩
    · rw [hx, hcut]
      refine IsEs.mono ?_ _ _ hes
      rw [hole_comm]; exact hle
    · cases ho : qSum n (T.drop a) with
      | error e =>
        rw [ho] at hm
        obtain ⟨h1', h2', a', u', hb'⟩ := hm
        exact ⟨h1', h2', a', keep u', hb'⟩
      | ok p =>
        obtain ⟨x, r'⟩ := p
        rw [ho] at hm
        obtain ⟨vs, a', hv, ux, zx, u', q1, q2, q3⟩ := hm
        refine ⟨vs, a', hv, ?_, zx, keep u', q1, q2, q3⟩
        show IsE (hole (hole (h1.put gk _) g) gk) x vs
        rw [hx, hcut]; exact ux

/-- What follows a kid of a call. -/
def qAft (m : Nat) (k : Int) (es : List Ex) (ts : List (List UInt8)) : RT :=
  if hdT ts = [41] then .ok (.mk k 0 0 0 [] es, ts.tail) else if hdT ts = [] then .error 4 else if hdT ts ≠ [44] then .error 2 else if es.length = 8 then .error 2 else qCallL m k es ts.tail

theorem qCallL_aft (n : Nat) (k : Int) (es : List Ex) (ts : List (List UInt8)) : qCallL (n + 1) k es ts = match qSum n ts with | .error e => .error e | .ok (x, ts') => qAft n k (es ++ [x]) ts' := by
  rw [qCallL]
  cases qSum n ts with
  | error e => rfl
  | ok p =>
    obtain ⟨x, ts'⟩ := p
    simp only [qAft, List.length_append, List.length_singleton]

theorem wrg_exp {T : List (List UInt8)} (hTl : ∀ t ∈ T, t ≠ [] ∧ t.length ≤ 400) {a : Nat} : wrgV T a 0 = if hdT (T.drop a) = [] then 4 else 2 := by
  unfold wrgV
  rw [if_pos rfl]
  by_cases h : T.length ≤ a
  · rw [if_pos h, List.drop_eq_nil_of_le h]; rfl
  · rw [if_neg h, if_neg]
    have hlt : a < T.length := by omega
    rw [List.drop_eq_getElem_cons hlt]
    exact (hTl _ (List.getElem_mem hlt)).1

/-- take, by what stands there. -/
theorem rTakeE_c {S : Option Addr × Nat} {h : Heap} {g : Nat} {T : List (List UInt8)} {a : Nat} (u : Rdr S h g T a 0) (ha : a ≤ 1000000) (hTl : ∀ t ∈ T, t ≠ [] ∧ t.length ≤ 400) (s : List UInt8) :
    CallsU Tryz.prog 167 [.pointer (some ⟨g, 0, none⟩), sv s] h fun v h' => v = .tuple #[] ∧ Rdr S h' g T (a + 1) (expT s (T.drop a)) ∧ hole h' g = hole h g := by
  refine (rTake_c u ha s).mono ?_
  rintro _ h1 ⟨rfl, u1, ho⟩
  refine ⟨rfl, ?_, ho⟩
  rw [nxt_ok, wrg_exp hTl] at u1
  exact u1

theorem rCall_step {n : Nat} {kd : Int} {nm : List UInt8} (hnm : (kd = 8 ∧ nm = [109, 105, 110]) ∨ (kd = 9 ∧ nm = [109, 97, 120])) (ihE : RErr 44 ptr) (ih : ∀ k, k ≤ n → ROk 44 ptr (qSum k)) : ROk 168 (fun g => [.pointer (some ⟨g, 0, none⟩), sv nm]) (qCall (n + 1) kd) := by
  intro S h g T a u ha hT hTl hne
  rw [qCall] at hne ⊢
  apply garment_ref17_reader_call_ok
  unfold garment_ref17_reader_call_vc
  simp only [and_true, and_self]
  have bx : (⟨#[109, 97, 120]⟩ : ByteArray).toList = [109, 97, 120] := bytes_toList _
  have b44 : (⟨#[44]⟩ : ByteArray).toList = [44] := bytes_toList _
  have c40 : (⟨#[40]⟩ : ByteArray) = ⟨([40] : List UInt8).toArray⟩ := rfl
  have c41 : (⟨#[41]⟩ : ByteArray) = ⟨([41] : List UInt8).toArray⟩ := rfl
  have hbn : (⟨nm.toArray⟩ : ByteArray).toList = nm := bytes_toList nm
  rw [hbn, bx]
  generalize hX : (if expT [40] (T.drop a) = 0 then qCallL n kd [] (T.drop a).tail else .error (expT [40] (T.drop a)) : RT) = X at hne ⊢
  refine ⟨fun e0 e1 e2A e2n e2c e3A e3n e3c e4 e5A e5n e5c h' => h = h' ∧ kd = e0 ∧ e1 = false ∧ e2A = none ∧ e2n = 0 ∧ e2c = 0 ∧ e3A = none ∧ e3n = 0 ∧ e3c = 0 ∧ e4 = ByteArray.empty ∧ e5A = none ∧ e5n = 0 ∧ e5c = 0, ?_, ?_⟩
  · rintro _ _ _ _ _ _ _ _ _ _ _ _ _ ⟨rfl, rfl, rfl, rfl, rfl, rfl, rfl, rfl, rfl, rfl, rfl, rfl, rfl⟩
    rw [c40]
    refine (rTakeE_c u (by omega) hTl [40]).mono ?_
    rintro _ h1 ⟨rfl, u1, ho1⟩
    have hle1 : Le (hole h g) (hole h1 g) := by rw [ho1]; exact Le.refl _
    refine ⟨rfl, ?_⟩
    -- the first kid
    have first : CallsU Tryz.prog 44 (ptr g) h1 fun v h3 => ∃ (k : Int) (s : Bool) (A : Option Addr) (nn c : Nat) (B : Option Addr) (mm d : Nat) (nm : List UInt8) (K : Option Addr) (kn kc : Nat), v = .agg (cellsE k s A nn c B mm d nm K kn kc).toArray ∧ Le (hole h g) (hole h3 g) ∧
        ((∃ er a', X = .error er ∧ er ≠ 0 ∧ Rdr S h3 g T a' er ∧ a' + 1 + 2 * a ≤ 3 * T.length + 2) ∨ ∃ x a' n', n' ≤ n ∧ IsE (hole h3 g) x (cellsE k s A nn c B mm d nm K kn kc) ∧ Szs x ∧ Rdr S h3 g T a' 0 ∧ a ≤ a' ∧ a' ≤ T.length ∧ qAft n' kd [x] (T.drop a') = X) := by
      by_cases h40 : expT [40] (T.drop a) = 0
      · rw [if_pos h40] at hX
        rw [h40] at u1
        have hhd : hdT (T.drop a) = [40] := by
          unfold expT at h40
          split at h40
          · assumption
          · split at h40 <;> cases h40
        have hlt : a < T.length := hd_lt (by rw [hhd]; simp)
        cases n with
        | zero => rw [qCallL] at hX; exact absurd hX.symm hne
        | succ n =>
          rw [qCallL_aft, ← drop_tail] at hX
          refine ((ih n (by omega)) u1 (by omega) hT hTl (fun q => by rw [q] at hX; exact hne hX.symm)).mono ?_
          rintro _ h3 ⟨hle3, hG3⟩
          have hle13 := hle1.trans hle3
          cases ho : qSum n (T.drop (a + 1)) with
          | error er =>
            rw [ho] at hG3 hX
            obtain ⟨he, ⟨k, s, A, nn, c, B, mm, d, nm', K, kn, kc, rfl⟩, a3, u3, hb3⟩ := hG3
            exact ⟨k, s, A, nn, c, B, mm, d, nm', K, kn, kc, rfl, hle13, Or.inl ⟨er, a3, hX.symm, he, u3, by omega⟩⟩
          | ok p =>
            obtain ⟨x, ts⟩ := p
            rw [ho] at hG3 hX
            obtain ⟨vs, a3, rfl, ux, zx, u3, q1, q2, q3⟩ := hG3
            have ux' := ux
            obtain ⟨s, A, c, B, d, K, kc, rfl, _⟩ := ux'.open
            exact ⟨_, _, _, _, _, _, _, _, _, _, _, _, rfl, hle13, Or.inr ⟨x, a3, n, by omega, ux, zx, u3, by omega, q2, by rw [q3]; exact hX⟩⟩
      · rw [if_neg h40] at hX
        refine (ihE u1 h40).mono ?_
        rintro _ h3 ⟨⟨k, s, A, nn, c, B, mm, d, nm', K, kn, kc, rfl⟩, u3, ho3⟩
        exact ⟨k, s, A, nn, c, B, mm, d, nm', K, kn, kc, rfl, by rw [ho3]; exact hle1, Or.inl ⟨_, a + 1, hX.symm, h40, u3, by omega⟩⟩
    -- the end
    have bad : ∀ {h5 : Heap} {A : Option Addr} {k c : Nat} {er : Int} {a' : Nat}, Le (hole h g) (hole h5 g) → X = .error er → er ≠ 0 → Rdr S h5 g T a' er → a' + 1 + 2 * a ≤ 3 * T.length + 2 → CallsU Tryz.prog 167 [.pointer (some ⟨g, 0, none⟩), sv [41]] h5 fun v h' => v = Value.tuple #[] ∧ GR S X T g a h (Value.agg #[Value.int .i64 kd, Value.bool false, Value.slice none 0 0, Value.slice none 0 0, Value.string ByteArray.empty, Value.slice A k c]) h' := fun {h5 A k c er a'} hle5 hXe he u5 hb => by
      refine (rTake_c u5 (by omega) [41]).mono ?_
      rintro _ h6 ⟨rfl, u6, ho6⟩
      rw [nxt_err _ _ he, wrg_err _ _ he, if_neg (by decide)] at u6
      rw [hXe]
      exact ⟨rfl, by rw [ho6]; exact hle5, he, ⟨kd, false, none, 0, 0, none, 0, 0, [], A, k, c, rfl⟩, a' + 1, u6, hb⟩
    have good : ∀ {h5 : Heap} {A : Option Addr} {k c m a' : Nat} {es : List Ex}, Le (hole h g) (hole h5 g) → KO h h5 g A k c es → 1 ≤ k → k ≤ 8 → A ≠ none → Rdr S h5 g T a' 0 → a ≤ a' → a' ≤ T.length → qAft m kd es (T.drop a') = X → ¬ (k < 8 ∧ hdT (T.drop a') = [44]) →
        CallsU Tryz.prog 167 [.pointer (some ⟨g, 0, none⟩), sv [41]] h5 fun v h' => v = Value.tuple #[] ∧ GR S X T g a h (Value.agg #[Value.int .i64 kd, Value.bool false, Value.slice none 0 0, Value.slice none 0 0, Value.string ByteArray.empty, Value.slice A k c]) h' := fun {h5 A k c m a' es} hle5 ko hk1 hk8 hA u5 ha1 ha2 hq hno' => by
      have hkl := ko.1
      refine (rTakeE_c u5 (by omega) hTl [41]).mono ?_
      rintro _ h6 ⟨rfl, u6, ho6⟩
      refine ⟨rfl, ?_⟩
      have hle6 : Le (hole h g) (hole h6 g) := by rw [ho6]; exact hle5
      have shp : Shp (Value.agg #[Value.int .i64 kd, Value.bool false, Value.slice none 0 0, Value.slice none 0 0, Value.string ByteArray.empty, Value.slice A k c]) := ⟨kd, false, none, 0, 0, none, 0, 0, [], A, k, c, rfl⟩
      unfold qAft at hq
      unfold expT at u6
      by_cases q1 : hdT (T.drop a') = [41]
      · rw [if_pos q1] at hq u6
        rw [← hq]
        obtain ⟨a1, a2, a3⟩ := ko
        rcases a3 with ⟨a3, _⟩ | ⟨gk, cs, b0', b1, b2, b3, b4, b5, b6⟩
        · exact absurd a3 hA
        · subst b2
          have hlt : a' < T.length := hd_lt (by rw [q1]; simp)
          refine ⟨hle6, _, a' + 1, rfl, ?_, ?_, u6, by omega, by omega, drop_tail⟩
          · have e1 := IsE_op (h := hole h5 g) (k := kd) (es := es) (gk := gk) (c := c) (ty := 30) (cs := cs) (by rw [hole_ne _ b1]; exact b3) (by omega) (by omega) (IsEs.mono (hole_le _ _) _ _ b6)
            rw [a1] at e1
            rw [ho6]
            exact e1
          · unfold Szs
            exact ⟨by omega, by omega, by simp, by omega, a2⟩
      · rw [if_neg q1] at hq u6
        by_cases q2 : hdT (T.drop a') = []
        · rw [if_pos q2] at hq u6
          rw [← hq]
          exact ⟨hle6, by decide, shp, a' + 1, u6, by omega⟩
        · rw [if_neg q2] at hq u6
          have hq2 : X = .error 2 := by
            by_cases q3 : hdT (T.drop a') = [44]
            · have hk : k = 8 := by
                by_cases q : k < 8
                · exact absurd ⟨q, q3⟩ hno'
                · omega
              rw [if_neg (fun q => q q3), if_pos (by omega)] at hq
              exact hq.symm
            · rw [if_pos q3] at hq
              exact hq.symm
          rw [hq2]
          exact ⟨hle6, by decide, shp, a' + 1, u6, by omega⟩
    refine first.mono ?_
    rintro _ h3 ⟨k0, s0, A0, n0, c0, B0, m0, d0, nm0, K0, kn0, kc0, rfl, hle3, hc3⟩
    refine ⟨_, _, _, _, _, _, _, _, _, _, _, _, rfl, ?_⟩
    rintro gk _ hgk rfl
    refine ⟨fun m e0 e1 e2A e2n e2c e3A e3n e3c e4 A k c h' => kd = e0 ∧ e1 = false ∧ e2A = none ∧ e2n = 0 ∧ e2c = 0 ∧ e3A = none ∧ e3n = 0 ∧ e3c = 0 ∧ e4 = ByteArray.empty ∧ Le (hole h g) (hole h' g) ∧
      ((∃ er a', X = .error er ∧ er ≠ 0 ∧ Rdr S h' g T a' er ∧ a' + 1 + 2 * a ≤ 3 * T.length + 2) ∨ (m ≤ n ∧ ∃ es a', KO h h' g A k c es ∧ 1 ≤ k ∧ k ≤ 8 ∧ A ≠ none ∧ Rdr S h' g T a' 0 ∧ a ≤ a' ∧ a' ≤ T.length ∧ qAft m kd es (T.drop a') = X)), ?_, ?_⟩
    · rcases hc3 with ⟨er, a', hXe, he, u3, hb⟩ | ⟨x, a', n', hn', ux, zx, u3, h31, h32, hq⟩
      · obtain ⟨u4, hgg, hn4, ho4⟩ := u3.put hgk ⟨[Value.int .i64 k0, Value.bool s0, Value.slice A0 n0 c0, Value.slice B0 m0 d0, sv nm0, Value.slice K0 kn0 kc0], 30, (0, 0)⟩
        exact ⟨0, rfl, rfl, rfl, rfl, rfl, rfl, rfl, rfl, rfl, by rw [ho4]; exact hle3.trans (Le.new hn4 _), Or.inl ⟨er, a', hXe, he, u4, hb⟩⟩
      · obtain ⟨u4, hgg, hn4, ho4⟩ := u3.put hgk ⟨[Value.int .i64 k0, Value.bool s0, Value.slice A0 n0 c0, Value.slice B0 m0 d0, sv nm0, Value.slice K0 kn0 kc0], 30, (0, 0)⟩
        refine ⟨n', rfl, rfl, rfl, rfl, rfl, rfl, rfl, rfl, rfl, by rw [ho4]; exact hle3.trans (Le.new hn4 _), Or.inr ⟨hn', [x], a', ⟨rfl, ?_, Or.inr ⟨gk, cellsE k0 s0 A0 n0 c0 B0 m0 d0 nm0 K0 kn0 kc0, ?_, hgg, rfl, Heap.put_same _ _ _, rfl, Nat.le_refl _, ?_⟩⟩, by omega, by omega, by simp, u4, h31, h32, hq⟩⟩
        · unfold SzsL
          exact ⟨zx, by unfold SzsL; trivial⟩
        · cases hh : h gk with
          | none => rfl
          | some bb =>
            have := hle3 gk bb (by rw [hole_ne _ hgg]; exact hh)
            rw [hn4] at this
            cases this
        · rw [ho4, hole_put, hole_none hn4]
          unfold IsEs
          exact ⟨ux, by unfold IsEs; trivial⟩
    · rintro m _ _ _ _ _ _ _ _ _ A k c h5 ⟨rfl, rfl, rfl, rfl, rfl, rfl, rfl, rfl, rfl, hle5, hj⟩
      rw [c41]
      rcases hj with ⟨er, a', hXe, he, u5, hb⟩ | ⟨hm, es, a', ko, hk1, hk8, hA, u5, ha1, ha2, hq⟩
      · refine ⟨fun t h' => t = false ∧ h5 = h', ?_, Br.mk (fun _ => (rNext_c u5).mono ?_) (fun _ => ⟨rfl, rfl⟩)⟩
        · rintro _ _ ⟨rfl, rfl⟩
          exact Br.mk (fun q => by cases q) (fun _ => bad hle5 hXe he u5 hb)
        · rintro _ _ ⟨rfl, rfl⟩
          refine ⟨_, rfl, ?_, rfl⟩
          rw [nxt_err _ _ he, bytes_toList, b44]
          decide
      · have hkl := ko.1
        refine ⟨fun t h' => h5 = h' ∧ t = decide (k < 8 ∧ hdT (T.drop a') = [44]), ?_, Br.mk (fun q => (rNext_c u5).mono ?_) (fun q => ⟨rfl, ?_⟩)⟩
        · rintro _ _ ⟨rfl, rfl⟩
          refine Br.mk (fun q => ?_) (fun q => good hle5 ko hk1 hk8 hA u5 ha1 ha2 hq (of_decide_eq_false q))
          obtain ⟨hk, hhd⟩ := of_decide_eq_true q
          have hlt : a' < T.length := hd_lt (by rw [hhd]; simp)
          have hq' : qCallL m kd es (T.drop (a' + 1)) = X := by
            unfold qAft at hq
            have d1 : ([44] : List UInt8) ≠ [41] := by decide
            have d2 : ([44] : List UInt8) ≠ [] := by decide
            rw [if_neg (by rw [hhd]; exact d1), if_neg (by rw [hhd]; exact d2), if_neg (fun q => q hhd), if_neg (by omega), ← drop_tail] at hq
            exact hq
          cases m with
          | zero => rw [qCallL] at hq'; exact absurd hq'.symm hne
          | succ m =>
            rw [qCallL_aft] at hq'
            refine u5.step (by omega) fun h6 u6 ho6 => ?_
            have hle6 : Le (hole h g) (hole h6 g) := by rw [ho6]; exact hle5
            have ko6 : KO h h6 g A k c es := by
              obtain ⟨a1, a2, a3⟩ := ko
              refine ⟨a1, a2, ?_⟩
              rcases a3 with a3 | ⟨gk, cs, b0', b1, b2, b3, b4, b5, b6⟩
              · exact Or.inl a3
              · refine Or.inr ⟨gk, cs, b0', b1, b2, ?_, b4, b5, by rw [ho6]; exact b6⟩
                have := congrFun ho6 gk
                rw [hole_ne _ b1, hole_ne _ b1] at this
                rw [this]; exact b3
            refine (rKid_c (ih m (by omega)) u6 u hle6 (by omega) hT hTl (fun q => by rw [q] at hq'; exact hne hq'.symm) ko6).mono ?_
            rintro _ h7 ⟨hle7, ko7, hG7⟩
            have hle67 := hle6.trans hle7
            cases ho : qSum m (T.drop (a' + 1)) with
            | error er =>
              rw [ho] at hG7 hq'
              obtain ⟨he, ⟨k7, s7, A7, n7, c7, B7, m7, d7, nm7, K7, kn7, kc7, rfl⟩, a7, u7, hb7⟩ := hG7
              refine ⟨_, _, _, _, _, _, _, _, _, _, _, _, rfl, ?_⟩
              rintro g8 _ hg8 rfl
              refine ko7.app (K := fun A' c' h' => ∃ m_1, m_1 < m + 1 ∧ (kd = kd ∧ false = false ∧ (none : Option Addr) = none ∧ 0 = 0 ∧ 0 = 0 ∧ (none : Option Addr) = none ∧ 0 = 0 ∧ 0 = 0 ∧ ByteArray.empty = ByteArray.empty ∧ Le (hole h g) (hole h' g) ∧ ((∃ er a', X = .error er ∧ er ≠ 0 ∧ Rdr S h' g T a' er ∧ a' + 1 + 2 * a ≤ 3 * T.length + 2) ∨ (m_1 ≤ n ∧ ∃ es a', KO h h' g A' (k + 1) c' es ∧ 1 ≤ k + 1 ∧ k + 1 ≤ 8 ∧ A' ≠ none ∧ Rdr S h' g T a' 0 ∧ a ≤ a' ∧ a' ≤ T.length ∧ qAft m_1 kd es (T.drop a') = X)))) rfl Shp.ones hg8 u7.ne hle67 (by omega) (fun A' c' h9 hA' hle9 hb9 _ => ?_)
              exact ⟨m, by omega, rfl, rfl, rfl, rfl, rfl, rfl, rfl, rfl, rfl, hle9, Or.inl ⟨er, a7, hq'.symm, he, u7.keep u hle9 hb9, by omega⟩⟩
            | ok p =>
              obtain ⟨x, ts⟩ := p
              rw [ho] at hG7 hq'
              obtain ⟨vs, a7, rfl, ux, zx, u7, q1, q2, q3⟩ := hG7
              have ux' := ux
              obtain ⟨s7, A7, c7, B7, d7, K7, kc7, rfl, _⟩ := ux'.open
              refine ⟨_, _, _, _, _, _, _, _, _, _, _, _, rfl, ?_⟩
              rintro g8 _ hg8 rfl
              refine ko7.app (K := fun A' c' h' => ∃ m_1, m_1 < m + 1 ∧ (kd = kd ∧ false = false ∧ (none : Option Addr) = none ∧ 0 = 0 ∧ 0 = 0 ∧ (none : Option Addr) = none ∧ 0 = 0 ∧ 0 = 0 ∧ ByteArray.empty = ByteArray.empty ∧ Le (hole h g) (hole h' g) ∧ ((∃ er a', X = .error er ∧ er ≠ 0 ∧ Rdr S h' g T a' er ∧ a' + 1 + 2 * a ≤ 3 * T.length + 2) ∨ (m_1 ≤ n ∧ ∃ es a', KO h h' g A' (k + 1) c' es ∧ 1 ≤ k + 1 ∧ k + 1 ≤ 8 ∧ A' ≠ none ∧ Rdr S h' g T a' 0 ∧ a ≤ a' ∧ a' ≤ T.length ∧ qAft m_1 kd es (T.drop a') = X)))) rfl Shp.ones hg8 u7.ne hle67 (by omega) (fun A' c' h9 hA' hle9 hb9 hko9 => ?_)
              exact ⟨m, by omega, rfl, rfl, rfl, rfl, rfl, rfl, rfl, rfl, rfl, hle9, Or.inr ⟨by omega, es ++ [x], a7, hko9 x ux zx, by omega, by omega, hA', u7.keep u hle9 hb9, by omega, q2, by rw [q3]; exact hq'⟩⟩
        · rintro _ _ ⟨rfl, rfl⟩
          refine ⟨_, rfl, rfl, ?_⟩
          rw [nxt_ok, bytes_toList, b44, Bool.eq_iff_iff, beq_iff_eq, decide_eq_true_eq]
          have hk : k < 8 := by have := of_decide_eq_true q; omega
          exact ⟨fun h => ⟨hk, h⟩, fun h => h.2⟩
        · have hk : ¬ k < 8 := by have := of_decide_eq_false q; omega
          rw [decide_eq_false (fun h => hk h.1)]
  · rcases hnm with ⟨rfl, rfl⟩ | ⟨rfl, rfl⟩
    · exact Br.mk (fun q => by exact absurd q (by decide)) (fun _ => ⟨rfl, rfl, rfl, rfl, rfl, rfl, rfl, rfl, rfl, rfl, rfl, rfl, rfl⟩)
    · exact Br.mk (fun _ => ⟨rfl, rfl, rfl, rfl, rfl, rfl, rfl, rfl, rfl, rfl, rfl, rfl, rfl⟩) (fun q => by exact absurd q (by decide))

theorem refNum_le {w : List UInt8} {v : Nat} (h : refNum w = some v) : v ≤ 9999999999999 := by
  unfold refNum at h
  simp only at h
  have halldg : (w.takeWhile isDg).all isDg = true := List.all_takeWhile
  have fin : ∀ l : List UInt8, l.all isDg = true → l.length ≤ 13 → dgV l ≤ 9999999999999 := fun l h1 h2 => by
    have := dgV_bound h1 h2
    omega
  split at h
  · rename_i hc
    split at h
    · split at h
      · rename_i hr
        cases h
        refine fin _ ?_ ?_
        · rw [take4 hr.2.2.1, List.all_append, List.all_append, halldg, hr.2.2.2]
          simp [List.all_replicate, isDg]
        · rw [take4 hr.2.2.1, List.length_append, List.length_append, List.length_replicate]
          have := hr.2.2.1
          omega
      · cases h
    · cases h
      refine fin _ ?_ ?_
      · rw [List.all_append, halldg]; decide
      · rw [List.length_append]; simp; omega
  · cases h

theorem rFactor_err : RErr 122 ptr := by
  intro S h g T a e u he
  apply garment_ref17_reader_factor_ok
  refine (rNext_c u).mono ?_
  rintro _ _ ⟨rfl, rfl⟩
  have b1 : (⟨#[45]⟩ : ByteArray).toList = [45] := bytes_toList _
  have b2 : (⟨#[40]⟩ : ByteArray).toList = [40] := bytes_toList _
  have b3 : (⟨#[109, 105, 110]⟩ : ByteArray).toList = [109, 105, 110] := bytes_toList _
  have b4 : (⟨#[109, 97, 120]⟩ : ByteArray).toList = [109, 97, 120] := bytes_toList _
  refine ⟨_, rfl, ?_⟩
  rw [nxt_err _ _ he, bytes_toList, b1, b2, b3, b4]
  refine Br.mk (fun q => by exact absurd q (by decide)) (fun _ => Br.mk (fun q => by exact absurd q (by decide)) (fun _ => ?_))
  refine ⟨fun t h' => t = false ∧ h = h', ?_, Br.mk (fun q => by exact absurd q (by decide)) (fun _ => ⟨by decide, rfl⟩)⟩
  rintro _ _ ⟨rfl, rfl⟩
  refine Br.mk (fun q => by cases q) (fun _ => (rNumber17_c [] (by simp) h).mono ?_)
  rintro _ _ ⟨rfl, rfl⟩
  refine ⟨_, _, rfl, Br.mk (fun q => by exact absurd q (by decide)) (fun _ => (rName_c [] h).mono ?_)⟩
  rintro _ _ ⟨rfl, rfl⟩
  refine ⟨_, rfl, Br.mk (fun _ => (rWrong_c u).mono ?_) (fun q => by exact absurd q (by decide))⟩
  rintro _ h1 ⟨rfl, u1, ho1⟩
  rw [wrg_err _ _ he] at u1
  exact ⟨rfl, ⟨0, false, none, 0, 0, none, 0, 0, [], none, 0, 0, rfl⟩, u1, ho1⟩

theorem rFactor_step {n : Nat} (ihF : ROk 122 ptr (qFac n)) (ihS : ROk 44 ptr (qSum n)) (ihC : ∀ (kd : Int) (nm : List UInt8), ((kd = 8 ∧ nm = [109, 105, 110]) ∨ (kd = 9 ∧ nm = [109, 97, 120])) → ROk 168 (fun g => [.pointer (some ⟨g, 0, none⟩), sv nm]) (qCall n kd)) : ROk 122 ptr (qFac (n + 1)) := by
  intro S h g T a u ha hT hTl hne
  rw [qFac] at hne ⊢
  apply garment_ref17_reader_factor_ok
  refine (rNext_c u).mono ?_
  rintro _ _ ⟨rfl, rfl⟩
  have b1 : (⟨#[45]⟩ : ByteArray).toList = [45] := bytes_toList _
  have b2 : (⟨#[40]⟩ : ByteArray).toList = [40] := bytes_toList _
  have b3 : (⟨#[109, 105, 110]⟩ : ByteArray).toList = [109, 105, 110] := bytes_toList _
  have b4 : (⟨#[109, 97, 120]⟩ : ByteArray).toList = [109, 97, 120] := bytes_toList _
  refine ⟨_, rfl, ?_⟩
  rw [nxt_ok, bytes_toList, b1, b2, b3, b4]
  have hwr := wrg_exp hTl (a := a)
  have htl : T.drop (a + 1) = (T.drop a).tail := drop_tail
  have hmem : hdT (T.drop a) ≠ [] → hdT (T.drop a) ∈ T ∧ a < T.length := fun hh => by
    have hlt := hd_lt hh
    refine ⟨?_, hlt⟩
    rw [List.drop_eq_getElem_cons hlt]
    exact List.getElem_mem hlt
  generalize hts : T.drop a = ts at *
  have shZ : Shp (Value.agg #[Value.int .i64 0, Value.bool false, Value.slice none 0 0, Value.slice none 0 0, Value.string ByteArray.empty, Value.slice none 0 0]) := ⟨0, false, none, 0, 0, none, 0, 0, [], none, 0, 0, rfl⟩
  refine Br.mk (fun q1 => ?_) (fun q1 => ?_)
  · -- a minus sign
    have e1 := beq_iff_eq.1 q1
    have d0 : ([45] : List UInt8) ≠ [] := by decide
    obtain ⟨_, hlt⟩ := hmem (by rw [e1]; exact d0)
    rw [e1, if_neg d0, if_pos rfl] at hne ⊢
    refine u.step (by omega) fun h1 u1 ho1 => ?_
    have hs := ihF u1 (by omega) hT hTl (fun q => by rw [htl] at q; rw [q] at hne; exact hne rfl)
    rw [htl] at hs
    refine hs.mono ?_
    rintro _ h2 ⟨hle2, hG⟩
    rw [ho1] at hle2
    cases ho : qFac n ts.tail with
    | error er =>
      rw [ho] at hG
      obtain ⟨he, ⟨k, s, A, nn, c, B, mm, d, nm', K, kn, kc, rfl⟩, a2, u2, hb2⟩ := hG
      refine ⟨_, _, _, _, _, _, _, _, _, _, _, _, rfl, ?_⟩
      rintro gk _ hgk rfl
      obtain ⟨u3, hgg, hn3, ho3⟩ := u2.put hgk ⟨[Value.int .i64 k, Value.bool s, Value.slice A nn c, Value.slice B mm d, sv nm', Value.slice K kn kc], 30, (0, 0)⟩
      exact ⟨by rw [ho3]; exact hle2.trans (Le.new hn3 _), he, ⟨7, false, none, 0, 0, none, 0, 0, [], some ⟨gk, 0, none⟩, 1, 1, rfl⟩, a2, u3, by omega⟩
    | ok p =>
      obtain ⟨x, r'⟩ := p
      rw [ho] at hG
      obtain ⟨vs, a2, rfl, ux, zx, u2, q3, q4, q5⟩ := hG
      have ux' := ux
      obtain ⟨s, A, c, B, d, K, kc, rfl, _⟩ := ux'.open
      refine ⟨_, _, _, _, _, _, _, _, _, _, _, _, rfl, ?_⟩
      rintro gk _ hgk rfl
      obtain ⟨u3, hgg, hn3, ho3⟩ := u2.put hgk ⟨[Value.int .i64 x.kind, Value.bool s, Value.slice A x.ln c, Value.slice B x.lm d, sv x.name, Value.slice K x.kids.length kc], 30, (0, 0)⟩
      refine ⟨by rw [ho3]; exact hle2.trans (Le.new hn3 _), _, a2, rfl, ?_, ?_, u3, by omega, q4, q5⟩
      · rw [ho3]
        refine IsE_op (k := 7) (es := [x]) (gk := gk) (c := 1) (ty := 30) (Heap.put_same _ _ _) (by simp) (by simp) ?_
        unfold IsEs
        exact ⟨IsE.mono (Le.new hn3 _) _ _ ux, by unfold IsEs; trivial⟩
      · unfold Szs
        exact ⟨by omega, by omega, by simp, by simp, by unfold SzsL; exact ⟨zx, by unfold SzsL; trivial⟩⟩
  have n1 := beq_eq_false_iff_ne.1 q1
  refine Br.mk (fun q2 => ?_) (fun q2 => ?_)
  · -- in parentheses
    have e1 := beq_iff_eq.1 q2
    have d0 : ([40] : List UInt8) ≠ [] := by decide
    have d1 : ([40] : List UInt8) ≠ [45] := by decide
    obtain ⟨_, hlt⟩ := hmem (by rw [e1]; exact d0)
    rw [e1, if_neg d0, if_neg d1, if_pos rfl] at hne ⊢
    refine u.step (by omega) fun h1 u1 ho1 => ?_
    have hs := ihS u1 (by omega) hT hTl (fun q => by rw [htl] at q; rw [q] at hne; exact hne rfl)
    rw [htl] at hs
    refine hs.mono ?_
    rintro _ h2 ⟨hle2, hG⟩
    rw [ho1] at hle2
    have c41 : (⟨#[41]⟩ : ByteArray) = ⟨([41] : List UInt8).toArray⟩ := rfl
    rw [c41]
    cases ho : qSum n ts.tail with
    | error er =>
      rw [ho] at hG
      obtain ⟨he, ⟨k, s, A, nn, c, B, mm, d, nm', K, kn, kc, rfl⟩, a2, u2, hb2⟩ := hG
      refine ⟨_, _, _, _, _, _, _, _, _, _, _, _, rfl, (rTake_c u2 (by omega) [41]).mono ?_⟩
      rintro _ h3 ⟨rfl, u3, ho3⟩
      rw [nxt_err _ _ he, wrg_err _ _ he, if_neg (by decide)] at u3
      exact ⟨rfl, by rw [ho3]; exact hle2, he, ⟨k, s, A, nn, c, B, mm, d, nm', K, kn, kc, rfl⟩, a2 + 1, u3, by omega⟩
    | ok p =>
      obtain ⟨x, r'⟩ := p
      rw [ho] at hG
      obtain ⟨vs, a2, rfl, ux, zx, u2, q3, q4, q5⟩ := hG
      have ux' := ux
      obtain ⟨s, A, c, B, d, K, kc, rfl, _⟩ := ux'.open
      refine ⟨_, _, _, _, _, _, _, _, _, _, _, _, rfl, (rTakeE_c u2 (by omega) hTl [41]).mono ?_⟩
      rintro _ h3 ⟨rfl, u3, ho3⟩
      rw [q5] at u3
      dsimp only
      by_cases hx : expT [41] r' = 0
      · rw [if_pos hx]
        rw [hx] at u3
        have hlt2 : a2 < T.length := hd_lt (by
          rw [q5]
          unfold expT at hx
          split at hx
          · rename_i e; rw [e]; simp
          · split at hx <;> cases hx)
        exact ⟨rfl, by rw [ho3]; exact hle2, _, a2 + 1, rfl, by rw [ho3]; exact ux, zx, u3, by omega, by omega, by rw [drop_tail, q5]⟩
      · rw [if_neg hx]
        exact ⟨rfl, by rw [ho3]; exact hle2, hx, Shp.of ux, a2 + 1, u3, by omega⟩
  have n2 := beq_eq_false_iff_ne.1 q2
  -- min and max
  have call : ∀ (kd : Int) (nm : List UInt8), ((kd = 8 ∧ nm = [109, 105, 110]) ∨ (kd = 9 ∧ nm = [109, 97, 120])) → hdT ts = nm → qCall n kd ts.tail ≠ .error 99 → ∃ t45 : Int, LdN h (Addr.add ⟨g, 0, none⟩ 1) [Value.int .i64 t45] ∧ ∀ t46 : Int, t46 = IntKind.i64.wrap (t45 + 1) →
      ∃ b_2 : Blk, h (Addr.block (Addr.add ⟨g, 0, none⟩ 1)) = some b_2 ∧ b_2.fz = (0, 0) ∧ Addr.spot (Addr.add ⟨g, 0, none⟩ 1) = none ∧ Addr.off (Addr.add ⟨g, 0, none⟩ 1) + 1 ≤ b_2.cells.length ∧
      ∀ h_9 : Heap, h_9 = Heap.put h (Addr.block (Addr.add ⟨g, 0, none⟩ 1)) { b_2 with cells := setSeg b_2.cells (Addr.off (Addr.add ⟨g, 0, none⟩ 1)) [Value.int .i64 t46] } →
      CallsU Tryz.prog 168 [Value.pointer (some ⟨g, 0, none⟩), sv nm] h_9 fun v_4 h_10 =>
      ∃ t51_0 : Int, ∃ t51_1 : Bool, ∃ t51_2A : Option Addr, ∃ t51_2n t51_2c : Nat, ∃ t51_3A : Option Addr, ∃ t51_3n t51_3c : Nat, ∃ t51_4 : ByteArray, ∃ t51_5A : Option Addr, ∃ t51_5n t51_5c : Nat, v_4 = Value.agg #[Value.int .i64 t51_0, Value.bool t51_1, Value.slice t51_2A t51_2n t51_2c, Value.slice t51_3A t51_3n t51_3c, Value.string t51_4, Value.slice t51_5A t51_5n t51_5c] ∧
      GR S (qCall n kd ts.tail) T g a h (Value.agg #[Value.int .i64 t51_0, Value.bool t51_1, Value.slice t51_2A t51_2n t51_2c, Value.slice t51_3A t51_3n t51_3c, Value.string t51_4, Value.slice t51_5A t51_5n t51_5c]) h_10 := fun kd nm hor hnm hq => by
    obtain ⟨_, hlt⟩ := hmem (by rw [hnm]; rcases hor with ⟨_, rfl⟩ | ⟨_, rfl⟩ <;> simp)
    refine u.step (by omega) fun h1 u1 ho1 => ?_
    have hs := ihC kd nm hor u1 (by omega) hT hTl (by rw [htl]; exact hq)
    rw [htl] at hs
    refine hs.mono ?_
    rintro _ h2 ⟨hle2, hG⟩
    rw [ho1] at hle2
    cases ho : qCall n kd ts.tail with
    | error er =>
      rw [ho] at hG
      obtain ⟨he, ⟨k, s, A, nn, c, B, mm, d, nm', K, kn, kc, rfl⟩, a2, u2, hb2⟩ := hG
      exact ⟨_, _, _, _, _, _, _, _, _, _, _, _, rfl, hle2, he, ⟨k, s, A, nn, c, B, mm, d, nm', K, kn, kc, rfl⟩, a2, u2, by omega⟩
    | ok p =>
      obtain ⟨x, r'⟩ := p
      rw [ho] at hG
      obtain ⟨vs, a2, rfl, ux, zx, u2, q3, q4, q5⟩ := hG
      have ux' := ux
      obtain ⟨s, A, c, B, d, K, kc, rfl, _⟩ := ux'.open
      exact ⟨_, _, _, _, _, _, _, _, _, _, _, _, rfl, hle2, _, a2, rfl, ux, zx, u2, by omega, q4, q5⟩
  refine ⟨fun t h' => h = h' ∧ t = decide (hdT ts = [109, 105, 110] ∨ hdT ts = [109, 97, 120]), ?_, Br.mk (fun q => ⟨rfl, ?_⟩) (fun q => ⟨rfl, ?_⟩)⟩
  · rintro _ _ ⟨rfl, rfl⟩
    refine Br.mk (fun q => ?_) (fun q => ?_)
    · have hor := of_decide_eq_true q
      rcases hor with e | e
      · have d0 : ([109, 105, 110] : List UInt8) ≠ [] := by decide
        have d1 : ([109, 105, 110] : List UInt8) ≠ [45] := by decide
        have d2 : ([109, 105, 110] : List UInt8) ≠ [40] := by decide
        rw [e, if_neg d0, if_neg d1, if_neg d2, if_pos rfl] at hne ⊢
        exact call 8 [109, 105, 110] (Or.inl ⟨rfl, rfl⟩) e hne
      · have d0 : ([109, 97, 120] : List UInt8) ≠ [] := by decide
        have d1 : ([109, 97, 120] : List UInt8) ≠ [45] := by decide
        have d2 : ([109, 97, 120] : List UInt8) ≠ [40] := by decide
        have d3 : ([109, 97, 120] : List UInt8) ≠ [109, 105, 110] := by decide
        rw [e, if_neg d0, if_neg d1, if_neg d2, if_neg d3, if_pos rfl] at hne ⊢
        exact call 9 [109, 97, 120] (Or.inr ⟨rfl, rfl⟩) e hne
    · have hnor := of_decide_eq_false q
      have n3 : hdT ts ≠ [109, 105, 110] := fun e => hnor (Or.inl e)
      have n4 : hdT ts ≠ [109, 97, 120] := fun e => hnor (Or.inr e)
      have htlen : (hdT ts).length ≤ 1000000 := by
        by_cases h0 : hdT ts = []
        · rw [h0]; simp
        · have := (hTl _ (hmem h0).1).2; omega
      refine (rNumber17_c (hdT ts) htlen h).mono ?_
      rintro _ _ ⟨rfl, rfl⟩
      refine ⟨_, _, rfl, ?_⟩
      have hnum := refNum_eq (hdT ts)
      cases hr : refNum (hdT ts) with
      | some v =>
        rw [hr] at hnum
        simp only [Option.map_some] at hnum
        have h0 : hdT ts ≠ [] := fun e => by rw [e] at hr; cases hr
        obtain ⟨_, hlt⟩ := hmem h0
        rw [if_neg h0, if_neg n1, if_neg n2, if_neg n3, if_neg n4, hnum] at hne ⊢
        refine Br.mk (fun _ => ?_) (fun q => by cases q)
        refine u.step (by omega) fun h1 u1 ho1 => ?_
        have hvb : v ≤ 9999999999999 := refNum_le hr
        simp only [Option.getD_some]
        have u1' := u1
        obtain ⟨ty1, hs1, hb1⟩ := u1'
        have fr := (r3of_c (v : Int) 10000 (by omega) (by omega) (by omega) (by omega) (by omega) (hole h1 g)).frame (g := g) (b := ⟨[.slice S.1 T.length S.2, .int .i64 ((a + 1 : Nat) : Int), .int .i64 0], ty1, (0, 0)⟩) (hole_at h1 g)
        rw [put_hole hb1] at fr
        refine fr.mono ?_
        rintro _ _ ⟨H2, ⟨s2, A2, n2', c2, B2, m2, d2, rfl, N2, a2, b2', hl2⟩, hg2, rfl⟩
        refine ⟨_, _, _, _, _, _, _, _, rfl, ((r3norm_c N2.is (by omega) (by omega)).frame hg2).mono ?_⟩
        rintro _ _ ⟨H3, ⟨s3, A3, n3', c3, B3, m3, d3, rfl, N3, a3, b3', hl3⟩, hg3, rfl⟩
        have ev : ((v : Int) : Rat) / ((10000 : Int) : Rat) = (v : Rat) / 10000 := by
          rw [Rat.intCast_natCast]
          rfl
        rw [ev] at N3
        have ho3 : hole (H3.put g ⟨[.slice S.1 T.length S.2, .int .i64 ((a + 1 : Nat) : Int), .int .i64 0], ty1, (0, 0)⟩) g = H3 := by rw [hole_put, hole_none hg3]
        have e1 := N3.1.1.lmb (by omega)
        have e2 := N3.2.lmb (by omega)
        refine ⟨_, _, _, _, _, _, _, rfl, ?_⟩
        have hleH : Le (hole h g) H3 := by rw [← ho1]; exact hl2.trans hl3
        refine ⟨by rw [ho3]; exact hleH, _, a + 1, rfl, ?_, ?_, ⟨ty1, by rw [ho3]; exact hs1.mono (hl2.trans hl3), Heap.put_same _ _ _⟩, by omega, by omega, htl⟩
        · rw [ho3, e1, e2]
          rw [e1, e2] at N3
          unfold IsE
          exact ⟨s3, A3, c3, B3, d3, none, 0, rfl, N3.is, Nat.le_refl _, fun q => absurd rfl q⟩
        · unfold Szs SzsL
          have h1 := lmb_le ((v : Rat) / 10000).num.natAbs
          have h2 := lmb_le ((v : Rat) / 10000).den
          exact ⟨by omega, by omega, by simp, by simp, trivial⟩
      | none =>
        rw [hr] at hnum
        simp only [Option.map_none] at hnum
        refine Br.mk (fun q => by cases q) (fun _ => (rName_c (hdT ts) h).mono ?_)
        rintro _ _ ⟨rfl, rfl⟩
        refine ⟨_, rfl, Br.mk (fun q5 => (rWrong_c u).mono ?_) (fun q5 => ?_)⟩
        · have hnn : isNameV (hdT ts) = false := by simpa using q5
          rintro _ h1 ⟨rfl, u1, ho1⟩
          refine ⟨rfl, ?_⟩
          rw [hwr] at u1
          by_cases h0 : hdT ts = []
          · rw [if_pos h0] at u1 ⊢
            exact ⟨by rw [ho1]; exact Le.refl _, by decide, shZ, a, u1, by omega⟩
          · rw [if_neg h0] at u1
            rw [if_neg h0, if_neg n1, if_neg n2, if_neg n3, if_neg n4, hnum]
            simp only [hnn]
            exact ⟨by rw [ho1]; exact Le.refl _, by decide, shZ, a, u1, by omega⟩
        · have hnn : isNameV (hdT ts) = true := by simpa using q5
          have h0 : hdT ts ≠ [] := (isName_nd hnn).1
          obtain ⟨hin, hlt⟩ := hmem h0
          rw [if_neg h0, if_neg n1, if_neg n2, if_neg n3, if_neg n4, hnum]
          simp only [hnn, if_true]
          refine u.step (by omega) fun h1 u1 ho1 => ?_
          refine ⟨by rw [ho1]; exact Le.refl _, _, a + 1, rfl, ?_, ?_, u1, by omega, by omega, htl⟩
          · unfold IsE
            exact ⟨false, none, 0, none, 0, none, 0, rfl, IsQ.nul _, Nat.le_refl _, fun q => absurd rfl q⟩
          · unfold Szs SzsL
            have := (hTl _ hin).2
            exact ⟨by omega, by omega, by omega, by simp, trivial⟩
  · have e := beq_iff_eq.1 q
    rw [e]; decide
  · have e := beq_eq_false_iff_ne.1 q
    rw [Bool.eq_iff_iff, beq_iff_eq, decide_eq_true_eq]
    exact ⟨Or.inr, fun h => h.resolve_left e⟩
end Go.Proofs.YtdpdaphholileaaGreatDoor

/-
  Contracts: the reference's Parse; levels.
-/
namespace Go.Proofs.YtdpdaphholileaaGreatDoor
open Go Go.Vcg Go.RowKit Go.Sort
attribute [local irreducible] Br

theorem rSumE : RErr 44 ptr := rsum_err (rproduct_err rFactor_err)

/-- All methods. -/
theorem rAll : ∀ n : Nat, ∀ k, k ≤ n → ROk 44 ptr (qSum k) ∧ ROk 73 ptr (qProd k) ∧ ROk 122 ptr (qFac k) ∧ ∀ (kd : Int) (nm : List UInt8), ((kd = 8 ∧ nm = [109, 105, 110]) ∨ (kd = 9 ∧ nm = [109, 97, 120])) → ROk 168 (fun g => [.pointer (some ⟨g, 0, none⟩), sv nm]) (qCall k kd)
  | 0, k, hk => by
    have : k = 0 := by omega
    subst this
    refine ⟨?_, ?_, ?_, fun kd nm _ => ?_⟩ <;> intro S h g T a _ _ _ _ hne
    · rw [qSum] at hne; exact absurd rfl hne
    · rw [qProd] at hne; exact absurd rfl hne
    · rw [qFac] at hne; exact absurd rfl hne
    · rw [qCall] at hne; exact absurd rfl hne
  | n + 1, k, hk => by
    have ih := rAll n
    rcases Nat.lt_or_ge k (n + 1) with q | q
    · exact ih k (by omega)
    · have : k = n + 1 := by omega
      subst this
      exact ⟨rsum_step (rproduct_err rFactor_err) fun k hk => (ih k hk).2.1, rproduct_step rFactor_err fun k hk => (ih k hk).2.2.1, rFactor_step (ih n (Nat.le_refl _)).2.2.1 (ih n (Nat.le_refl _)).1 (ih n (Nat.le_refl _)).2.2.2, fun kd nm hnm => rCall_step hnm rSumE fun k hk => (ih k hk).1⟩

mutual
/-- The number of levels of a tree. -/
def lvE : Ex → Nat
  | .mk _ _ _ _ _ kids => lvL kids + 1
def lvL : List Ex → Nat
  | [] => 0
  | e :: es => max (lvE e) (lvL es)
end

theorem lvL_take : ∀ {es : List Ex} {j : Nat} {e : Ex}, es[j]? = some e → lvL (es.take (j + 1)) = max (lvL (es.take j)) (lvE e)
  | [], j, e, h => by simp at h
  | x :: es, 0, e, h => by simp at h; subst h; simp [lvL]
  | x :: es, j + 1, e, h => by
    simp only [List.take_succ_cons, lvL]
    rw [lvL_take (by simpa using h)]
    omega

def LvOk (e : Ex) : Prop := ∀ {h : Heap} {vs : List Value}, IsE h e vs → Szs e → lvE e ≤ 1000000000 →
  CallsU Tryz.prog 46 [.agg vs.toArray] h fun r h' => r = .int .i64 (lvE e : Int) ∧ h = h'

theorem lvL_ge : ∀ {es : List Ex} {i : Nat} {e : Ex}, es[i]? = some e → lvE e ≤ lvL es
  | [], i, e, h => by simp at h
  | x :: es, 0, e, h => by simp at h; subst h; rw [lvL]; omega
  | x :: es, i + 1, e, h => by
    have := lvL_ge (es := es) (i := i) (e := e) (by simpa using h)
    rw [lvL]; omega
theorem lvL_le (es : List Ex) (j : Nat) : lvL (es.take j) ≤ lvL es := by
  induction es generalizing j with
  | nil => simp [lvL]
  | cons x es ih =>
    cases j with
    | zero => simp [lvL]
    | succ j =>
      have := ih j
      simp only [List.take_succ_cons, lvL]
      omega

theorem rLevels_node {k : Int} {q0 : Rat} {n m : Nat} {nm : List UInt8} {kids : List Ex} (ih : evAll LvOk kids) : LvOk (.mk k q0 n m nm kids) := by
  intro h vs u z hlv
  obtain ⟨s, A, c, B, d, K, kc, rfl, uq, hc, hk⟩ := u.open
  obtain ⟨z1, z2, z3, z4, z5⟩ := z.open
  simp only [Ex.kids, Ex.ln, Ex.lm, Ex.val, Ex.name] at uq hc hk z1 z2 z3 z4 z5
  rw [lvE] at hlv ⊢
  apply ref17_levels_ok
  unfold ref17_levels_vc
  have hl1 : (Ex.mk k q0 n m nm kids).kids.length = kids.length := rfl
  rw [hl1]
  refine ⟨fun mm v i h' => ∃ j, j ≤ kids.length ∧ mm = kids.length - j ∧ i = (j : Int) ∧ v = (lvL (kids.take j) : Int) ∧ h = h', ⟨kids.length, 0, by omega, by omega, rfl, by simp [lvL], rfl⟩, ?_⟩
  rintro mm _ _ _ ⟨j, hj, rfl, rfl, rfl, rfl⟩
  have hle := lvL_le kids j
  refine Br.mk (fun q1 => ?_) (fun q1 => ?_)
  · have hlt : j < kids.length := by have := of_decide_eq_true q1; omega
    obtain ⟨x, hx⟩ : ∃ x, kids[j]? = some x := ⟨_, List.getElem?_eq_getElem hlt⟩
    obtain ⟨ad, vs', eA, hld, ux⟩ := kid_ld (e := .mk k q0 n m nm kids) hk hx
    have ux' := ux
    obtain ⟨sx, Ax, cx, Bx, dx, Kx, kcx, rfl, _, _, _⟩ := ux'.open
    have hge := lvL_ge hx
    refine ⟨ad, eA, by omega, by omega, _, _, _, _, _, _, _, _, _, _, _, _, by rw [Int.toNat_natCast]; exact hld, ?_⟩
    refine ((ih.get hx) ux (SzsL.get z5 hx) (by omega)).mono ?_
    rintro _ _ ⟨rfl, rfl⟩
    refine ⟨_, rfl, ?_⟩
    rintro _ rfl
    refine ⟨kids.length - (j + 1), by omega, j + 1, by omega, rfl, wi (by omega) (by omega), ?_, rfl⟩
    rw [lvL_take hx]
    by_cases q : (lvE x : Int) > (lvL (kids.take j) : Int)
    · rw [if_pos (decide_eq_true q)]; omega
    · rw [if_neg (by rw [decide_eq_false q]; decide)]; omega
  · have hj' : j = kids.length := by have := of_decide_eq_false q1; omega
    subst hj'
    rw [List.take_length]
    rintro _ rfl
    refine ⟨?_, rfl⟩
    rw [show ((lvL kids : Nat) : Int) + 1 = ((lvL kids + 1 : Nat) : Int) by omega]
    rw [wrap_i64 (by omega) (by omega)]

mutual
theorem rLevels_all : ∀ e : Ex, LvOk e
  | .mk _ _ _ _ _ kids => rLevels_node (rLevels_allL kids)
theorem rLevels_allL : ∀ es : List Ex, evAll LvOk es
  | [] => trivial
  | e :: es => ⟨rLevels_all e, rLevels_allL es⟩
end

mutual
/-- Where all nodes are right, only the levels count. -/
theorem chk_lv : ∀ {e : Ex} {lv : Int}, okE e → chkV e lv = if (lvE e : Int) + lv ≤ 13 then 0 else 5
  | .mk k q n m nm kids, lv, h => by
    rw [okE] at h
    rw [chkV, h.1, lvE]
    by_cases h12 : 12 < lv
    · rw [if_pos h12, if_neg (by omega)]
    · rw [if_neg h12, if_pos rfl, chkL_lv h.2]
      by_cases hk : kids = []
      · subst hk
        rw [if_pos rfl, if_pos (by rw [lvL]; omega)]
      · rw [if_neg hk]
        by_cases h13 : (lvL kids : Int) + (lv + 1) ≤ 13
        · rw [if_pos h13, if_pos (by omega)]
        · rw [if_neg h13, if_neg (by omega)]
theorem chkL_lv : ∀ {es : List Ex} {lv : Int}, okL es → chkL es lv = if es = [] then 0 else if (lvL es : Int) + lv ≤ 13 then 0 else 5
  | [], lv, _ => by rw [chkL, if_pos rfl]
  | e :: es, lv, h => by
    rw [okL] at h
    rw [chkL, chk_lv h.1, chkL_lv h.2, lvL, if_neg (show ¬ e :: es = [] by simp)]
    by_cases h1 : (lvE e : Int) + lv ≤ 13
    · rw [if_pos h1, if_pos rfl]
      by_cases he : es = []
      · subst he
        rw [if_pos rfl, lvL, if_pos (by omega)]
      · rw [if_neg he]
        by_cases h2 : (lvL es : Int) + lv ≤ 13
        · rw [if_pos h2, if_pos (by omega)]
        · rw [if_neg h2, if_neg (by omega)]
    · rw [if_neg h1, if_neg (show ¬ (5 : Int) = 0 by decide), if_neg (by omega)]
end
end Go.Proofs.YtdpdaphholileaaGreatDoor

/-
  Plain: trees that were parsed are right, and not too deep. The reference's Parse answers as the program's.
-/
namespace Go.Proofs.YtdpdaphholileaaGreatDoor
open Go Go.Vcg Go.RowKit Go.Sort
attribute [local irreducible] Br

theorem shV_of {v : Nat} (h : v ≤ 9999999999999) : (shV ((v : Rat) / 10000)).isSome = true := by
  have e : (v : Rat) / 10000 * 10000 = (v : Rat) := by grind
  unfold shV
  rw [e, if_pos]
  · rfl
  · have h1 : ((v : Nat) : Rat).den = 1 := rfl
    have h2 : ((v : Nat) : Rat).num = (v : Int) := rfl
    rw [h1, h2]
    exact ⟨rfl, by omega, by omega⟩

theorem num_ok {w : List UInt8} {q : Rat} (h : numberV w = some q) : (shV q).isSome = true := by
  rw [refNum_eq] at h
  cases hr : refNum w with
  | none => rw [hr] at h; cases h
  | some v =>
    rw [hr] at h
    cases h
    exact shV_of (refNum_le hr)

theorem ok_op2 {k : Int} {x y : Ex} (hk : k = 3 ∨ k = 4 ∨ k = 5 ∨ k = 6) (hx : okE x) (hy : okE y) : okE (op2 k x y) := by
  unfold op2
  rw [okE, okL, okL, okL]
  refine ⟨?_, hx, hy, trivial⟩
  unfold rightV
  rcases hk with rfl | rfl | rfl | rfl <;> simp [Ex.kind, Ex.kids, Ex.name, Ex.val, foOps]

theorem ok_name {w : List UInt8} (hn : isNameV w = true) : okE (.mk 2 0 0 0 w []) := by
  rw [okE, okL]
  refine ⟨?_, trivial⟩
  unfold rightV
  simp [Ex.kind, Ex.kids, Ex.name, Ex.val, foOps, hn]
theorem ok_num {q : Rat} {n m : Nat} (hq : (shV q).isSome = true) : okE (.mk 1 q n m [] []) := by
  rw [okE, okL]
  refine ⟨?_, trivial⟩
  unfold rightV
  simp [Ex.kind, Ex.kids, Ex.name, Ex.val, foOps, hq]
theorem ok_call {k : Int} {es : List Ex} (hk : k = 8 ∨ k = 9) (h1 : 1 ≤ es.length) (h8 : es.length ≤ 8) (h : okL es) : okE (.mk k 0 0 0 [] es) := by
  rw [okE]
  refine ⟨?_, h⟩
  unfold rightV
  rcases hk with rfl | rfl
  · simp [Ex.kind, Ex.kids, Ex.name, Ex.val, foOps]
    omega
  · simp [Ex.kind, Ex.kids, Ex.name, Ex.val, foOps]
    omega

theorem okL_snoc : ∀ {es : List Ex} {x : Ex}, okL es → okE x → okL (es ++ [x])
  | [], x, _, hx => by rw [List.nil_append, okL, okL]; exact ⟨hx, trivial⟩
  | e :: es, x, h, hx => by rw [okL] at h; rw [List.cons_append, okL]; exact ⟨h.1, okL_snoc h.2 hx⟩

/-- What the parser over tokens makes is right. -/
theorem q_ok : ∀ n : Nat, (∀ r x r', qSum n r = .ok (x, r') → okE x) ∧ (∀ y r x r', okE y → qSumL n y r = .ok (x, r') → okE x) ∧ (∀ r x r', qProd n r = .ok (x, r') → okE x) ∧ (∀ y r x r', okE y → qProdL n y r = .ok (x, r') → okE x) ∧ (∀ r x r', qFac n r = .ok (x, r') → okE x) ∧ (∀ k r x r', (k = 8 ∨ k = 9) → qCall n k r = .ok (x, r') → okE x) ∧ (∀ k es r x r', (k = 8 ∨ k = 9) → es.length ≤ 7 → okL es → qCallL n k es r = .ok (x, r') → okE x)
  | 0 => by
    refine ⟨?_, ?_, ?_, ?_, ?_, ?_, ?_⟩ <;> intros <;> rename_i h <;> first | (rw [qSum] at h; cases h) | (rw [qSumL] at h; cases h) | (rw [qProd] at h; cases h) | (rw [qProdL] at h; cases h) | (rw [qFac] at h; cases h) | (rw [qCall] at h; cases h) | (rw [qCallL] at h; cases h)
  | n + 1 => by
    obtain ⟨iS, iSL, iP, iPL, iF, iC, iCL⟩ := q_ok n
    refine ⟨?_, ?_, ?_, ?_, ?_, ?_, ?_⟩
    · intro r x r' h
      rw [qSum] at h
      split at h
      · cases h
      · rename_i y r1 h1
        exact iSL _ _ _ _ (iP _ _ _ h1) h
    · intro y r x r' hy h
      rw [qSumL] at h
      split at h
      · split at h
        · cases h
        · rename_i z r1 h1
          exact iSL _ _ _ _ (ok_op2 (by omega) hy (iP _ _ _ h1)) h
      · split at h
        · split at h
          · cases h
          · rename_i z r1 h1
            exact iSL _ _ _ _ (ok_op2 (by omega) hy (iP _ _ _ h1)) h
        · cases h; exact hy
    · intro r x r' h
      rw [qProd] at h
      split at h
      · cases h
      · rename_i y r1 h1
        exact iPL _ _ _ _ (iF _ _ _ h1) h
    · intro y r x r' hy h
      rw [qProdL] at h
      split at h
      · split at h
        · cases h
        · rename_i z r1 h1
          exact iPL _ _ _ _ (ok_op2 (by omega) hy (iF _ _ _ h1)) h
      · split at h
        · split at h
          · cases h
          · rename_i z r1 h1
            exact iPL _ _ _ _ (ok_op2 (by omega) hy (iF _ _ _ h1)) h
        · cases h; exact hy
    · intro r x r' h
      rw [qFac] at h
      split at h
      · cases h
      split at h
      · split at h
        · cases h
        · rename_i z r1 h1
          cases h
          rw [okE, okL, okL]
          refine ⟨?_, iF _ _ _ h1, trivial⟩
          unfold rightV
          simp [Ex.kind, Ex.kids, Ex.name, Ex.val, foOps]
      split at h
      · split at h
        · cases h
        · rename_i z r1 h1
          split at h
          · cases h
            exact iS _ _ _ h1
          · cases h
      split at h
      · exact iC _ _ _ _ (Or.inl rfl) h
      split at h
      · exact iC _ _ _ _ (Or.inr rfl) h
      split at h
      · rename_i q hq
        cases h
        exact ok_num (num_ok hq)
      · split at h
        · rename_i hn
          cases h
          exact ok_name hn
        · cases h
    · intro k r x r' hk h
      rw [qCall] at h
      split at h
      · exact iCL _ _ _ _ _ hk (by simp) (by rw [okL]; trivial) h
      · cases h
    · intro k es r x r' hk hl hes h
      rw [qCallL] at h
      split at h
      · cases h
      · rename_i z r1 h1
        have hz := okL_snoc hes (iS _ _ _ h1)
        have hlen : (es ++ [z]).length = es.length + 1 := by simp
        split at h
        · cases h
          exact ok_call hk (by omega) (by omega) hz
        split at h
        · cases h
        split at h
        · cases h
        split at h
        · cases h
        · rename_i h8
          exact iCL _ _ _ _ _ hk (by rw [hlen]; omega) hz h

theorem lvL_snoc : ∀ (es : List Ex) (x : Ex), lvL (es ++ [x]) = max (lvL es) (lvE x)
  | [], x => by simp [lvL]
  | e :: es, x => by rw [List.cons_append, lvL, lvL, lvL_snoc es x]; omega

theorem lv_op2 (k : Int) (x y : Ex) : lvE (op2 k x y) = max (lvE x) (lvE y) + 1 := by
  unfold op2
  rw [lvE, lvL, lvL, lvL]
  omega

theorem sq_succ (n : Nat) : (n + 1) * (n + 1) = n * n + 2 * n + 1 := by
  rw [Nat.add_mul, Nat.mul_add]; omega

/-- .. and not too deep. -/
theorem q_lv : ∀ n : Nat, (∀ r x r', qSum n r = .ok (x, r') → lvE x ≤ n * n) ∧ (∀ y r x r', qSumL n y r = .ok (x, r') → lvE x ≤ max (lvE y) (n * n) + n) ∧ (∀ r x r', qProd n r = .ok (x, r') → lvE x ≤ n * n) ∧ (∀ y r x r', qProdL n y r = .ok (x, r') → lvE x ≤ max (lvE y) (n * n) + n) ∧ (∀ r x r', qFac n r = .ok (x, r') → lvE x ≤ n * n) ∧ (∀ k r x r', qCall n k r = .ok (x, r') → lvE x ≤ n * n) ∧ (∀ k es r x r', qCallL n k es r = .ok (x, r') → lvE x ≤ max (lvL es) (n * n) + 1)
  | 0 => by
    refine ⟨?_, ?_, ?_, ?_, ?_, ?_, ?_⟩ <;> intros <;> rename_i h <;> first | (rw [qSum] at h; cases h) | (rw [qSumL] at h; cases h) | (rw [qProd] at h; cases h) | (rw [qProdL] at h; cases h) | (rw [qFac] at h; cases h) | (rw [qCall] at h; cases h) | (rw [qCallL] at h; cases h)
  | n + 1 => by
    obtain ⟨iS, iSL, iP, iPL, iF, iC, iCL⟩ := q_lv n
    rw [sq_succ]
    generalize hN : n * n = N at *
    refine ⟨?_, ?_, ?_, ?_, ?_, ?_, ?_⟩
    · intro r x r' h
      rw [qSum] at h
      split at h
      · cases h
      · rename_i y r1 h1
        have a := iP _ _ _ h1
        have b := iSL _ _ _ _ h
        omega
    · intro y r x r' h
      rw [qSumL] at h
      split at h
      · split at h
        · cases h
        · rename_i z r1 h1
          have a := iP _ _ _ h1
          have b := iSL _ _ _ _ h
          rw [lv_op2] at b
          omega
      · split at h
        · split at h
          · cases h
          · rename_i z r1 h1
            have a := iP _ _ _ h1
            have b := iSL _ _ _ _ h
            rw [lv_op2] at b
            omega
        · cases h; omega
    · intro r x r' h
      rw [qProd] at h
      split at h
      · cases h
      · rename_i y r1 h1
        have a := iF _ _ _ h1
        have b := iPL _ _ _ _ h
        omega
    · intro y r x r' h
      rw [qProdL] at h
      split at h
      · split at h
        · cases h
        · rename_i z r1 h1
          have a := iF _ _ _ h1
          have b := iPL _ _ _ _ h
          rw [lv_op2] at b
          omega
      · split at h
        · split at h
          · cases h
          · rename_i z r1 h1
            have a := iF _ _ _ h1
            have b := iPL _ _ _ _ h
            rw [lv_op2] at b
            omega
        · cases h; omega
    · intro r x r' h
      rw [qFac] at h
      split at h
      · cases h
      split at h
      · split at h
        · cases h
        · rename_i z r1 h1
          cases h
          have a := iF _ _ _ h1
          rw [lvE, lvL, lvL]
          omega
      split at h
      · split at h
        · cases h
        · rename_i z r1 h1
          split at h
          · cases h
            have a := iS _ _ _ h1
            omega
          · cases h
      split at h
      · have a := iC _ _ _ _ h; omega
      split at h
      · have a := iC _ _ _ _ h; omega
      split at h
      · cases h
        rw [lvE, lvL]; omega
      · split at h
        · cases h
          rw [lvE, lvL]; omega
        · cases h
    · intro k r x r' h
      rw [qCall] at h
      split at h
      · have a := iCL _ _ _ _ _ h
        rw [lvL] at a
        omega
      · cases h
    · intro k es r x r' h
      rw [qCallL] at h
      split at h
      · cases h
      · rename_i z r1 h1
        have a := iS _ _ _ h1
        split at h
        · cases h
          rw [lvE, lvL_snoc]
          omega
        split at h
        · cases h
        split at h
        · cases h
        split at h
        · cases h
        · have b := iCL _ _ _ _ _ h
          rw [lvL_snoc] at b
          omega

theorem tks_len : ∀ (n : Nat) (r : List UInt8), r.length ≤ n → (tks r).length ≤ r.length ∧ ∀ t ∈ tks r, t ≠ [] ∧ t.length ≤ r.length
  | n, r, hn => by
    by_cases h : tk r = []
    · rw [tks_nil h]
      exact ⟨by simp, fun t ht => by simp at ht⟩
    · have hlt := aft_lt h
      have hsp := congrArg List.length (tk_split r)
      have hsk := skip_le r
      rw [List.length_append] at hsp
      cases n with
      | zero => omega
      | succ n =>
        obtain ⟨h1, h2⟩ := tks_len n (aft r) (by omega)
        rw [tks_cons h]
        refine ⟨by rw [List.length_cons]; omega, fun t ht => ?_⟩
        rcases List.mem_cons.1 ht with e | e
        · subst e; exact ⟨h, by omega⟩
        · have := h2 t e
          exact ⟨this.1, by omega⟩

theorem rParse_c (s : List UInt8) (h : Heap) : CallsU Tryz.prog 19 [sv s] h (FpR (foParseV s) h) := by
  apply ref17_Parse_ok
  unfold ref17_Parse_vc
  simp only [and_true, and_self]
  rw [ba_size]
  refine Br.mk (fun q => ?_) (fun q => ?_)
  · unfold foParseV
    rw [if_pos (by have := of_decide_eq_true q; omega)]
    exact ⟨Le.refl _, by decide, rfl⟩
  have hl : s.length ≤ 400 := by have := of_decide_eq_false q; omega
  obtain ⟨hT, hTl⟩ := tks_len s.length s (Nat.le_refl _)
  have hfu := fuel400 hl
  have htok := (p_tok 4000).1 s
  have hq99 : qSum 4000 (tks s) ≠ .error 99 := by
    rw [htok]
    cases ho : pSum 4000 s with
    | error e => intro q; cases q; exact hfu ho
    | ok p => intro q; cases q
  refine (rSplit_c s (by omega) h).mono ?_
  rintro _ h1 ⟨A, n, c, rfl, own, hl1⟩
  refine ⟨_, _, _, rfl, ?_⟩
  rintro g _ hg rfl
  have hn : n = (tks s).length := own.1
  subst hn
  have hh : hole (h1.put g ⟨[.slice A (tks s).length c, .int .i64 0, .int .i64 0], 69, (0, 0)⟩) g = h1 := by rw [hole_put, hole_none hg]
  have u : Rdr (A, c) (h1.put g ⟨[.slice A (tks s).length c, .int .i64 0, .int .i64 0], 69, (0, 0)⟩) g (tks s) 0 0 := ⟨69, by rw [hh]; exact own.sl, Heap.put_same _ _ _⟩
  have hs := (rAll 4000 4000 (Nat.le_refl _)).1 u (by omega) (by omega) (fun t ht => by have := hTl t ht; exact ⟨this.1, by omega⟩) (by rw [List.drop_zero]; exact hq99)
  rw [List.drop_zero] at hs
  refine hs.mono ?_
  rintro v h3 ⟨hle3, hG⟩
  rw [hh] at hle3
  have hlh : ∀ {h' : Heap}, Le h1 (hole h' g) → Le h h' := fun l => (hl1.trans l).trans (hole_le _ _)
  unfold foParseV
  rw [if_neg (by omega)]
  cases ho : pSum 4000 s with
  | error er =>
    have hqe : qSum 4000 (tks s) = .error er := by rw [htok, ho]; rfl
    rw [hqe] at hG
    obtain ⟨he, ⟨k, ss, A2, n2, c2, B2, m2, d2, nm2, K2, kn2, kc2, rfl⟩, a', u3, _⟩ := hG
    have u3' := u3
    obtain ⟨ty3, _, hb3⟩ := u3'
    refine ⟨_, _, _, _, _, _, _, _, _, _, _, _, rfl, fun h' => ∃ a2, Rdr (A, c) h' g (tks s) a2 er ∧ hole h' g = hole h3 g, ?_, _, cell1 hb3, _, _, _, cell0 hb3, Br.mk (fun _ => (rWrong_c u3).mono ?_) (fun _ => ⟨a', u3, rfl⟩)⟩
    · rintro h4 ⟨a2, u4, ho4⟩
      have u4' := u4
      obtain ⟨ty4, _, hb4⟩ := u4'
      refine ⟨_, cell2 hb4, Br.mk (fun _ => ⟨_, cell2 hb4, ?_⟩) (fun q2 => by rw [bne_eq_false_iff_eq] at q2; exact absurd q2 he)⟩
      exact ⟨hlh (by rw [ho4]; exact hle3), he, rfl⟩
    · rintro _ h4 ⟨rfl, u4, ho4⟩
      rw [wrg_err _ _ he] at u4
      exact ⟨rfl, a', u4, ho4⟩
  | ok p =>
    obtain ⟨x, r⟩ := p
    have hqo : qSum 4000 (tks s) = .ok (x, tks r) := by rw [htok, ho]; rfl
    rw [hqo] at hG
    obtain ⟨vs, a', rfl, ux, zx, u3, _, ha', hdr⟩ := hG
    have ux' := ux
    obtain ⟨s3, A3, c3, B3, d3, K3, kc3, rfl, _, _, _⟩ := ux'.open
    have u3' := u3
    obtain ⟨ty3, _, hb3⟩ := u3'
    have hokx := (q_ok 4000).1 _ _ _ hqo
    have hlvx := (q_lv 4000).1 _ _ _ hqo
    refine ⟨_, _, _, _, _, _, _, _, _, _, _, _, rfl, fun h' => ∃ e2, Rdr (A, c) h' g (tks s) a' e2 ∧ hole h' g = hole h3 g ∧ e2 = if tk r = [] then 0 else 2, ?_, _, cell1 hb3, _, _, _, cell0 hb3, Br.mk (fun q2 => (rWrong_c u3).mono ?_) (fun q2 => ⟨0, u3, rfl, ?_⟩)⟩
    · rintro h4 ⟨e2, u4, ho4, he2⟩
      have u4' := u4
      obtain ⟨ty4, _, hb4⟩ := u4'
      have hle4 : Le h1 (hole h4 g) := by rw [ho4]; exact hle3
      refine ⟨_, cell2 hb4, ?_⟩
      by_cases ht : tk r = []
      · rw [if_pos ht] at he2
        subst he2
        refine Br.mk (fun q => by exact absurd q (by decide)) (fun _ => ?_)
        have ux4 : IsE h4 x _ := IsE.mono (hole_le _ g) _ _ (by rw [ho4]; exact ux)
        refine ((rLevels_all x) ux4 zx (by omega)).mono ?_
        rintro _ _ ⟨rfl, rfl⟩
        have hc := chk_lv (lv := 1) hokx
        refine ⟨_, rfl, Br.mk (fun q3 => ?_) (fun q3 => ?_)⟩
        · have h12 := of_decide_eq_true q3
          rw [if_neg (by omega)] at hc
          simp only [ht, if_true]
          rw [if_neg (by rw [hc]; decide), hc]
          exact ⟨hlh hle4, by decide, rfl⟩
        · have h12 := of_decide_eq_false q3
          rw [if_pos (by omega)] at hc
          simp only [ht, if_true]
          rw [if_pos hc]
          exact ⟨hlh hle4, _, rfl, ux4, zx, hc⟩
      · rw [if_neg ht] at he2
        subst he2
        refine Br.mk (fun _ => ⟨_, cell2 hb4, ?_⟩) (fun q => by exact absurd q (by decide))
        simp only [ht, if_false]
        exact ⟨hlh hle4, by decide, rfl⟩
    · have hlt : a' < (tks s).length := by have := of_decide_eq_true q2; omega
      rintro _ h4 ⟨rfl, u4, ho4⟩
      refine ⟨rfl, 2, ?_, ho4, ?_⟩
      · have : wrgV (tks s) a' 0 = 2 := by unfold wrgV; rw [if_pos rfl, if_neg (by omega)]
        rw [this] at u4
        exact u4
      · have htr : tks r ≠ [] := fun e => by
          rw [e] at hdr
          have := congrArg List.length hdr
          rw [List.length_drop, List.length_nil] at this
          omega
        rw [if_neg (fun e => htr (tks_nil e))]
    · have hge : (tks s).length ≤ a' := by have := of_decide_eq_false q2; omega
      rw [List.drop_eq_nil_of_le hge] at hdr
      rw [if_pos]
      rw [← hd_tks, ← hdr]
      rfl
end Go.Proofs.YtdpdaphholileaaGreatDoor

/-
  Contracts: formula: the parser's methods and Parse, for trees whose numbers are in normal form (printed by wip/gen/mkfo10.py).
-/
namespace Go.Proofs.YtdpdaphholileaaGreatDoor
open Go Go.Vcg Go.RowKit Go.Sort
attribute [local irreducible] Br

/-- A ratio; of a number, in normal form. -/
def VQ (h : Heap) (k : Int) (s : Bool) (A : Option Addr) (n c : Nat) (B : Option Addr) (m d : Nat) (q : Rat) : Prop := IsQ h s A n c B m d q ∧ (k = 1 → NmQ h s A n c B m d q)
theorem VQ.mono {h h' : Heap} {k : Int} {s : Bool} {A : Option Addr} {n c : Nat} {B : Option Addr} {m d : Nat} {q : Rat} (u : VQ h k s A n c B m d q) (l : Le h h') : VQ h' k s A n c B m d q := ⟨u.1.mono l, fun e => (u.2 e).mono l⟩

mutual
/-- The cells of a tree whose numbers are in normal form. -/
def IsW (h : Heap) : Ex → List Value → Prop
  | .mk k q n m nm kids, vs => ∃ s A c B d K kc, vs = cellsE k s A n c B m d nm K kids.length kc ∧ VQ h k s A n c B m d q ∧ kids.length ≤ kc ∧
      (kids ≠ [] → ∃ (ad : Addr) (b : Blk), K = some ad ∧ ad.spot = none ∧ h ad.block = some b ∧ ad.off + 6 * kids.length ≤ b.cells.length ∧ IsWs h kids (b.cells.drop ad.off))
def IsWs (h : Heap) : List Ex → List Value → Prop
  | [], _ => True
  | e :: es, cs => IsW h e (cs.take 6) ∧ IsWs h es (cs.drop 6)
end

mutual
theorem IsW.mono {h h' : Heap} (l : Le h h') : ∀ (e : Ex) (vs : List Value), IsW h e vs → IsW h' e vs
  | .mk k q n m nm kids, vs, u => by
    unfold IsW at u ⊢
    obtain ⟨s, A, c, B, d, K, kc, e, uq, hc, hk⟩ := u
    refine ⟨s, A, c, B, d, K, kc, e, uq.mono l, hc, fun hn => ?_⟩
    obtain ⟨ad, b, e1, e2, hb, hl, hs⟩ := hk hn
    exact ⟨ad, b, e1, e2, l _ _ hb, hl, IsWs.mono l kids _ hs⟩
theorem IsWs.mono {h h' : Heap} (l : Le h h') : ∀ (es : List Ex) (cs : List Value), IsWs h es cs → IsWs h' es cs
  | [], _, _ => by unfold IsWs; trivial
  | e :: es, cs, u => by
    unfold IsWs at u ⊢
    exact ⟨IsW.mono l e _ u.1, IsWs.mono l es _ u.2⟩
end

mutual
theorem IsW.is {h : Heap} : ∀ (e : Ex) (vs : List Value), IsW h e vs → IsE h e vs
  | .mk k q n m nm kids, vs, u => by
    unfold IsW at u
    unfold IsE
    obtain ⟨s, A, c, B, d, K, kc, e, uq, hc, hk⟩ := u
    refine ⟨s, A, c, B, d, K, kc, e, uq.1, hc, fun hn => ?_⟩
    obtain ⟨ad, b, e1, e2, hb, hl, hs⟩ := hk hn
    exact ⟨ad, b, e1, e2, hb, hl, IsWs.is kids _ hs⟩
theorem IsWs.is {h : Heap} : ∀ (es : List Ex) (cs : List Value), IsWs h es cs → IsEs h es cs
  | [], _, _ => by unfold IsEs; trivial
  | e :: es, cs, u => by
    unfold IsWs at u
    unfold IsEs
    exact ⟨IsW.is e _ u.1, IsWs.is es _ u.2⟩
end

theorem IsW.len {h : Heap} {e : Ex} {vs : List Value} (u : IsW h e vs) : vs.length = 6 := (IsW.is _ _ u).len

theorem IsW.open {h : Heap} {e : Ex} {vs : List Value} (u : IsW h e vs) : ∃ s A c B d K kc, vs = cellsE e.kind s A e.ln c B e.lm d e.name K e.kids.length kc ∧ VQ h e.kind s A e.ln c B e.lm d e.val ∧ e.kids.length ≤ kc ∧
    (e.kids ≠ [] → ∃ (ad : Addr) (b : Blk), K = some ad ∧ ad.spot = none ∧ h ad.block = some b ∧ ad.off + 6 * e.kids.length ≤ b.cells.length ∧ IsWs h e.kids (b.cells.drop ad.off)) := by
  cases e
  unfold IsW at u
  exact u

theorem IsWs.get {h : Heap} : ∀ {es : List Ex} {cs : List Value} {i : Nat} {e : Ex}, IsWs h es cs → es[i]? = some e → IsW h e ((cs.drop (i * 6)).take 6)
  | [], _, i, e, _, he => by simp at he
  | x :: es, cs, 0, e, u, he => by
    unfold IsWs at u
    simp at he
    subst he
    simpa using u.1
  | x :: es, cs, i + 1, e, u, he => by
    unfold IsWs at u
    have := IsWs.get u.2 (i := i) (by simpa using he)
    rw [List.drop_drop] at this
    rw [show (i + 1) * 6 = 6 + i * 6 by omega]
    exact this

/-- What a method of the parser answers. -/
def PaN (o : Except Int (Ex × List UInt8)) (g : Nat) (l : List UInt8) (h : Heap) (r : Value) (h' : Heap) : Prop :=
  Le (hole h g) (hole h' g) ∧ match o with
    | .error e => e ≠ 0 ∧ r = .tuple #[.agg zE.toArray, .int .i64 e]
    | .ok (x, rest) => ∃ vs : List Value, r = .tuple #[.agg vs.toArray, .int .i64 0] ∧ IsW (hole h' g) x vs ∧ Szs x ∧ Ps h' g l rest

/-- A node of operators. -/
theorem IsW_op {h : Heap} {k : Int} (hk1 : k ≠ 1) {es : List Ex} {gk c ty : Nat} {cs : List Value} (hb : h gk = some ⟨cs, ty, (0, 0)⟩) (hc : es.length ≤ c) (hl : 6 * es.length ≤ cs.length) (hs : IsWs h es cs) :
    IsW h (.mk k 0 0 0 [] es) [.int .i64 k, .bool false, .slice none 0 0, .slice none 0 0, .string ByteArray.empty, .slice (some ⟨gk, 0, none⟩) es.length c] := by
  unfold IsW
  exact ⟨false, none, 0, none, 0, some ⟨gk, 0, none⟩, c, rfl, ⟨IsQ.nul h, fun e => absurd e hk1⟩, hc, fun _ => ⟨⟨gk, 0, none⟩, _, rfl, rfl, hb, by simpa using hl, by simpa using hs⟩⟩

theorem IsWs.snoc {h : Heap} : ∀ {es : List Ex} {cs : List Value} {x : Ex} {vs rest : List Value}, IsWs h es cs → 6 * es.length ≤ cs.length → IsW h x vs → IsWs h (es ++ [x]) (cs.take (6 * es.length) ++ vs ++ rest)
  | [], cs, x, vs, rest, _, _, ux => by
    have hv := ux.len
    unfold IsWs
    refine ⟨?_, by unfold IsWs; trivial⟩
    simp only [List.length_nil, Nat.mul_zero, List.take_zero, List.nil_append]
    rw [List.take_append_of_le_length (by omega), List.take_of_length_le (by omega)]
    exact ux
  | e :: es, cs, x, vs, rest, u, hl, ux => by
    unfold IsWs at u
    rw [List.length_cons] at hl
    rw [List.cons_append]
    unfold IsWs
    rw [List.length_cons, show 6 * (es.length + 1) = 6 + 6 * es.length by omega]
    have e1 : cs.take (6 + 6 * es.length) = cs.take 6 ++ (cs.drop 6).take (6 * es.length) := List.take_add
    have h6 : (cs.take 6).length = 6 := by rw [List.length_take]; omega
    rw [e1]
    refine ⟨?_, ?_⟩
    · rw [List.append_assoc, List.append_assoc, List.take_append_of_le_length (by omega), List.take_take, Nat.min_self]
      exact u.1
    · rw [List.append_assoc, List.append_assoc, List.drop_append_of_le_length (by omega), List.drop_of_length_le (l := cs.take 6) (by omega), List.nil_append, ← List.append_assoc]
      exact IsWs.snoc u.2 (by rw [List.length_drop]; omega) ux

/-- Two trees in a new row. -/
theorem IsW_two {h : Heap} {k : Int} (hk1 : k ≠ 1) {x y : Ex} {vs ws : List Value} {gk ty : Nat} (hg : h gk = none) (ux : IsW h x vs) (uy : IsW h y ws) :
    IsW (h.put gk ⟨vs ++ ws, ty, (0, 0)⟩) (op2 k x y) [.int .i64 k, .bool false, .slice none 0 0, .slice none 0 0, .string ByteArray.empty, .slice (some ⟨gk, 0, none⟩) 2 2] := by
  have l := Le.new hg ⟨vs ++ ws, ty, (0, 0)⟩
  have h1 := ux.len
  have h2 := uy.len
  refine IsW_op hk1 (es := [x, y]) (cs := vs ++ ws) (Heap.put_same _ _ _) (by simp) (by simp; omega) ?_
  unfold IsWs
  refine ⟨by rw [List.take_append_of_le_length (by omega), List.take_of_length_le (by omega)]; exact IsW.mono l _ _ ux, ?_⟩
  unfold IsWs
  refine ⟨?_, by unfold IsWs; trivial⟩
  rw [List.drop_append_of_le_length (by omega), List.drop_of_length_le (by omega), List.nil_append, List.take_of_length_le (by omega)]
  exact IsW.mono l _ _ uy

/-- The contract of a method. -/
def MOn (f : FuncId) (args : Nat → List Value) (o : List UInt8 → Except Int (Ex × List UInt8)) : Prop :=
  ∀ {h : Heap} {g : Nat} {l r : List UInt8}, Ps h g l r → l.length ≤ 400 → o r ≠ .error 99 → CallsU Tryz.prog f (args g) h (PaN (o r) g l h)

theorem fnProd_step {n : Nat} (ih : ∀ k, k ≤ n → MOn 120 ptr (pFac k)) : MOn 69 ptr (pProd (n + 1)) := by
  intro h g l r u hl hne
  rw [pProd] at hne ⊢
  apply garment_formula_parser_product_ok
  have hsub := ih n (Nat.le_refl _) (r := r) u hl
  cases ho : pFac n r with
  | error e =>
    rw [ho] at hne
    rw [ho] at hsub
    refine (hsub hne).mono ?_
    rintro _ h1 ⟨hle, he, rfl⟩
    refine ⟨_, _, _, _, _, _, _, _, _, _, _, _, _, rfl, fun m err _ _ _ _ _ _ _ _ _ _ _ _ _ _ _ _ _ _ _ _ _ _ _ _ h' => err = e ∧ h' = h1, ⟨0, rfl, rfl⟩, ?_⟩
    rintro m _ _ _ _ _ _ _ _ _ _ _ _ _ _ _ _ _ _ _ _ _ _ _ _ _ _ ⟨rfl, rfl⟩
    refine Br.mk (fun q => absurd (beq_iff_eq.1 q) he) (fun _ => ⟨hle, he, rfl⟩)
  | ok p =>
    obtain ⟨x, r1⟩ := p
    rw [ho] at hne
    rw [ho] at hsub
    simp only at hne ⊢
    refine (hsub (by intro q; cases q)).mono ?_
    rintro _ h1 ⟨hle, vs, rfl, ux, zx, hp⟩
    have ux' := ux
    obtain ⟨s0, A0, c0, B0, d0, K0, kc0, rfl, _, _, _⟩ := ux'.open
    refine ⟨_, _, _, _, _, _, _, _, _, _, _, _, _, rfl, fun m err _ _ _ _ _ _ _ _ _ _ _ _ l0 l1 l2A l2n l2c l3A l3n l3c l4 l5A l5n l5c h' => Le (hole h g) (hole h' g) ∧ ((err ≠ 0 ∧ pProdL n x r1 = .error err) ∨ (err = 0 ∧ m ≤ n ∧ ∃ y r2, pProdL m y r2 = pProdL n x r1 ∧ IsW (hole h' g) y [.int .i64 l0, .bool l1, .slice l2A l2n l2c, .slice l3A l3n l3c, .string l4, .slice l5A l5n l5c] ∧ Szs y ∧ Ps h' g l r2)), ⟨n, hle, Or.inr ⟨rfl, Nat.le_refl _, x, r1, rfl, ux, zx, hp⟩⟩, ?_⟩
    rintro m err _ _ _ _ _ _ _ _ _ _ _ _ l0 l1 l2A l2n l2c l3A l3n l3c l4 l5A l5n l5c h2 ⟨hle2, hcase⟩
    refine Br.mk (fun q => ?_) (fun q => ?_)
    · rcases hcase with ⟨h0, _⟩ | ⟨_, hm, y, r2, hy, uy, zy, hp2⟩
      · exact absurd (beq_iff_eq.1 q) h0
      · cases m with
        | zero => rw [pProdL] at hy; exact absurd hy.symm hne
        | succ m =>
          rw [← hy] at hne
          rw [pProdL] at hy hne
          have go : ∀ (kd : Int) (h3 : Heap), Ps h3 g l (skipS r2) → hole h3 g = hole h2 g → (tk r2 ≠ [] ∧ kd ≠ 1) → (match pFac m (aft r2) with | .error e => .error e | .ok (z, r') => pProdL m (op2 kd y z) r') = pProdL n x r1 →
            CallsU Tryz.prog 70 (ptr g) h3 fun v_1 h_4 =>
              ∃ t23 : ByteArray, v_1 = Value.string t23 ∧
              CallsU Tryz.prog 120 (ptr g) h_4 fun v_2 h_5 =>
              ∃ t26_0_0 : Int, ∃ t26_0_1 : Bool, ∃ t26_0_2A : Option Addr, ∃ t26_0_2n t26_0_2c : Nat, ∃ t26_0_3A : Option Addr, ∃ t26_0_3n t26_0_3c : Nat, ∃ t26_0_4 : ByteArray, ∃ t26_0_5A : Option Addr, ∃ t26_0_5n t26_0_5c : Nat, ∃ t26_1 : Int, v_2 = Value.tuple #[Value.agg #[Value.int .i64 t26_0_0, Value.bool t26_0_1, Value.slice t26_0_2A t26_0_2n t26_0_2c, Value.slice t26_0_3A t26_0_3n t26_0_3c, Value.string t26_0_4, Value.slice t26_0_5A t26_0_5n t26_0_5c], Value.int .i64 t26_1] ∧
              ∀ (g_1 : Nat) (h_6 : Heap), h_5 g_1 = none → h_6 = Heap.put h_5 g_1 ⟨[Value.int .i64 l0, Value.bool l1, Value.slice l2A l2n l2c, Value.slice l3A l3n l3c, Value.string l4, Value.slice l5A l5n l5c, Value.int .i64 t26_0_0, Value.bool t26_0_1, Value.slice t26_0_2A t26_0_2n t26_0_2c, Value.slice t26_0_3A t26_0_3n t26_0_3c, Value.string t26_0_4, Value.slice t26_0_5A t26_0_5n t26_0_5c], 30, (0, 0)⟩ →
              ∃ m_1, m_1 < m + 1 ∧ Le (hole h g) (hole h_6 g) ∧ ((t26_1 ≠ 0 ∧ pProdL n x r1 = .error t26_1) ∨ (t26_1 = 0 ∧ m_1 ≤ n ∧ ∃ y r2, pProdL m_1 y r2 = pProdL n x r1 ∧ IsW (hole h_6 g) y [.int .i64 kd, .bool false, .slice none 0 0, .slice none 0 0, .string ByteArray.empty, .slice (some ⟨g_1, 0, none⟩) 2 2] ∧ Szs y ∧ Ps h_6 g l r2)) := by
            intro kd h3 hp3 ho3 htk heq
            refine (foTake_c hp3 (by omega)).mono ?_
            rintro _ h4 ⟨rfl, hp4, ho4⟩
            have ea : aft (skipS r2) = aft r2 := by unfold aft tk; rw [skip_skip]
            rw [ea] at hp4
            refine ⟨_, rfl, ?_⟩
            have hs2 := ih m (by omega) (r := aft r2) hp4 hl
            cases ho5 : pFac m (aft r2) with
            | error e =>
              rw [ho5] at heq hs2
              simp only at heq
              refine (hs2 (by intro q; rw [q] at heq; exact absurd heq.symm (by rw [hy] at hne; exact hne))).mono ?_
              rintro _ h5 ⟨hle5, he, rfl⟩
              refine ⟨_, _, _, _, _, _, _, _, _, _, _, _, _, rfl, ?_⟩
              rintro g1 _ hg1 rfl
              have hng : hole h5 g g1 = none := by
                unfold Go.Proofs.YtdpdaphholileaaGreatDoor.hole; split
                · rfl
                · exact hg1
              have hl5 : Le (hole h g) (hole h5 g) := (hle2.trans (by rw [← ho3, ← ho4]; exact hle5))
              refine ⟨m, by omega, ?_, Or.inl ⟨he, heq.symm⟩⟩
              by_cases e1 : g1 = g
              · subst e1; rw [hole_put]; exact hl5
              · rw [hole_put_ne _ _ e1]; exact hl5.trans (Le.new hng _)
            | ok p =>
              obtain ⟨z, r3⟩ := p
              rw [ho5] at heq hs2
              simp only at heq
              refine (hs2 (by intro q; cases q)).mono ?_
              rintro _ h5 ⟨hle5, vs5, rfl, uz, zz, hp5⟩
              have uz' := uz
              obtain ⟨s5, A5, c5, B5, d5, K5, kc5, rfl, _, _, _⟩ := uz'.open
              refine ⟨_, _, _, _, _, _, _, _, _, _, _, _, _, rfl, ?_⟩
              rintro g1 _ hg1 rfl
              have hgg : g1 ≠ g := fun e => by
                obtain ⟨_, _, _, hb⟩ := hp5
                rw [e, hb] at hg1; cases hg1
              have hng : hole h5 g g1 = none := by rw [hole_ne _ hgg]; exact hg1
              have hl25 : Le (hole h2 g) (hole h5 g) := by rw [← ho3, ← ho4]; exact hle5
              refine ⟨m, by omega, ?_, Or.inr ⟨rfl, by omega, op2 kd y z, r3, heq, ?_, Szs_two zy zz, ?_⟩⟩
              · rw [hole_put_ne _ _ hgg]
                exact (hle2.trans hl25).trans (Le.new hng _)
              · rw [hole_put_ne _ _ hgg]
                exact IsW_two htk.2 hng (IsW.mono hl25 _ _ uy) uz
              · obtain ⟨pre, ty, hlr, hb⟩ := hp5
                exact ⟨pre, ty, hlr, by rw [Heap.put_ne _ _ (fun e => hgg e.symm)]; exact hb⟩
          refine ⟨fun kd _ _ _ _ _ _ _ _ _ _ _ _ h3 => Ps h3 g l (skipS r2) ∧ hole h3 g = hole h2 g ∧ (tk r2 ≠ [] ∧ kd ≠ 1) ∧ (match pFac m (aft r2) with | .error e => .error e | .ok (z, r') => pProdL m (op2 kd y z) r') = pProdL n x r1, ?_, ?_⟩
          · rintro kd _ _ _ _ _ _ _ _ _ _ _ _ h3 ⟨a1, a2, a3, a4⟩
            exact go kd h3 a1 a2 a3 a4
          · refine (foNext_c hp2 (by omega)).mono ?_
            rintro _ h3 ⟨rfl, hp3, ho3⟩
            have b1 : (⟨#[42]⟩ : ByteArray).toList = [42] := bytes_toList _
            have b2 : (⟨#[47]⟩ : ByteArray).toList = [47] := bytes_toList _
            refine ⟨_, rfl, ?_⟩
            rw [bytes_toList, b1, b2]
            refine Br.mk (fun q1 => ?_) (fun q1 => Br.mk (fun q2 => ?_) (fun q2 => ?_))
            · have e1 := beq_iff_eq.1 q1
              rw [if_pos e1] at hy
              exact ⟨hp3, ho3, ⟨by rw [e1]; simp, by decide⟩, hy⟩
            · have e1 := beq_eq_false_iff_ne.1 q1
              have e2 := beq_iff_eq.1 q2
              rw [if_neg e1, if_pos e2] at hy
              exact ⟨hp3, ho3, ⟨by rw [e2]; simp, by decide⟩, hy⟩
            · have e1 := beq_eq_false_iff_ne.1 q1
              have e2 := beq_eq_false_iff_ne.1 q2
              rw [if_neg e1, if_neg e2] at hy
              rw [← hy]
              exact ⟨by rw [ho3]; exact hle2, _, rfl, by rw [ho3]; exact uy, zy, hp3⟩
    · rcases hcase with ⟨h0, hy⟩ | ⟨h0, _⟩
      · rw [hy]
        exact ⟨hle2, h0, rfl⟩
      · rw [h0] at q; exact absurd q (by decide)

theorem fnSum_step {n : Nat} (ih : ∀ k, k ≤ n → MOn 69 ptr (pProd k)) : MOn 41 ptr (pSum (n + 1)) := by
  intro h g l r u hl hne
  rw [pSum] at hne ⊢
  apply garment_formula_parser_sum_ok
  have hsub := ih n (Nat.le_refl _) (r := r) u hl
  cases ho : pProd n r with
  | error e =>
    rw [ho] at hne
    rw [ho] at hsub
    refine (hsub hne).mono ?_
    rintro _ h1 ⟨hle, he, rfl⟩
    refine ⟨_, _, _, _, _, _, _, _, _, _, _, _, _, rfl, fun m err _ _ _ _ _ _ _ _ _ _ _ _ _ _ _ _ _ _ _ _ _ _ _ _ h' => err = e ∧ h' = h1, ⟨0, rfl, rfl⟩, ?_⟩
    rintro m _ _ _ _ _ _ _ _ _ _ _ _ _ _ _ _ _ _ _ _ _ _ _ _ _ _ ⟨rfl, rfl⟩
    refine Br.mk (fun q => absurd (beq_iff_eq.1 q) he) (fun _ => ⟨hle, he, rfl⟩)
  | ok p =>
    obtain ⟨x, r1⟩ := p
    rw [ho] at hne
    rw [ho] at hsub
    simp only at hne ⊢
    refine (hsub (by intro q; cases q)).mono ?_
    rintro _ h1 ⟨hle, vs, rfl, ux, zx, hp⟩
    have ux' := ux
    obtain ⟨s0, A0, c0, B0, d0, K0, kc0, rfl, _, _, _⟩ := ux'.open
    refine ⟨_, _, _, _, _, _, _, _, _, _, _, _, _, rfl, fun m err _ _ _ _ _ _ _ _ _ _ _ _ l0 l1 l2A l2n l2c l3A l3n l3c l4 l5A l5n l5c h' => Le (hole h g) (hole h' g) ∧ ((err ≠ 0 ∧ pSumL n x r1 = .error err) ∨ (err = 0 ∧ m ≤ n ∧ ∃ y r2, pSumL m y r2 = pSumL n x r1 ∧ IsW (hole h' g) y [.int .i64 l0, .bool l1, .slice l2A l2n l2c, .slice l3A l3n l3c, .string l4, .slice l5A l5n l5c] ∧ Szs y ∧ Ps h' g l r2)), ⟨n, hle, Or.inr ⟨rfl, Nat.le_refl _, x, r1, rfl, ux, zx, hp⟩⟩, ?_⟩
    rintro m err _ _ _ _ _ _ _ _ _ _ _ _ l0 l1 l2A l2n l2c l3A l3n l3c l4 l5A l5n l5c h2 ⟨hle2, hcase⟩
    refine Br.mk (fun q => ?_) (fun q => ?_)
    · rcases hcase with ⟨h0, _⟩ | ⟨_, hm, y, r2, hy, uy, zy, hp2⟩
      · exact absurd (beq_iff_eq.1 q) h0
      · cases m with
        | zero => rw [pSumL] at hy; exact absurd hy.symm hne
        | succ m =>
          rw [← hy] at hne
          rw [pSumL] at hy hne
          have go : ∀ (kd : Int) (h3 : Heap), Ps h3 g l (skipS r2) → hole h3 g = hole h2 g → (tk r2 ≠ [] ∧ kd ≠ 1) → (match pProd m (aft r2) with | .error e => .error e | .ok (z, r') => pSumL m (op2 kd y z) r') = pSumL n x r1 →
            CallsU Tryz.prog 70 (ptr g) h3 fun v_1 h_4 =>
              ∃ t23 : ByteArray, v_1 = Value.string t23 ∧
              CallsU Tryz.prog 69 (ptr g) h_4 fun v_2 h_5 =>
              ∃ t26_0_0 : Int, ∃ t26_0_1 : Bool, ∃ t26_0_2A : Option Addr, ∃ t26_0_2n t26_0_2c : Nat, ∃ t26_0_3A : Option Addr, ∃ t26_0_3n t26_0_3c : Nat, ∃ t26_0_4 : ByteArray, ∃ t26_0_5A : Option Addr, ∃ t26_0_5n t26_0_5c : Nat, ∃ t26_1 : Int, v_2 = Value.tuple #[Value.agg #[Value.int .i64 t26_0_0, Value.bool t26_0_1, Value.slice t26_0_2A t26_0_2n t26_0_2c, Value.slice t26_0_3A t26_0_3n t26_0_3c, Value.string t26_0_4, Value.slice t26_0_5A t26_0_5n t26_0_5c], Value.int .i64 t26_1] ∧
              ∀ (g_1 : Nat) (h_6 : Heap), h_5 g_1 = none → h_6 = Heap.put h_5 g_1 ⟨[Value.int .i64 l0, Value.bool l1, Value.slice l2A l2n l2c, Value.slice l3A l3n l3c, Value.string l4, Value.slice l5A l5n l5c, Value.int .i64 t26_0_0, Value.bool t26_0_1, Value.slice t26_0_2A t26_0_2n t26_0_2c, Value.slice t26_0_3A t26_0_3n t26_0_3c, Value.string t26_0_4, Value.slice t26_0_5A t26_0_5n t26_0_5c], 30, (0, 0)⟩ →
              ∃ m_1, m_1 < m + 1 ∧ Le (hole h g) (hole h_6 g) ∧ ((t26_1 ≠ 0 ∧ pSumL n x r1 = .error t26_1) ∨ (t26_1 = 0 ∧ m_1 ≤ n ∧ ∃ y r2, pSumL m_1 y r2 = pSumL n x r1 ∧ IsW (hole h_6 g) y [.int .i64 kd, .bool false, .slice none 0 0, .slice none 0 0, .string ByteArray.empty, .slice (some ⟨g_1, 0, none⟩) 2 2] ∧ Szs y ∧ Ps h_6 g l r2)) := by
            intro kd h3 hp3 ho3 htk heq
            refine (foTake_c hp3 (by omega)).mono ?_
            rintro _ h4 ⟨rfl, hp4, ho4⟩
            have ea : aft (skipS r2) = aft r2 := by unfold aft tk; rw [skip_skip]
            rw [ea] at hp4
            refine ⟨_, rfl, ?_⟩
            have hs2 := ih m (by omega) (r := aft r2) hp4 hl
            cases ho5 : pProd m (aft r2) with
            | error e =>
              rw [ho5] at heq hs2
              simp only at heq
              refine (hs2 (by intro q; rw [q] at heq; exact absurd heq.symm (by rw [hy] at hne; exact hne))).mono ?_
              rintro _ h5 ⟨hle5, he, rfl⟩
              refine ⟨_, _, _, _, _, _, _, _, _, _, _, _, _, rfl, ?_⟩
              rintro g1 _ hg1 rfl
              have hng : hole h5 g g1 = none := by
                unfold Go.Proofs.YtdpdaphholileaaGreatDoor.hole; split
                · rfl
                · exact hg1
              have hl5 : Le (hole h g) (hole h5 g) := (hle2.trans (by rw [← ho3, ← ho4]; exact hle5))
              refine ⟨m, by omega, ?_, Or.inl ⟨he, heq.symm⟩⟩
              by_cases e1 : g1 = g
              · subst e1; rw [hole_put]; exact hl5
              · rw [hole_put_ne _ _ e1]; exact hl5.trans (Le.new hng _)
            | ok p =>
              obtain ⟨z, r3⟩ := p
              rw [ho5] at heq hs2
              simp only at heq
              refine (hs2 (by intro q; cases q)).mono ?_
              rintro _ h5 ⟨hle5, vs5, rfl, uz, zz, hp5⟩
              have uz' := uz
              obtain ⟨s5, A5, c5, B5, d5, K5, kc5, rfl, _, _, _⟩ := uz'.open
              refine ⟨_, _, _, _, _, _, _, _, _, _, _, _, _, rfl, ?_⟩
              rintro g1 _ hg1 rfl
              have hgg : g1 ≠ g := fun e => by
                obtain ⟨_, _, _, hb⟩ := hp5
                rw [e, hb] at hg1; cases hg1
              have hng : hole h5 g g1 = none := by rw [hole_ne _ hgg]; exact hg1
              have hl25 : Le (hole h2 g) (hole h5 g) := by rw [← ho3, ← ho4]; exact hle5
              refine ⟨m, by omega, ?_, Or.inr ⟨rfl, by omega, op2 kd y z, r3, heq, ?_, Szs_two zy zz, ?_⟩⟩
              · rw [hole_put_ne _ _ hgg]
                exact (hle2.trans hl25).trans (Le.new hng _)
              · rw [hole_put_ne _ _ hgg]
                exact IsW_two htk.2 hng (IsW.mono hl25 _ _ uy) uz
              · obtain ⟨pre, ty, hlr, hb⟩ := hp5
                exact ⟨pre, ty, hlr, by rw [Heap.put_ne _ _ (fun e => hgg e.symm)]; exact hb⟩
          refine ⟨fun kd _ _ _ _ _ _ _ _ _ _ _ _ h3 => Ps h3 g l (skipS r2) ∧ hole h3 g = hole h2 g ∧ (tk r2 ≠ [] ∧ kd ≠ 1) ∧ (match pProd m (aft r2) with | .error e => .error e | .ok (z, r') => pSumL m (op2 kd y z) r') = pSumL n x r1, ?_, ?_⟩
          · rintro kd _ _ _ _ _ _ _ _ _ _ _ _ h3 ⟨a1, a2, a3, a4⟩
            exact go kd h3 a1 a2 a3 a4
          · refine (foNext_c hp2 (by omega)).mono ?_
            rintro _ h3 ⟨rfl, hp3, ho3⟩
            have b1 : (⟨#[43]⟩ : ByteArray).toList = [43] := bytes_toList _
            have b2 : (⟨#[45]⟩ : ByteArray).toList = [45] := bytes_toList _
            refine ⟨_, rfl, ?_⟩
            rw [bytes_toList, b1, b2]
            refine Br.mk (fun q1 => ?_) (fun q1 => Br.mk (fun q2 => ?_) (fun q2 => ?_))
            · have e1 := beq_iff_eq.1 q1
              rw [if_pos e1] at hy
              exact ⟨hp3, ho3, ⟨by rw [e1]; simp, by decide⟩, hy⟩
            · have e1 := beq_eq_false_iff_ne.1 q1
              have e2 := beq_iff_eq.1 q2
              rw [if_neg e1, if_pos e2] at hy
              exact ⟨hp3, ho3, ⟨by rw [e2]; simp, by decide⟩, hy⟩
            · have e1 := beq_eq_false_iff_ne.1 q1
              have e2 := beq_eq_false_iff_ne.1 q2
              rw [if_neg e1, if_neg e2] at hy
              rw [← hy]
              exact ⟨by rw [ho3]; exact hle2, _, rfl, by rw [ho3]; exact uy, zy, hp3⟩
    · rcases hcase with ⟨h0, hy⟩ | ⟨h0, _⟩
      · rw [hy]
        exact ⟨hle2, h0, rfl⟩
      · rw [h0] at q; exact absurd q (by decide)

/-- The kids of a call, while they grow. -/
def KN (h0 h : Heap) (g : Nat) (A : Option Addr) (n c : Nat) (es : List Ex) : Prop :=
  es.length = n ∧ SzsL es ∧ ((A = none ∧ n = 0 ∧ c = 0) ∨ ∃ gk cs, h0 gk = none ∧ gk ≠ g ∧ A = some ⟨gk, 0, none⟩ ∧ h gk = some ⟨cs, 30, (0, 0)⟩ ∧ cs.length = 6 * c ∧ n ≤ c ∧ IsWs (hole (hole h g) gk) es cs)

theorem IsWs.take {h : Heap} : ∀ {es : List Ex} {cs : List Value}, IsWs h es cs → IsWs h es (cs.take (6 * es.length))
  | [], cs, _ => by unfold IsWs; trivial
  | e :: es, cs, u => by
    unfold IsWs at u ⊢
    rw [List.length_cons, show 6 * (es.length + 1) = 6 + 6 * es.length by omega]
    refine ⟨by rw [List.take_take, Nat.min_eq_left (by omega)]; exact u.1, ?_⟩
    rw [List.drop_take, show 6 + 6 * es.length - 6 = 6 * es.length by omega]
    exact IsWs.take u.2

/-- The next kid, apart from those that are there. -/
theorem fnKid_c {n : Nat} (ih : MOn 41 ptr (pSum n)) {h : Heap} {g : Nat} {l r : List UInt8} (h0 : Heap) (A : Option Addr) (k c : Nat) (es : List Ex) (u : Ps h g l r) (hl : l.length ≤ 400) (hne : pSum n r ≠ .error 99) (ko : KN h0 h g A k c es) :
    CallsU Tryz.prog 41 (ptr g) h fun v h' => Le (hole h g) (hole h' g) ∧ match pSum n r with
      | .error e => e ≠ 0 ∧ v = .tuple #[.agg zE.toArray, .int .i64 e]
      | .ok (x, rest) => ∃ vs : List Value, v = .tuple #[.agg vs.toArray, .int .i64 0] ∧ IsW (cutA (hole h' g) A) x vs ∧ Szs x ∧ Ps h' g l rest ∧ KN h0 h' g A k c es := by
  obtain ⟨k1, k2, k3⟩ := ko
  rcases k3 with ⟨rfl, rfl, rfl⟩ | ⟨gk, cs, hg0, hgk, rfl, hb, hcl, hkc, hes⟩
  · refine (ih u hl hne).mono ?_
    rintro v h' ⟨hle, hm⟩
    refine ⟨hle, ?_⟩
    cases ho : pSum n r with
    | error e => rw [ho] at hm; exact hm
    | ok p =>
      obtain ⟨x, r'⟩ := p
      rw [ho] at hm
      obtain ⟨vs, hv, ux, zx, hp⟩ := hm
      exact ⟨vs, hv, ux, zx, hp, k1, k2, Or.inl ⟨rfl, rfl, rfl⟩⟩
  · have u0 : Ps (hole h gk) g l r := by
      obtain ⟨pre, ty, e1, e2⟩ := u
      exact ⟨pre, ty, e1, by rw [hole_ne _ (fun e => hgk e.symm)]; exact e2⟩
    have fr := (ih u0 hl hne).frame (g := gk) (b := ⟨cs, 30, (0, 0)⟩) (hole_at h gk)
    rw [put_hole hb] at fr
    refine fr.mono ?_
    rintro v _ ⟨h1, ⟨hle, hm⟩, h1k, rfl⟩
    have hx : hole (h1.put gk ⟨cs, 30, (0, 0)⟩) g = (hole h1 g).put gk ⟨cs, 30, (0, 0)⟩ := hole_put_ne _ _ hgk
    have h1n : hole h1 g gk = none := by rw [hole_ne _ hgk]; exact h1k
    have hcut : hole ((hole h1 g).put gk ⟨cs, 30, (0, 0)⟩) gk = hole h1 g := by rw [hole_put, hole_none h1n]
    refine ⟨?_, ?_⟩
    · rw [hx]
      intro j b hj
      by_cases e : j = gk
      · subst e
        rw [hole_ne _ hgk, hb] at hj
        cases hj
        rw [Heap.put_same]
      · rw [Heap.put_ne _ _ e]
        apply hle
        by_cases e2 : j = g
        · subst e2; rw [hole_at] at hj; cases hj
        · rw [hole_ne _ e2] at hj ⊢
          rw [hole_ne _ e]; exact hj
    · cases ho : pSum n r with
      | error e => rw [ho] at hm; exact hm
      | ok p =>
        obtain ⟨x, r'⟩ := p
        rw [ho] at hm
        obtain ⟨vs, hv, ux, zx, hp⟩ := hm
        refine ⟨vs, hv, ?_, zx, ?_, k1, k2, Or.inr ⟨gk, cs, hg0, hgk, rfl, Heap.put_same _ _ _, hcl, hkc, ?_⟩⟩
        · show IsW (hole (hole (h1.put gk _) g) gk) x vs
          rw [hx, hcut]; exact ux
        · obtain ⟨pre, ty, e1, e2⟩ := hp
          exact ⟨pre, ty, e1, by rw [Heap.put_ne _ _ (fun e => hgk e.symm)]; exact e2⟩
        · rw [hx, hcut]
          refine IsWs.mono ?_ _ _ hes
          rw [hole_comm]; exact hle

theorem fnCall_step {n : Nat} (kd : Int) (hkd : kd ≠ 1) (ih : ∀ k, k ≤ n → MOn 41 ptr (pSum k)) : MOn 164 (fun g => [.pointer (some ⟨g, 0, none⟩), .int .i64 kd]) (pCall (n + 1) kd) := by
  intro h g l r u hl hne
  rw [pCall] at hne ⊢
  apply garment_formula_parser_call_ok
  refine (foExpect_c [40] u (by omega)).mono ?_
  rintro _ h1 ⟨rfl, hp, ho⟩
  refine ⟨_, rfl, Br.mk (fun q => ?_) (fun q => ?_)⟩
  · have h0 : expV [40] r ≠ 0 := by simpa using q
    rw [if_neg h0]
    exact ⟨by rw [ho]; exact Le.refl _, h0, rfl⟩
  · have h0 : expV [40] r = 0 := by simpa using q
    rw [if_pos h0] at hne ⊢
    generalize hr : aft r = r1 at *
    refine ⟨fun m A k c _ _ _ _ _ _ _ _ _ _ _ _ h' => ∃ es r2, m ≤ n ∧ pCallL m kd es r2 = pCallL n kd [] r1 ∧ KN h h' g A k c es ∧ k < 8 ∧ Ps h' g l r2 ∧ Le (hole h g) (hole h' g), ⟨n, [], r1, Nat.le_refl _, rfl, ⟨rfl, by unfold SzsL; trivial, Or.inl ⟨rfl, rfl, rfl⟩⟩, by omega, hp, by rw [ho]; exact Le.refl _⟩, ?_⟩
    rintro m A k c _ _ _ _ _ _ _ _ _ _ _ _ h2 ⟨es, r2, hm, heq, ko, hk8, hp2, hle2⟩
    cases m with
    | zero => rw [pCallL] at heq; exact absurd heq.symm hne
    | succ m =>
      rw [← heq] at hne
      rw [pCallL] at heq hne
      have kc := fnKid_c (ih m (by omega)) (r := r2) h A k c es hp2 hl
      cases ho5 : pSum m r2 with
      | error e =>
        rw [ho5] at heq hne kc
        simp only at heq hne
        refine (kc hne ko).mono ?_
        rintro _ h3 ⟨hle3, he, rfl⟩
        refine ⟨_, _, _, _, _, _, _, _, _, _, _, _, _, rfl, Br.mk (fun _ => ?_) (fun q => by rw [bne_eq_false_iff_eq] at q; exact absurd q he)⟩
        rw [← heq]
        exact ⟨hle2.trans hle3, he, rfl⟩
      | ok p =>
        obtain ⟨x, r3⟩ := p
        rw [ho5] at heq hne kc
        simp only at heq hne
        refine (kc (by intro q; cases q) ko).mono ?_
        rintro _ h3 ⟨hle3, vs, rfl, ux, zx, hp3, ko3⟩
        have ux' := ux
        have hvl := ux.len
        obtain ⟨s3, A3, c3, B3, d3, K3, kc3, hvs, _, _, _⟩ := ux'.open
        subst hvs
        refine ⟨_, _, _, _, _, _, _, _, _, _, _, _, _, rfl, Br.mk (fun q => by exact absurd q (by decide)) (fun _ => ?_)⟩
        refine ⟨fun A' k' c' h' => KN h h' g A' k' c' (es ++ [x]) ∧ k' = k + 1 ∧ Ps h' g l r3 ∧ Le (hole h g) (hole h' g) ∧ A' ≠ none, ?_, ?_⟩
        · rintro A' k' c' h4 ⟨ko4, rfl, hp4, hle4, hA'⟩
          refine (foTake_c hp4 (by omega)).mono ?_
          rintro _ h5 ⟨rfl, hp5, ho5⟩
          have hle5 : Le (hole h g) (hole h5 g) := by rw [ho5]; exact hle4
          have b1 : (⟨#[41]⟩ : ByteArray).toList = [41] := bytes_toList _
          have b2 : (⟨#[44]⟩ : ByteArray).toList = [44] := bytes_toList _
          have b0 : (⟨#[]⟩ : ByteArray).toList = [] := bytes_toList []
          have hlen := ko4.1
          rw [List.length_append, List.length_singleton] at hlen
          have ko5 : KN h h5 g A' (k + 1) c' (es ++ [x]) := by
            obtain ⟨a1, a2, a3⟩ := ko4
            refine ⟨a1, a2, ?_⟩
            rcases a3 with a3 | ⟨gk, cs, b0', b1, b2, b3, b4, b5, b6⟩
            · exact Or.inl a3
            · refine Or.inr ⟨gk, cs, b0', b1, b2, ?_, b4, b5, by rw [ho5]; exact b6⟩
              have := congrFun ho5 gk
              rw [hole_ne _ b1, hole_ne _ b1] at this
              rw [this]; exact b3
          refine ⟨_, rfl, ?_⟩
          rw [bytes_toList, b1, b2, b0]
          refine Br.mk (fun q1 => ?_) (fun q1 => Br.mk (fun q2 => ?_) (fun q2 => Br.mk (fun q3 => ?_) (fun q3 => Br.mk (fun q4 => ?_) (fun q4 => ?_))))
          · rw [if_pos (beq_iff_eq.1 q1)] at heq
            rw [← heq]
            obtain ⟨a1, a2, a3⟩ := ko5
            rcases a3 with ⟨a3, _⟩ | ⟨gk, cs, b0', b1, b2, b3, b4, b5, b6⟩
            · exact absurd a3 hA'
            · subst b2
              refine ⟨hle5, _, rfl, ?_, ?_, hp5⟩
              · have e1 := IsW_op (h := hole h5 g) (k := kd) hkd (es := es ++ [x]) (gk := gk) (c := c') (ty := 30) (cs := cs) (by rw [hole_ne _ b1]; exact b3) (by omega) (by omega) (IsWs.mono (hole_le _ _) _ _ b6)
                rw [a1] at e1
                exact e1
              · unfold Szs
                exact ⟨by omega, by omega, by simp, by omega, a2⟩
          · rw [if_neg (beq_eq_false_iff_ne.1 q1), if_pos (beq_iff_eq.1 q2)] at heq
            rw [← heq]
            exact ⟨hle5, by decide, rfl⟩
          · have h3 : tk r3 ≠ [44] := by simpa using q3
            rw [if_neg (beq_eq_false_iff_ne.1 q1), if_neg (beq_eq_false_iff_ne.1 q2), if_pos h3] at heq
            rw [← heq]
            exact ⟨hle5, by decide, rfl⟩
          · have h3 : tk r3 = [44] := by simpa using q3
            have h4 : es.length + 1 = 8 := by have := beq_iff_eq.1 q4; omega
            rw [if_neg (beq_eq_false_iff_ne.1 q1), if_neg (beq_eq_false_iff_ne.1 q2), if_neg (by simp [h3]), if_pos h4] at heq
            rw [← heq]
            exact ⟨hle5, by decide, rfl⟩
          · have h3 : tk r3 = [44] := by simpa using q3
            have h4 : es.length + 1 ≠ 8 := by have := beq_eq_false_iff_ne.1 q4; omega
            rw [if_neg (beq_eq_false_iff_ne.1 q1), if_neg (beq_eq_false_iff_ne.1 q2), if_neg (by simp [h3]), if_neg h4] at heq
            exact ⟨m, by omega, es ++ [x], aft r3, by omega, heq, ko5, by omega, hp5, hle5⟩
        · rintro g6 _ hg6 rfl
          obtain ⟨a1, a2, a3⟩ := ko3
          have hgg : g6 ≠ g := fun e => by
            obtain ⟨_, _, _, hb⟩ := hp3
            rw [e, hb] at hg6; cases hg6
          refine ⟨cellsE x.kind s3 A3 x.ln c3 B3 x.lm d3 x.name K3 x.kids.length kc3, ⟨rfl, fun _ => ⟨_, rfl, rfl, _, Heap.put_same _ _ _, rfl⟩⟩, ?_, ?_, ?_⟩
          · intro y hy
            simp only [cellsE, List.mem_cons, List.not_mem_nil, or_false] at hy
            rcases hy with rfl | rfl | rfl | rfl | rfl | rfl <;> rfl
          · intro hcap
            rcases a3 with ⟨_, _, rfl⟩ | ⟨gk, cs, b0', b1, rfl, b3, b4, b5, b6⟩
            · omega
            · have hg6k : g6 ≠ gk := fun e => by rw [e, b3] at hg6; cases hg6
              refine ⟨_, _, rfl, rfl, by rw [Heap.put_ne _ _ (fun e => hg6k e.symm)]; exact b3, rfl, by simp only; omega, ?_⟩
              rintro _ rfl
              have hx1 : ∀ B6 B7 : Blk, hole ((h3.put g6 B6).put gk B7) g = ((hole h3 g).put g6 B6).put gk B7 := fun B6 B7 => by
                rw [hole_put_ne _ _ b1, hole_put_ne _ _ hgg]
              have hn6 : hole h3 g g6 = none := by rw [hole_ne _ hgg]; exact hg6
              refine ⟨⟨by rw [List.length_append]; simp; omega, SzsL.snoc a2 zx, Or.inr ⟨gk, setSeg cs (0 + k * 6) (cellsE x.kind s3 A3 x.ln c3 B3 x.lm d3 x.name K3 x.kids.length kc3), b0', b1, rfl, Heap.put_same _ _ _, ?_, hcap, ?_⟩⟩, rfl, ?_, ?_, by simp⟩
              · unfold setSeg
                rw [List.length_append, List.length_append, List.length_take, List.length_drop, cellsE_len]
                omega
              · refine IsWs.mono (h := (hole (hole h3 g) gk).put g6 ⟨cellsE x.kind s3 A3 x.ln c3 B3 x.lm d3 x.name K3 x.kids.length kc3, 30, (0, 0)⟩) ?_ _ _ ?_
                · rw [hx1, hole_put, hole_put_ne _ _ hg6k]
                  exact Le.refl _
                · have hn7 : hole (hole h3 g) gk g6 = none := by rw [hole_ne _ hg6k]; exact hn6
                  have l7 := Le.new hn7 ⟨cellsE x.kind s3 A3 x.ln c3 B3 x.lm d3 x.name K3 x.kids.length kc3, 30, (0, 0)⟩
                  have := IsWs.snoc (rest := cs.drop (0 + k * 6 + (cellsE x.kind s3 A3 x.ln c3 B3 x.lm d3 x.name K3 x.kids.length kc3).length)) (IsWs.mono l7 _ _ b6) (by omega) (IsW.mono l7 _ _ ux)
                  unfold setSeg
                  rw [show 0 + k * 6 = 6 * es.length by omega] at this ⊢
                  exact this
              · obtain ⟨pre, ty, e1, e2⟩ := hp3
                exact ⟨pre, ty, e1, by rw [Heap.put_ne _ _ (fun e => b1 e.symm), Heap.put_ne _ _ (fun e => hgg e.symm)]; exact e2⟩
              · rw [hx1]
                refine Le.put ?_ (by rw [hole_ne _ b1]; exact b0') _
                exact (hle2.trans hle3).trans (Le.new hn6 _)
          · intro hcap
            have hn6 : hole h3 g g6 = none := by rw [hole_ne _ hgg]; exact hg6
            have hk6 : k * 6 = 6 * es.length := by omega
            have holds : ∃ olds : List Value, RdS (h3.put g6 ⟨cellsE x.kind s3 A3 x.ln c3 B3 x.lm d3 x.name K3 x.kids.length kc3, 30, (0, 0)⟩) A (k * 6) olds ∧ IsWs (hole h3 g) es olds ∧ olds.length = 6 * es.length := by
              rcases a3 with ⟨rfl, rfl, rfl⟩ | ⟨gk, cs, b0', b1, rfl, b3, b4, b5, b6⟩
              · have : es = [] := List.length_eq_zero_iff.1 a1
                subst this
                exact ⟨[], ⟨rfl, fun q => absurd q (by decide)⟩, by unfold IsWs; trivial, rfl⟩
              · have hg6k : g6 ≠ gk := fun e => by rw [e, b3] at hg6; cases hg6
                refine ⟨cs.take (6 * es.length), ⟨by rw [List.length_take]; omega, fun _ => ⟨_, rfl, rfl, _, by rw [Heap.put_ne _ _ (fun e => hg6k e.symm)]; exact b3, ?_⟩⟩, ?_, by rw [List.length_take]; omega⟩
                · simp only [List.drop_zero, List.length_take]
                  congr 1
                  omega
                · exact IsWs.take (IsWs.mono (hole_le _ _) _ _ b6)
            obtain ⟨olds, hrd, hes, hol⟩ := holds
            refine ⟨olds, hrd, by omega, ?_⟩
            rintro g7 cap _ hg7 hcap7 rfl
            have hg76 : g7 ≠ g6 := fun e => by rw [e, Heap.put_same] at hg7; cases hg7
            rw [Heap.put_ne _ _ hg76] at hg7
            have hgg7 : g7 ≠ g := fun e => by
              obtain ⟨_, _, _, hb⟩ := hp3
              rw [e, hb] at hg7; cases hg7
            have h07 : h g7 = none := by
              cases hh : h g7 with
              | none => rfl
              | some bb =>
                have := (hle2.trans hle3) g7 bb (by rw [hole_ne _ hgg7]; exact hh)
                rw [hole_ne _ hgg7, hg7] at this
                cases this
            have hx1 : ∀ B6 B7 : Blk, hole ((h3.put g6 B6).put g7 B7) g = ((hole h3 g).put g6 B6).put g7 B7 := fun B6 B7 => by
              rw [hole_put_ne _ _ hgg7, hole_put_ne _ _ hgg]
            refine ⟨⟨by rw [List.length_append]; simp; omega, SzsL.snoc a2 zx, Or.inr ⟨g7, _, h07, hgg7, rfl, Heap.put_same _ _ _, ?_, hcap7, ?_⟩⟩, rfl, ?_, ?_, by simp⟩
            · rw [List.length_append, List.length_append, hol, cellsE_len, repV_six]
              omega
            · rw [hx1, hole_put, hole_none (by rw [Heap.put_ne _ _ hg76, hole_ne _ hgg7]; exact hg7)]
              have l7 := Le.new hn6 ⟨cellsE x.kind s3 A3 x.ln c3 B3 x.lm d3 x.name K3 x.kids.length kc3, 30, (0, 0)⟩
              have := IsWs.snoc (rest := repV zE (cap - (k + 1))) (IsWs.mono l7 _ _ hes) (by omega) (IsW.mono (cutA_le _ _) _ _ ux |> IsW.mono l7 _ _)
              rw [List.take_of_length_le (by omega)] at this
              exact this
            · obtain ⟨pre, ty, e1, e2⟩ := hp3
              exact ⟨pre, ty, e1, by rw [Heap.put_ne _ _ (fun e => hgg7 e.symm), Heap.put_ne _ _ (fun e => hgg e.symm)]; exact e2⟩
            · rw [hx1]
              refine Le.put ?_ (by rw [hole_ne _ hgg7]; exact h07) _
              exact (hle2.trans hle3).trans (Le.new hn6 _)

/-- A factor. -/
theorem fnFac_step {n : Nat} (ihF : MOn 120 ptr (pFac n)) (ihS : MOn 41 ptr (pSum n)) (ihC : ∀ kd : Int, kd ≠ 1 → MOn 164 (fun g => [.pointer (some ⟨g, 0, none⟩), .int .i64 kd]) (pCall n kd)) : MOn 120 ptr (pFac (n + 1)) := by
  intro h g l r u hl hne
  rw [pFac] at hne ⊢
  apply garment_formula_parser_factor_ok
  refine (foTake_c u (by omega)).mono ?_
  rintro _ h1 ⟨rfl, hp, ho⟩
  have hle1 : Le (hole h g) (hole h1 g) := by rw [ho]; exact Le.refl _
  have b0 : (⟨#[]⟩ : ByteArray).toList = [] := bytes_toList []
  have b1 : (⟨#[45]⟩ : ByteArray).toList = [45] := bytes_toList _
  have b2 : (⟨#[40]⟩ : ByteArray).toList = [40] := bytes_toList _
  have b3 : (⟨#[109, 105, 110]⟩ : ByteArray).toList = [109, 105, 110] := bytes_toList _
  have b4 : (⟨#[109, 97, 120]⟩ : ByteArray).toList = [109, 97, 120] := bytes_toList _
  refine ⟨_, rfl, ?_⟩
  rw [bytes_toList, b0, b1, b2, b3, b4]
  refine Br.mk (fun q0 => ?_) (fun q0 => ?_)
  · rw [if_pos (beq_iff_eq.1 q0)]
    exact ⟨hle1, by decide, rfl⟩
  rw [if_neg (beq_eq_false_iff_ne.1 q0)] at hne ⊢
  refine Br.mk (fun q1 => ?_) (fun q1 => ?_)
  · rw [if_pos (beq_iff_eq.1 q1)] at hne ⊢
    have hs := ihF hp hl
    cases hoo : pFac n (aft r) with
    | error e =>
      rw [hoo] at hne hs
      simp only at hne
      refine (hs hne).mono ?_
      rintro _ h2 ⟨hle2, he, rfl⟩
      refine ⟨_, _, _, _, _, _, _, _, _, _, _, _, _, rfl, Br.mk (fun _ => ⟨hle1.trans hle2, he, rfl⟩) (fun q => by rw [bne_eq_false_iff_eq] at q; exact absurd q he)⟩
    | ok p =>
      obtain ⟨x, r'⟩ := p
      rw [hoo] at hne hs
      simp only at hne
      refine (hs (by intro q; cases q)).mono ?_
      rintro _ h2 ⟨hle2, vs, rfl, ux, zx, hp2⟩
      have ux' := ux
      obtain ⟨s3, A3, c3, B3, d3, K3, kc3, rfl, _, _, _⟩ := ux'.open
      refine ⟨_, _, _, _, _, _, _, _, _, _, _, _, _, rfl, Br.mk (fun q => by exact absurd q (by decide)) (fun _ => ?_)⟩
      rintro g1 _ hg1 rfl
      have hgg : g1 ≠ g := fun e => by
        obtain ⟨_, _, _, hb⟩ := hp2
        rw [e, hb] at hg1; cases hg1
      have hng : hole h2 g g1 = none := by rw [hole_ne _ hgg]; exact hg1
      refine ⟨?_, _, rfl, ?_, ?_, ?_⟩
      · rw [hole_put_ne _ _ hgg]
        exact (hle1.trans hle2).trans (Le.new hng _)
      · rw [hole_put_ne _ _ hgg]
        refine IsW_op (by decide) (es := [x]) (Heap.put_same _ _ _) (by simp) (by simp) ?_
        unfold IsWs
        exact ⟨IsW.mono (Le.new hng _) _ _ ux, by unfold IsWs; trivial⟩
      · unfold Szs SzsL SzsL
        exact ⟨by omega, by omega, by simp, by simp, zx, trivial⟩
      · obtain ⟨pre, ty, hlr, hb⟩ := hp2
        exact ⟨pre, ty, hlr, by rw [Heap.put_ne _ _ (fun e => hgg e.symm)]; exact hb⟩
  rw [if_neg (beq_eq_false_iff_ne.1 q1)] at hne ⊢
  refine Br.mk (fun q2 => ?_) (fun q2 => ?_)
  · rw [if_pos (beq_iff_eq.1 q2)] at hne ⊢
    have hs := ihS hp hl
    cases hoo : pSum n (aft r) with
    | error e =>
      rw [hoo] at hne hs
      simp only at hne
      refine (hs hne).mono ?_
      rintro _ h2 ⟨hle2, he, rfl⟩
      refine ⟨_, _, _, _, _, _, _, _, _, _, _, _, _, rfl, Br.mk (fun q => absurd (beq_iff_eq.1 q) he) (fun _ => Br.mk (fun _ => ⟨hle1.trans hle2, he, rfl⟩) (fun q => by rw [bne_eq_false_iff_eq] at q; exact absurd q he))⟩
    | ok p =>
      obtain ⟨x, r'⟩ := p
      rw [hoo] at hne hs
      simp only at hne
      refine (hs (by intro q; cases q)).mono ?_
      rintro _ h2 ⟨hle2, vs, rfl, ux, zx, hp2⟩
      have ux' := ux
      obtain ⟨s3, A3, c3, B3, d3, K3, kc3, rfl, _, _, _⟩ := ux'.open
      refine ⟨_, _, _, _, _, _, _, _, _, _, _, _, _, rfl, Br.mk (fun _ => ?_) (fun q => by exact absurd q (by decide))⟩
      refine (foExpect_c [41] hp2 (by omega)).mono ?_
      rintro _ h3 ⟨rfl, hp3, ho3⟩
      have hle3 : Le (hole h g) (hole h3 g) := by rw [ho3]; exact hle1.trans hle2
      simp only
      refine ⟨_, rfl, Br.mk (fun q => ?_) (fun q => ?_)⟩
      · have h0 : expV [41] r' ≠ 0 := by simpa using q
        rw [if_neg h0]
        exact ⟨hle3, h0, rfl⟩
      · have h0 : expV [41] r' = 0 := by simpa using q
        rw [if_pos h0]
        exact ⟨hle3, _, rfl, by rw [ho3]; exact ux, zx, hp3⟩
  rw [if_neg (beq_eq_false_iff_ne.1 q2)] at hne ⊢
  have call : ∀ kd : Int, kd ≠ 1 → pCall n kd (aft r) ≠ .error 99 → CallsU Tryz.prog 164 [.pointer (some ⟨g, 0, none⟩), .int .i64 kd] h1 fun v_4 h_6 =>
      ∃ t63_0_0 : Int, ∃ t63_0_1 : Bool, ∃ t63_0_2A : Option Addr, ∃ t63_0_2n t63_0_2c : Nat, ∃ t63_0_3A : Option Addr, ∃ t63_0_3n t63_0_3c : Nat, ∃ t63_0_4 : ByteArray, ∃ t63_0_5A : Option Addr, ∃ t63_0_5n t63_0_5c : Nat, ∃ t63_1 : Int, v_4 = Value.tuple #[Value.agg #[Value.int .i64 t63_0_0, Value.bool t63_0_1, Value.slice t63_0_2A t63_0_2n t63_0_2c, Value.slice t63_0_3A t63_0_3n t63_0_3c, Value.string t63_0_4, Value.slice t63_0_5A t63_0_5n t63_0_5c], Value.int .i64 t63_1] ∧
      PaN (pCall n kd (aft r)) g l h (Value.tuple #[Value.agg #[Value.int .i64 t63_0_0, Value.bool t63_0_1, Value.slice t63_0_2A t63_0_2n t63_0_2c, Value.slice t63_0_3A t63_0_3n t63_0_3c, Value.string t63_0_4, Value.slice t63_0_5A t63_0_5n t63_0_5c], Value.int .i64 t63_1]) h_6 := by
    intro kd hkd hne2
    refine ((ihC kd hkd) hp hl hne2).mono ?_
    intro v h2 hP
    cases hoo : pCall n kd (aft r) with
    | error e =>
      rw [hoo] at hP
      obtain ⟨hle2, he, rfl⟩ := hP
      exact ⟨_, _, _, _, _, _, _, _, _, _, _, _, _, rfl, hle1.trans hle2, he, rfl⟩
    | ok p =>
      obtain ⟨x, r'⟩ := p
      rw [hoo] at hP
      obtain ⟨hle2, vs, rfl, ux, zx, hp2⟩ := hP
      have ux' := ux
      obtain ⟨s3, A3, c3, B3, d3, K3, kc3, rfl, _, _, _⟩ := ux'.open
      exact ⟨_, _, _, _, _, _, _, _, _, _, _, _, _, rfl, hle1.trans hle2, _, rfl, ux, zx, hp2⟩
  refine Br.mk (fun q3 => ?_) (fun q3 => ?_)
  · rw [if_pos (beq_iff_eq.1 q3)] at hne ⊢
    exact call 8 (by decide) hne
  rw [if_neg (beq_eq_false_iff_ne.1 q3)] at hne ⊢
  refine Br.mk (fun q4 => ?_) (fun q4 => ?_)
  · rw [if_pos (beq_iff_eq.1 q4)] at hne ⊢
    exact call 9 (by decide) hne
  rw [if_neg (beq_eq_false_iff_ne.1 q4)] at hne ⊢
  obtain ⟨pre, ty, hlr, hb⟩ := hp
  have hsp := congrArg List.length (tk_split r)
  have hlen : l.length = pre.length + (aft r).length := by rw [hlr, List.length_append]
  have htl : (tk r).length ≤ 400 := by
    obtain ⟨pre0, ty0, hlr0, _⟩ := u
    have h0 := skip_le r
    have h1 := tokOf_le (skipS r)
    have h2 : l.length = pre0.length + r.length := by rw [hlr0, List.length_append]
    unfold tk
    omega
  have fr := (foNumber_c (w := tk r) (by omega) (hole h1 g)).frame (g := g) (b := ⟨[sv l, .int .i64 (pre.length : Int)], ty, (0, 0)⟩) (hole_at h1 g)
  rw [put_hole hb] at fr
  refine fr.mono ?_
  rintro v _ ⟨h2, ⟨hN, hle2⟩, h2g, rfl⟩
  have hx : hole (h2.put g ⟨[sv l, .int .i64 (pre.length : Int)], ty, (0, 0)⟩) g = h2 := by rw [hole_put, hole_none h2g]
  have hps : Ps (h2.put g ⟨[sv l, .int .i64 (pre.length : Int)], ty, (0, 0)⟩) g l (aft r) := ⟨pre, ty, hlr, Heap.put_same _ _ _⟩
  cases hoo : numberV (tk r) with
  | some q =>
    rw [hoo] at hN
    obtain ⟨s, A, c, B, d, rfl, hq⟩ := hN
    refine ⟨_, _, _, _, _, _, _, _, rfl, Br.mk (fun _ => ?_) (fun q => by cases q)⟩
    have hl1 := lmb_le q.num.natAbs
    have hl2 := lmb_le q.den
    refine ⟨by rw [hx]; exact hle1.trans hle2, _, rfl, ?_, ?_, hps⟩
    · rw [hx]
      unfold IsW
      exact ⟨s, A, c, B, d, none, 0, rfl, ⟨hq.is, fun _ => hq⟩, Nat.le_refl _, fun q => absurd rfl q⟩
    · unfold Szs SzsL
      exact ⟨by omega, by omega, by simp, by simp, trivial⟩
  | none =>
    rw [hoo] at hN
    cases hN
    refine ⟨_, _, _, _, _, _, _, _, rfl, Br.mk (fun q => by cases q) (fun _ => ?_)⟩
    refine (foName_c (tk r) _).mono ?_
    rintro _ _ ⟨rfl, rfl⟩
    simp only
    refine ⟨_, rfl, Br.mk (fun q => ?_) (fun q => ?_)⟩
    · rw [if_pos q]
      refine ⟨by rw [hx]; exact hle1.trans hle2, _, rfl, ?_, ?_, hps⟩
      · unfold IsW
        exact ⟨false, none, 0, none, 0, none, 0, rfl, ⟨IsQ.nul _, fun e => absurd e (by decide)⟩, Nat.le_refl _, fun q => absurd rfl q⟩
      · unfold Szs SzsL
        exact ⟨by omega, by omega, by omega, by simp, trivial⟩
    · rw [if_neg (by rw [q]; decide)]
      exact ⟨by rw [hx]; exact hle1.trans hle2, by decide, rfl⟩

/-- All methods. -/
theorem fnAll : ∀ n : Nat, ∀ k, k ≤ n → MOn 41 ptr (pSum k) ∧ MOn 69 ptr (pProd k) ∧ MOn 120 ptr (pFac k) ∧ ∀ kd : Int, kd ≠ 1 → MOn 164 (fun g => [.pointer (some ⟨g, 0, none⟩), .int .i64 kd]) (pCall k kd)
  | 0, k, hk => by
    have : k = 0 := by omega
    subst this
    refine ⟨?_, ?_, ?_, fun kd _ => ?_⟩ <;> intro h g l r _ _ hne
    · rw [pSum] at hne; exact absurd rfl hne
    · rw [pProd] at hne; exact absurd rfl hne
    · rw [pFac] at hne; exact absurd rfl hne
    · rw [pCall] at hne; exact absurd rfl hne
  | n + 1, k, hk => by
    have ih := fnAll n
    rcases Nat.lt_or_ge k (n + 1) with q | q
    · exact ih k (by omega)
    · have : k = n + 1 := by omega
      subst this
      exact ⟨fnSum_step fun k hk => (ih k hk).2.1, fnProd_step fun k hk => (ih k hk).2.2.1, fnFac_step (ih n (Nat.le_refl _)).2.2.1 (ih n (Nat.le_refl _)).1 (ih n (Nat.le_refl _)).2.2.2, fun kd hkd => fnCall_step kd hkd fun k hk => (ih k hk).1⟩

/-- What Parse answers. -/
def FpN (o : Except Int Ex) (h : Heap) (r : Value) (h' : Heap) : Prop :=
  Le h h' ∧ match o with
    | .error e => e ≠ 0 ∧ r = .tuple #[.agg zE.toArray, .int .i64 e]
    | .ok x => ∃ vs : List Value, r = .tuple #[.agg vs.toArray, .int .i64 0] ∧ IsW h' x vs ∧ Szs x ∧ chkV x 1 = 0

theorem fnParse_c {s : List UInt8} (hfu : pSum 4000 s ≠ .error 99) (h : Heap) : CallsU Tryz.prog 18 [sv s] h (FpN (foParseV s) h) := by
  apply formula_Parse_ok
  unfold formula_Parse_vc foParseV
  rw [ba_size]
  refine Br.mk (fun q => ?_) (fun q => ?_)
  · rw [if_pos (by have := of_decide_eq_true q; omega)]
    exact ⟨Le.refl _, by decide, rfl⟩
  · have hl : s.length ≤ 400 := by have := of_decide_eq_false q; omega
    rw [if_neg (by omega)]
    rintro g _ hg rfl
    refine ⟨_, Heap.put_same _ _ _, rfl, rfl, by simp, ?_⟩
    rintro _ rfl
    have hps : Ps (Heap.put (Heap.put h g ⟨[Value.string ByteArray.empty, Value.int .i64 0], 63, (0, 0)⟩) g ⟨setSeg [Value.string ByteArray.empty, Value.int .i64 0] 0 [sv s, Value.int .i64 0], 63, (0, 0)⟩) g s s :=
      ⟨[], 63, rfl, by rw [Heap.put_same]; rfl⟩
    have hho : hole (Heap.put (Heap.put h g ⟨[Value.string ByteArray.empty, Value.int .i64 0], 63, (0, 0)⟩) g ⟨setSeg [Value.string ByteArray.empty, Value.int .i64 0] 0 [sv s, Value.int .i64 0], 63, (0, 0)⟩) g = h := by
      rw [hole_put, hole_put, hole_none hg]
    refine ((fnAll 4000 4000 (Nat.le_refl _)).1 hps hl hfu).mono ?_
    intro v h1 hP
    have hle1 := hP.1
    rw [hho] at hle1
    have hle1' : Le h h1 := hle1.trans (hole_le _ _)
    cases hoo : pSum 4000 s with
    | error e =>
      rw [hoo] at hP
      obtain ⟨_, he, rfl⟩ := hP
      refine ⟨_, _, _, _, _, _, _, _, _, _, _, _, _, rfl, fun err h' => err = e ∧ h' = h1, ?_, Br.mk (fun q => absurd (beq_iff_eq.1 q) he) (fun _ => ⟨rfl, rfl⟩)⟩
      rintro _ _ ⟨rfl, rfl⟩
      exact Br.mk (fun q => absurd (beq_iff_eq.1 q) he) (fun _ => Br.mk (fun _ => ⟨hle1', he, rfl⟩) (fun q => by rw [bne_eq_false_iff_eq] at q; exact absurd q he))
    | ok p =>
      obtain ⟨x, r'⟩ := p
      rw [hoo] at hP
      obtain ⟨_, vs, rfl, ux, zx, hp2⟩ := hP
      have ux' := ux
      obtain ⟨s3, A3, c3, B3, d3, K3, kc3, rfl, _, _, _⟩ := ux'.open
      refine ⟨_, _, _, _, _, _, _, _, _, _, _, _, _, rfl, fun err h' => hole h' g = hole h1 g ∧ err = if tk r' = [] then 0 else 2, ?_, Br.mk (fun _ => ?_) (fun q => by exact absurd q (by decide))⟩
      · rintro _ h2 ⟨ho2, rfl⟩
        have hle2 : Le h h2 := by
          rw [← ho2] at hle1
          exact hle1.trans (hole_le _ _)
        have ux2 : IsW h2 x _ := IsW.mono (hole_le _ g) _ _ (by rw [ho2]; exact ux)
        simp only
        by_cases ht : tk r' = []
        · rw [if_pos ht, if_pos ht]
          refine Br.mk (fun _ => (foChk_c (IsW.is _ _ ux2) zx).mono ?_) (fun q => by exact absurd q (by decide))
          rintro _ h3 ⟨rfl, hle3⟩
          refine ⟨_, rfl, Br.mk (fun q => ?_) (fun q => ?_)⟩
          · have h0 : chkV x 1 ≠ 0 := by simpa using q
            rw [if_neg h0]
            exact ⟨hle2.trans hle3, h0, rfl⟩
          · have h0 : chkV x 1 = 0 := by simpa using q
            rw [if_pos h0]
            exact ⟨hle2.trans hle3, _, rfl, IsW.mono hle3 _ _ ux2, zx, h0⟩
        · rw [if_neg ht, if_neg ht]
          exact Br.mk (fun q => by exact absurd q (by decide)) (fun _ => Br.mk (fun _ => ⟨hle2, by decide, rfl⟩) (fun q => by exact absurd q (by decide)))
      · refine (foNext_c hp2 (by omega)).mono ?_
        rintro _ h2 ⟨rfl, _, ho2⟩
        have b0 : (⟨#[]⟩ : ByteArray).toList = [] := bytes_toList []
        refine ⟨_, rfl, ?_⟩
        rw [bytes_toList, b0]
        refine Br.mk (fun q => ⟨ho2, ?_⟩) (fun q => ⟨ho2, ?_⟩)
        · have : tk r' ≠ [] := by simpa using q
          rw [if_neg this]
        · have : tk r' = [] := by simpa using q
          rw [if_pos this]
end Go.Proofs.YtdpdaphholileaaGreatDoor

/-
  The law FormulaSpaces.
-/
namespace Go.Proofs.YtdpdaphholileaaGreatDoor
open Go Go.Vcg Go.RowKit Go.Sort
attribute [local irreducible] Br

/-- What Parse answers, in one shape. -/
theorem FpR.shape {o : Except Int Ex} {h h' : Heap} {r : Value} (u : FpR o h r h') : ∃ (x : Ex) (s : Bool) (A : Option Addr) (c : Nat) (B : Option Addr) (d : Nat) (K : Option Addr) (kc : Nat) (er : Int), r = .tuple #[.agg (cellsE x.kind s A x.ln c B x.lm d x.name K x.kids.length kc).toArray, .int .i64 er] ∧ IsE h' x (cellsE x.kind s A x.ln c B x.lm d x.name K x.kids.length kc) ∧ Szs x ∧ Le h h' ∧ ((o = .ok x ∧ er = 0 ∧ chkV x 1 = 0) ∨ (o = .error er ∧ er ≠ 0 ∧ x = .mk 0 0 0 0 [] [])) := by
  obtain ⟨hl, u⟩ := u
  cases o with
  | error e =>
    obtain ⟨he, rfl⟩ := u
    refine ⟨.mk 0 0 0 0 [] [], false, none, 0, none, 0, none, 0, e, rfl, ?_, ?_, hl, Or.inr ⟨rfl, he, rfl⟩⟩
    · unfold IsE
      exact ⟨false, none, 0, none, 0, none, 0, rfl, IsQ.nul _, Nat.le_refl _, fun q => absurd rfl q⟩
    · unfold Szs SzsL
      exact ⟨by omega, by omega, by simp, by simp, trivial⟩
  | ok x =>
    obtain ⟨vs, rfl, ux, zx, hc⟩ := u
    have ux' := ux
    obtain ⟨s, A, c, B, d, K, kc, rfl, _, _, _⟩ := ux'.open
    exact ⟨x, s, A, c, B, d, K, kc, 0, rfl, ux, zx, hl, Or.inl ⟨rfl, rfl, hc⟩⟩

end Go.Proofs.YtdpdaphholileaaGreatDoor

/-
  The law FormulaParses.
-/
namespace Go.Proofs.YtdpdaphholileaaGreatDoor
open Go Go.Vcg Go.RowKit Go.Sort
attribute [local irreducible] Br

/-- Parse, for any string; numbers in normal form. -/
theorem fnParseW_c (s : List UInt8) (h : Heap) : CallsU Tryz.prog 18 [sv s] h (FpN (foParseV s) h) := by
  rcases Nat.lt_or_ge 400 s.length with q | q
  · apply formula_Parse_ok
    unfold formula_Parse_vc foParseV
    rw [ba_size]
    refine Br.mk (fun _ => ?_) (fun q2 => ?_)
    · rw [if_pos q]
      exact ⟨Le.refl _, by decide, rfl⟩
    · have := of_decide_eq_false q2
      omega
  · exact fnParse_c (fuel400 q) h

/-- What is claimed of a tree. -/
def NlOk (e : Ex) : Prop := ∀ {h : Heap} {vs : List Value}, IsW h e vs → Szs e →
  CallsU Tryz.prog 21 [.agg vs.toArray] h fun r h' => r = .bool true ∧ Le h h'

theorem normal_node {k : Int} {q0 : Rat} {n m : Nat} {nm : List UInt8} {kids : List Ex} (ih : evAll NlOk kids) : NlOk (.mk k q0 n m nm kids) := by
  intro h vs u z
  obtain ⟨s, A, c, B, d, K, kc, rfl, uq, hc, hk⟩ := u.open
  obtain ⟨z1, z2, z3, z4, z5⟩ := z.open
  simp only [Ex.kind, Ex.kids, Ex.ln, Ex.lm, Ex.val, Ex.name] at uq hc hk z1 z2 z3 z4 z5
  apply law17_normal_ok
  unfold law17_normal_vc
  have hl1 : (Ex.mk k q0 n m nm kids).kids.length = kids.length := rfl
  rw [hl1]
  refine ⟨fun h' => Le h h', ?_, Br.mk (fun q => ?_) (fun q => ⟨fun _ _ q => q, Le.refl _⟩)⟩
  · intro h1 hle1
    refine ⟨fun mm i h' => ∃ j, j ≤ kids.length ∧ mm = kids.length - j ∧ i = (j : Int) ∧ Le h h', ⟨kids.length, 0, by omega, by omega, rfl, hle1⟩, ?_⟩
    rintro mm _ h2 ⟨j, hj, rfl, rfl, hle2⟩
    refine Br.mk (fun q1 => ?_) (fun q1 => ⟨rfl, hle2⟩)
    have hlt : j < kids.length := by have := of_decide_eq_true q1; omega
    obtain ⟨x, hx⟩ : ∃ x, kids[j]? = some x := ⟨_, List.getElem?_eq_getElem hlt⟩
    obtain ⟨ad, b, eA, sp, hb, hl, hs⟩ := hk (fun q => by rw [q] at hlt; simp at hlt)
    have ux := hs.get hx
    rw [List.drop_drop] at ux
    have hld : LdN h2 (ad.add (j * 6)) ((b.cells.drop (ad.off + j * 6)).take 6) := LdN_of sp (hle2 _ _ hb) ux.len rfl
    generalize (b.cells.drop (ad.off + j * 6)).take 6 = ws at *
    have ux' := ux
    obtain ⟨sx, Ax, cx, Bx, dx, Kx, kcx, rfl, _, _, _⟩ := ux'.open
    refine ⟨ad, eA, by omega, by omega, _, _, _, _, _, _, _, _, _, _, _, _, by rw [Int.toNat_natCast]; exact hld, ?_⟩
    refine ((ih.get hx) (IsW.mono hle2 _ _ ux) (SzsL.get z5 hx)).mono ?_
    rintro _ h3 ⟨rfl, hle3⟩
    refine ⟨_, rfl, Br.mk (fun q => by cases q) (fun _ => ?_)⟩
    rintro _ rfl
    exact ⟨kids.length - (j + 1), by omega, j + 1, by omega, rfl, wi (by omega) (by omega), hle2.trans hle3⟩
  · have hN := uq.2 (beq_iff_eq.1 q)
    refine (r3norm_c uq.1 (by omega) (by omega)).mono ?_
    rintro _ h1 ⟨s1, A1, n1, c1, B1, m1, d1, rfl, N1, a1, b1, hl1⟩
    refine ⟨_, _, _, _, _, _, _, rfl, hl1, (rSameQ_c (hN.mono hl1) N1 (by omega) (by omega)).mono ?_⟩
    rintro _ _ ⟨rfl, rfl⟩
    exact ⟨_, rfl, Br.mk (fun q => by cases q) (fun _ => hl1)⟩

mutual
theorem normal_all : ∀ e : Ex, NlOk e
  | .mk _ _ _ _ _ kids => normal_node (normal_allL kids)
theorem normal_allL : ∀ es : List Ex, evAll NlOk es
  | [] => trivial
  | e :: es => ⟨normal_all e, normal_allL es⟩
end

theorem FpN.shape {o : Except Int Ex} {h h' : Heap} {r : Value} (u : FpN o h r h') : ∃ (x : Ex) (s : Bool) (A : Option Addr) (c : Nat) (B : Option Addr) (d : Nat) (K : Option Addr) (kc : Nat) (er : Int), r = .tuple #[.agg (cellsE x.kind s A x.ln c B x.lm d x.name K x.kids.length kc).toArray, .int .i64 er] ∧ IsW h' x (cellsE x.kind s A x.ln c B x.lm d x.name K x.kids.length kc) ∧ Szs x ∧ Le h h' ∧ ((o = .ok x ∧ er = 0) ∨ (o = .error er ∧ x = .mk 0 0 0 0 [] [])) := by
  obtain ⟨hl, u⟩ := u
  cases o with
  | error e =>
    obtain ⟨he, rfl⟩ := u
    refine ⟨.mk 0 0 0 0 [] [], false, none, 0, none, 0, none, 0, e, rfl, ?_, ?_, hl, Or.inr ⟨rfl, rfl⟩⟩
    · unfold IsW
      exact ⟨false, none, 0, none, 0, none, 0, rfl, ⟨IsQ.nul _, fun e => absurd e (by decide)⟩, Nat.le_refl _, fun q => absurd rfl q⟩
    · unfold Szs SzsL
      exact ⟨by omega, by omega, by simp, by simp, trivial⟩
  | ok x =>
    obtain ⟨vs, rfl, ux, zx, hc⟩ := u
    have ux' := ux
    obtain ⟨s, A, c, B, d, K, kc, rfl, _, _, _⟩ := ux'.open
    exact ⟨x, s, A, c, B, d, K, kc, 0, rfl, ux, zx, hl, Or.inl ⟨rfl, rfl⟩⟩

theorem fparses_law {W : Heap} (s : List UInt8) (tb : Tab W) :
    CallsU Tryz.prog 4 [sv s] W fun v h' => v = .bool true ∧ Le W h' := by
  apply law17_FormulaParses_ok
  unfold law17_FormulaParses_vc
  have aw : ∀ {h' : Heap}, Le W h' → CallsU Tryz.prog 12 [] h' fun v h_2 => ∃ t : Bool, v = Value.bool t ∧ (Value.bool t = Value.bool true ∧ Le W h_2) := fun l => by
    refine (awake_c (tb.mono l)).mono ?_
    rintro _ h2 ⟨rfl, l2⟩
    exact ⟨_, rfl, rfl, l.trans l2⟩
  refine Br.mk (fun _ => aw (Le.refl _)) (fun _ => ?_)
  refine (fnParseW_c s W).mono ?_
  intro v h1 hP
  obtain ⟨x, s1, A1, c1, B1, d1, K1, kc1, er, rfl, ux, zx, l1, hx⟩ := hP.shape
  refine ⟨_, _, _, _, _, _, _, _, _, _, _, _, _, rfl, (rParse_c s h1).mono ?_⟩
  intro v h2 hP2
  obtain ⟨y, s2, A2, c2, B2, d2, K2, kc2, er2, rfl, uy, zy, l2, hy⟩ := hP2.shape
  have hxy : x = y ∧ er = er2 := by
    rcases hx with ⟨e1, rfl⟩ | ⟨e1, rfl⟩
    · rcases hy with ⟨e2, rfl, _⟩ | ⟨e2, _, rfl⟩
      · rw [e1] at e2; exact ⟨Except.ok.inj e2, rfl⟩
      · rw [e1] at e2; cases e2
    · rcases hy with ⟨e2, rfl, _⟩ | ⟨e2, _, rfl⟩
      · rw [e1] at e2; cases e2
      · rw [e1] at e2; exact ⟨rfl, Except.error.inj e2⟩
  obtain ⟨rfl, rfl⟩ := hxy
  refine ⟨_, _, _, _, _, _, _, _, _, _, _, _, _, rfl, ((rSame_all x) (IsW.is _ _ (IsW.mono l2 _ _ ux)) uy zx zy (SameE.refl _)).mono ?_⟩
  rintro _ h3 ⟨rfl, l3⟩
  refine ⟨_, rfl, Br.mk (fun _ => Br.mk (fun _ => ?_) (fun q => by simp at q)) (fun q => by cases q)⟩
  refine ((normal_all x) (IsW.mono (l2.trans l3) _ _ ux) zx).mono ?_
  rintro _ h4 ⟨rfl, l4⟩
  exact ⟨_, rfl, Br.mk (fun _ => aw (((l1.trans l2).trans l3).trans l4)) (fun q => by cases q)⟩
end Go.Proofs.YtdpdaphholileaaGreatDoor
