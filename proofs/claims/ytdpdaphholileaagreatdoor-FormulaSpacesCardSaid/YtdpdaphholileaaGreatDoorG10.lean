/-
  Gathered texts of this proof: Pp3, Pp4, Rh1, Rh2, Fin1, Fin2, Fin3.
-/
import Derived.Test.YtdpdaphholileaaGreatDoorG09
import Derived.Test.YtdpdaphholileaaGreatDoorG03
import Derived.Test.YtdpdaphholileaaGreatDoorRows
import Derived.ProofKit
import Derived.LaidMore
import Derived.OpenShut
import Derived.Stop.Joined
import Derived.Below
import Derived.ChangeSame
import Derived.Carry
import Derived.WideKeyArgs
import Derived.SevenTiedAt
import Derived.Test.YtdpdaphholileaaGreatDoorG07
import Derived.ChangeSlices
import Derived.ChangeMaps5
import Derived.MakeChecks
import Derived.Stop.LaidErr
import Derived.Lib.SmallJoins
import Derived.Deep.Strs
import Derived.DataReads

/-
  Plain: the tokens of a printed formula, with any number of spaces in place of each.
-/
namespace Go.Proofs.YtdpdaphholileaaGreatDoor
open Go Go.Vcg Go.RowKit Go.Sort

/-- What may follow a word: nothing, or a byte that ends words. -/
def Brk (r : List UInt8) : Prop := ∀ x, r.head? = some x → nd x = false

theorem brk_nil : Brk [] := fun x h => by simp at h
theorem brk_cons {x : UInt8} {r : List UInt8} (h : nd x = false) : Brk (x :: r) := fun y hy => by simp at hy; subst hy; exact h

theorem skip_not {x : UInt8} {r : List UInt8} (h : x ≠ 32) : skipS (x :: r) = x :: r := by
  unfold skipS
  rw [List.dropWhile_cons, if_neg (by simpa using h)]
theorem skip_sp (r : List UInt8) : skipS (32 :: r) = skipS r := by
  unfold skipS
  rw [List.dropWhile_cons, if_pos (by decide)]

theorem tw_word {w r : List UInt8} (hw : ∀ x ∈ w, nd x = true) (hr : Brk r) : (w ++ r).takeWhile nd = w := by
  induction w with
  | nil =>
    cases r with
    | nil => rfl
    | cons x r => rw [List.nil_append, List.takeWhile_cons, if_neg (by rw [hr x rfl]; decide)]
  | cons y w ih =>
    rw [List.cons_append, List.takeWhile_cons, if_pos (hw y (by simp)), ih fun x hx => hw x (List.mem_cons_of_mem _ hx)]

theorem nd_32 {x : UInt8} (h : nd x = true) : x ≠ 32 := fun e => by subst e; exact absurd h (by decide)

/-- A word, then what follows it. -/
theorem tks_word {w r : List UInt8} (h0 : w ≠ []) (hw : ∀ x ∈ w, nd x = true) (hr : Brk r) : tks (w ++ r) = w :: tks r := by
  obtain ⟨x, w', rfl⟩ : ∃ x w', w = x :: w' := by
    cases w with
    | nil => exact absurd rfl h0
    | cons x w' => exact ⟨x, w', rfl⟩
  have hs : skipS (x :: w' ++ r) = x :: w' ++ r := by rw [List.cons_append]; exact skip_not (nd_32 (hw x (by simp)))
  have ht : tk (x :: w' ++ r) = x :: w' := by
    unfold tk tokOf
    rw [hs, tw_word hw hr, if_neg (by simp)]
  have ha : aft (x :: w' ++ r) = r := by
    unfold aft
    rw [hs, ht, List.drop_left]
  rw [tks_cons (by rw [ht]; simp), ht, ha]

/-- A sign. -/
theorem tks_sign {x : UInt8} {r : List UInt8} (h : nd x = false) (h2 : x ≠ 32) : tks (x :: r) = [x] :: tks r := by
  have e0 : (x :: r).takeWhile nd = [] := by rw [List.takeWhile_cons, if_neg (by rw [h]; decide)]
  have ht : tk (x :: r) = [x] := by
    unfold tk tokOf
    rw [skip_not h2, e0, if_pos rfl]
    rfl
  have ha : aft (x :: r) = r := by
    unfold aft
    rw [skip_not h2, ht]
    rfl
  rw [tks_cons (by rw [ht]; simp), ht, ha]

theorem tks_sp (r : List UInt8) : tks (32 :: r) = tks r := by rw [← tks_skip, skip_sp, tks_skip]
theorem tks_sps {sp : List UInt8} (h : ∀ x ∈ sp, x = 32) (r : List UInt8) : tks (sp ++ r) = tks r := by
  induction sp with
  | nil => rfl
  | cons x sp ih =>
    rw [h x (by simp), List.cons_append, tks_sp, ih fun y hy => h y (List.mem_cons_of_mem _ hy)]

/-- Each space in another way. -/
def sub (sp s : List UInt8) : List UInt8 := s.flatMap fun x => if x = 32 then sp else [x]

theorem sub_nil (sp : List UInt8) : sub sp [] = [] := rfl
theorem sub_app (sp a b : List UInt8) : sub sp (a ++ b) = sub sp a ++ sub sp b := by unfold sub; rw [List.flatMap_append]
theorem sub_cons {sp : List UInt8} {x : UInt8} {s : List UInt8} (h : x ≠ 32) : sub sp (x :: s) = x :: sub sp s := by
  unfold sub
  rw [List.flatMap_cons, if_neg h]
  rfl
theorem sub_sp (sp s : List UInt8) : sub sp (32 :: s) = sp ++ sub sp s := by
  unfold sub
  rw [List.flatMap_cons, if_pos rfl]
theorem sub_same {sp s : List UInt8} (h : ∀ x ∈ s, x ≠ 32) : sub sp s = s := by
  induction s with
  | nil => rfl
  | cons x s ih => rw [sub_cons (h x (by simp)), ih fun y hy => h y (List.mem_cons_of_mem _ hy)]
def parT (k req : Int) (t : List (List UInt8)) : List (List UInt8) := if clo k < req then [40] :: (t ++ [[41]]) else t

mutual
/-- The tokens of a printed formula. -/
def tkE : Ex → List (List UInt8)
  | .mk k q _ _ nm kids => if k = 1 then [numTx ((shV q).getD 0)] else if k = 2 then [nm]
    else if k = 3 then tkO 0 0 kids ++ [43] :: tkO 1 1 kids
    else if k = 4 then tkO 0 0 kids ++ [45] :: tkO 1 1 kids
    else if k = 5 then tkO 0 1 kids ++ [42] :: tkO 1 2 kids
    else if k = 6 then tkO 0 1 kids ++ [47] :: tkO 1 2 kids
    else if k = 7 then [45] :: tkO 0 2 kids
    else (if k = 9 then [109, 97, 120] else [109, 105, 110]) :: [40] :: (tkJ kids ++ [[41]])
def tkO (i : Nat) (req : Int) : List Ex → List (List UInt8)
  | [] => []
  | .mk k q n m nm kids :: es => match i with
    | 0 => parT k req (tkE (.mk k q n m nm kids))
    | i + 1 => tkO i req es
/-- The operands of min and max. -/
def tkJ : List Ex → List (List UInt8)
  | [] => []
  | e :: es => match es with
    | [] => tkE e
    | e' :: es' => tkE e ++ [44] :: tkJ (e' :: es')
end

theorem tkO_get : ∀ {es : List Ex} {i : Nat} {e : Ex} {req : Int}, es[i]? = some e → tkO i req es = parT e.kind req (tkE e)
  | [], i, e, req, he => by simp at he
  | .mk k q n m nm kids :: es, 0, e, req, he => by simp at he; subst he; rw [tkO]; rfl
  | .mk k q n m nm kids :: es, i + 1, e, req, he => by rw [tkO]; exact tkO_get (by simpa using he)

theorem isDg_nd {x : UInt8} (h : isDg x = true) : nd x = true := by
  have h1 := isDg_iff.1 h
  unfold nd
  rw [Bool.not_eq_true', List.contains_eq_mem, decide_eq_false_iff_not]
  intro hm
  simp only [List.mem_cons, List.not_mem_nil, or_false] at hm
  rcases hm with e | e | e | e | e | e | e | e <;> subst e <;> revert h1 <;> decide

theorem numTx_nd {n : Nat} : numTx n ≠ [] ∧ ∀ x ∈ numTx n, nd x = true := by
  have h1 := (dec_ok (n / 10000)).1
  have h2 := (dec_ok (10000 + n % 10000)).1
  unfold numTx
  refine ⟨fun e => ?_, fun x hx => ?_⟩
  · exact h1.1 (List.append_eq_nil_iff.1 e).1
  · rcases List.mem_append.1 hx with q | q
    · exact isDg_nd (h1.2 x q)
    · split at q
      · simp at q
      · rcases List.mem_cons.1 q with e | e
        · subst e; decide
        · obtain ⟨k, hk⟩ := trimR_split ((Lib.decDigits (10000 + n % 10000)).drop 1)
          have : x ∈ (Lib.decDigits (10000 + n % 10000)).drop 1 := by rw [hk]; exact List.mem_append_left _ e
          exact isDg_nd (h2.2 x (List.mem_of_mem_drop this))

theorem nameCh_nd {i : Nat} {x : UInt8} (h : nameCh i x = true) : nd x = true := by
  unfold nameCh isLow at h
  simp only [Bool.or_eq_true, Bool.and_eq_true, decide_eq_true_eq] at h
  rcases h with h | ⟨_, h | h⟩
  · unfold nd
    rw [Bool.not_eq_true', List.contains_eq_mem, decide_eq_false_iff_not]
    intro hm
    simp only [List.mem_cons, List.not_mem_nil, or_false] at hm
    rcases hm with e | e | e | e | e | e | e | e <;> subst e <;> revert h <;> decide
  · unfold nd
    rw [Bool.not_eq_true', List.contains_eq_mem, decide_eq_false_iff_not]
    intro hm
    simp only [List.mem_cons, List.not_mem_nil, or_false] at hm
    rcases hm with e | e | e | e | e | e | e | e <;> subst e <;> revert h <;> decide
  · exact isDg_nd h

theorem isName_nd {l : List UInt8} (h : isNameV l = true) : l ≠ [] ∧ ∀ x ∈ l, nd x = true := by
  unfold isNameV at h
  rw [Bool.and_eq_true, decide_eq_true_eq] at h
  refine ⟨h.1.1, fun x hx => ?_⟩
  obtain ⟨i, hi⟩ := List.getElem?_of_mem hx
  exact nameCh_nd (nameAll.1 h.2 i x hi)

mutual
/-- All nodes are right. -/
def okE : Ex → Prop
  | .mk k q n m nm kids => rightV (.mk k q n m nm kids) = true ∧ okL kids
def okL : List Ex → Prop
  | [] => True
  | e :: es => okE e ∧ okL es
end

mutual
theorem chk_okE : ∀ {e : Ex} {lv : Int}, chkV e lv = 0 → okE e
  | .mk k q n m nm kids, lv, h => by
    rw [chkV] at h
    rw [okE]
    split at h
    · cases h
    · split at h
      · rename_i hr
        exact ⟨hr, chkL_okL h⟩
      · cases h
theorem chkL_okL : ∀ {es : List Ex} {lv : Int}, chkL es lv = 0 → okL es
  | [], lv, h => by rw [okL]; trivial
  | e :: es, lv, h => by
    rw [chkL] at h
    rw [okL]
    split at h
    · rename_i h0
      exact ⟨chk_okE h0, chkL_okL h⟩
    · rename_i h0; exact absurd h h0
end

theorem right_nm {k : Int} {q : Rat} {n m : Nat} {nm : List UInt8} {kids : List Ex} (h : rightV (.mk k q n m nm kids) = true) : if k = 2 then isNameV nm = true else nm = [] := by
  unfold rightV at h
  simp only [Bool.and_eq_true, Ex.kind, Ex.name] at h
  have h1 := h.1.2
  by_cases e : k = 2
  · rw [if_pos e]; simpa [e] using h1
  · rw [if_neg e]; simp only [e, if_false] at h1; exact of_decide_eq_true h1
theorem right_val {k : Int} {q : Rat} {n m : Nat} {nm : List UInt8} {kids : List Ex} (h : rightV (.mk k q n m nm kids) = true) : if k = 1 then (shV q).isSome = true else q = 0 := by
  unfold rightV at h
  simp only [Bool.and_eq_true, Ex.kind, Ex.val] at h
  have h1 := h.2
  by_cases e : k = 1
  · rw [if_pos e]; simpa [e] using h1
  · rw [if_neg e]; simp only [e, if_false] at h1; exact of_decide_eq_true h1

/-- What is claimed of the tokens of a tree. -/
def TkOk (sp : List UInt8) (e : Ex) : Prop := okE e → ∀ r, Brk r → tks (sub sp (txV e) ++ r) = tkE e ++ tks r

theorem par_tok {sp : List UInt8} {e : Ex} (ih : TkOk sp e) (h : okE e) (req : Int) {r : List UInt8} (hr : Brk r) : tks (sub sp (parV e.kind req (txV e)) ++ r) = parT e.kind req (tkE e) ++ tks r := by
  unfold parV parT
  split
  · have e41 : sub sp [41] = [41] := sub_same (by decide)
    rw [sub_cons (by decide), sub_app, e41, List.cons_append, List.append_assoc, tks_sign (by decide) (by decide), List.cons_append, List.nil_append, ih h _ (brk_cons (by decide)), tks_sign (by decide) (by decide)]
    simp
  · exact ih h r hr

theorem op_tok {sp : List UInt8} (hsp : ∀ x ∈ sp, x = 32) {x : UInt8} (h : nd x = false) (h2 : x ≠ 32) (r : List UInt8) : Brk (sub sp [32, x, 32] ++ r) ∧ tks (sub sp [32, x, 32] ++ r) = [x] :: tks r := by
  rw [sub_sp, sub_cons h2, sub_sp, sub_nil, List.append_nil]
  constructor
  · cases sp with
    | nil => exact brk_cons h
    | cons y s => rw [hsp y (by simp)]; exact brk_cons (by decide)
  · rw [List.append_assoc, tks_sps hsp, List.cons_append, tks_sign h h2, tks_sps hsp]

theorem okL_get : ∀ {es : List Ex} {i : Nat} {e : Ex}, okL es → es[i]? = some e → okE e
  | [], i, e, _, h => by simp at h
  | x :: es, 0, e, u, h => by rw [okL] at u; simp at h; subst h; exact u.1
  | x :: es, i + 1, e, u, h => by rw [okL] at u; exact okL_get u.2 (i := i) (by simpa using h)

theorem join_tok {sp : List UInt8} (hsp : ∀ x ∈ sp, x = 32) : ∀ (es : List Ex), es ≠ [] → evAll (TkOk sp) es → okL es → ∀ r, Brk r → tks (sub sp (Lib.join (txL es) [44, 32]) ++ r) = tkJ es ++ tks r
  | [], h, _, _, _, _ => absurd rfl h
  | [e], _, ih, ok, r, hr => by
    rw [okL] at ok
    rw [txL, txL, tkJ]
    have : Lib.join [txV e] [44, 32] = txV e := by simp [Lib.join]
    rw [this]
    exact (ih.get (i := 0) rfl) ok.1 r hr
  | e :: e' :: es, _, ih, ok, r, hr => by
    rw [okL] at ok
    have ih2 : evAll (TkOk sp) (e' :: es) := ih.2
    have hj : Lib.join (txL (e :: e' :: es)) [44, 32] = txV e ++ [44, 32] ++ Lib.join (txL (e' :: es)) [44, 32] := by
      rw [txL, txL]
      simp [Lib.join]
    rw [hj, tkJ, sub_app, sub_app, List.append_assoc, List.append_assoc]
    rw [(ih.get (i := 0) rfl) ok.1 _ (by rw [sub_cons (by decide), List.cons_append]; exact brk_cons (by decide))]
    rw [sub_cons (by decide), sub_sp, sub_nil, List.append_nil, List.cons_append, tks_sign (by decide) (by decide), tks_sps hsp]
    rw [join_tok hsp (e' :: es) (by simp) ih2 ok.2 r hr]
    simp

theorem tok_node {sp : List UInt8} (hsp : ∀ x ∈ sp, x = 32) {k : Int} {q : Rat} {n m : Nat} {nm : List UInt8} {kids : List Ex} (ih : evAll (TkOk sp) kids) : TkOk sp (.mk k q n m nm kids) := by
  intro ok r hr
  rw [okE] at ok
  have hops := right_len ok.1
  have hnm := right_nm ok.1
  simp only [Ex.kind, Ex.kids] at hops
  rw [txV, tkE]
  by_cases k1 : k = 1
  · rw [if_pos k1, if_pos k1]
    obtain ⟨h0, h1⟩ := numTx_nd (n := (shV q).getD 0)
    rw [sub_same fun x hx => nd_32 (h1 x hx)]
    exact tks_word h0 h1 hr
  rw [if_neg k1, if_neg k1]
  by_cases k2 : k = 2
  · rw [if_pos k2, if_pos k2]
    rw [if_pos k2] at hnm
    obtain ⟨h0, h1⟩ := isName_nd hnm
    rw [sub_same fun x hx => nd_32 (h1 x hx)]
    exact tks_word h0 h1 hr
  rw [if_neg k2, if_neg k2]
  have bin : (k = 3 ∨ k = 4 ∨ k = 5 ∨ k = 6) → ∀ (a b : Int) (x : UInt8), nd x = false → x ≠ 32 → tks (sub sp (txO 0 a kids ++ [32, x, 32] ++ txO 1 b kids) ++ r) = tkO 0 a kids ++ [x] :: tkO 1 b kids ++ tks r := fun hk a b x hx hx2 => by
    obtain ⟨u, v, rfl⟩ := kids_two hops hk
    rw [txO_get (i := 0) (e := u) rfl, txO_get (i := 1) (e := v) rfl, tkO_get (i := 0) (e := u) rfl, tkO_get (i := 1) (e := v) rfl]
    have oku := okL_get ok.2 (i := 0) (e := u) rfl
    have okv := okL_get ok.2 (i := 1) (e := v) rfl
    rw [sub_app, sub_app, List.append_assoc, List.append_assoc]
    obtain ⟨b1, t1⟩ := op_tok hsp hx hx2 (sub sp (parV v.kind b (txV v)) ++ r)
    rw [par_tok (ih.get (i := 0) rfl) oku a b1, t1, par_tok (ih.get (i := 1) rfl) okv b hr]
    simp
  by_cases k3 : k = 3
  · rw [if_pos k3, if_pos k3]; exact bin (by omega) 0 1 43 (by decide) (by decide)
  rw [if_neg k3, if_neg k3]
  by_cases k4 : k = 4
  · rw [if_pos k4, if_pos k4]; exact bin (by omega) 0 1 45 (by decide) (by decide)
  rw [if_neg k4, if_neg k4]
  by_cases k5 : k = 5
  · rw [if_pos k5, if_pos k5]; exact bin (by omega) 1 2 42 (by decide) (by decide)
  rw [if_neg k5, if_neg k5]
  by_cases k6 : k = 6
  · rw [if_pos k6, if_pos k6]; exact bin (by omega) 1 2 47 (by decide) (by decide)
  rw [if_neg k6, if_neg k6]
  by_cases k7 : k = 7
  · rw [if_pos k7, if_pos k7]
    obtain ⟨u, rfl⟩ := kids_one hops k7
    have oku := okL_get ok.2 (i := 0) (e := u) rfl
    rw [txO_get (i := 0) (e := u) rfl, tkO_get (i := 0) (e := u) rfl, sub_cons (by decide), List.cons_append, tks_sign (by decide) (by decide), par_tok (ih.get (i := 0) rfl) oku 2 hr]
    rfl
  rw [if_neg k7, if_neg k7]
  obtain ⟨h89, hl1, hl8⟩ := kids_many hops (by omega) (by omega) k7
  have hne : kids ≠ [] := fun e => by rw [e] at hl1; simp at hl1
  have word : ∀ w : List UInt8, w ≠ [] → (∀ x ∈ w, nd x = true) → tks (sub sp (w ++ [40] ++ Lib.join (txL kids) [44, 32] ++ [41]) ++ r) = w :: [40] :: (tkJ kids ++ [[41]]) ++ tks r := fun w h0 hw => by
    rw [sub_app, sub_app, sub_app, sub_same (s := w) fun x hx => nd_32 (hw x hx), List.append_assoc, List.append_assoc, List.append_assoc]
    have e40 : sub sp [40] = [40] := sub_same (by decide)
    have e41 : sub sp [41] = [41] := sub_same (by decide)
    have c40 : ∀ z : List UInt8, [40] ++ z = 40 :: z := fun _ => rfl
    have c41 : ∀ z : List UInt8, [41] ++ z = 41 :: z := fun _ => rfl
    rw [e40, e41, c40, c41, tks_word h0 hw (brk_cons (by decide)), tks_sign (by decide) (by decide), join_tok hsp kids hne ih ok.2 _ (brk_cons (by decide)), tks_sign (by decide) (by decide)]
    simp
  by_cases k9 : k = 9
  · rw [if_pos k9, if_pos k9]
    exact word [109, 97, 120] (by simp) (by decide)
  · rw [if_neg k9, if_neg k9]
    exact word [109, 105, 110] (by simp) (by decide)

mutual
theorem tok_all {sp : List UInt8} (hsp : ∀ x ∈ sp, x = 32) : ∀ e : Ex, TkOk sp e
  | .mk _ _ _ _ _ kids => tok_node hsp (tok_allL hsp kids)
theorem tok_allL {sp : List UInt8} (hsp : ∀ x ∈ sp, x = 32) : ∀ es : List Ex, evAll (TkOk sp) es
  | [] => trivial
  | e :: es => ⟨tok_all hsp e, tok_allL hsp es⟩
end

theorem tks_tx {sp : List UInt8} (hsp : ∀ x ∈ sp, x = 32) {e : Ex} (h : okE e) : tks (sub sp (txV e)) = tkE e := by
  have := tok_all hsp e h [] brk_nil
  rw [List.append_nil, tks_empty, List.append_nil] at this
  exact this
end Go.Proofs.YtdpdaphholileaaGreatDoor

/-
  Plain: the parser reads a printed formula as the tree.
-/
namespace Go.Proofs.YtdpdaphholileaaGreatDoor
open Go Go.Vcg Go.RowKit Go.Sort

mutual
/-- The tree as the parser makes it. -/
def canE : Ex → Ex
  | .mk k q _ _ nm kids => if k = 1 then .mk 1 q (lmb q.num.natAbs) (lmb q.den) [] [] else if k = 2 then .mk 2 0 0 0 nm [] else .mk k 0 0 0 [] (canL kids)
def canL : List Ex → List Ex
  | [] => []
  | e :: es => canE e :: canL es
end

theorem canL_len : ∀ es : List Ex, (canL es).length = es.length
  | [] => by rw [canL]
  | e :: es => by rw [canL, List.length_cons, canL_len es, List.length_cons]
theorem canL_app : ∀ (a b : List Ex), canL (a ++ b) = canL a ++ canL b
  | [], b => by rw [canL]; rfl
  | e :: a, b => by rw [List.cons_append, canL, canL, canL_app a b]; rfl

theorem can_kind (e : Ex) : (canE e).kind = e.kind := by
  cases e with
  | mk k q n m nm kids =>
    rw [canE]
    split
    · rename_i h; exact h.symm
    · split
      · rename_i h; exact h.symm
      · rfl

mutual
theorem can_ok : ∀ {e : Ex} {lv : Int}, okE e → chkV (canE e) lv = chkV e lv
  | .mk k q n m nm kids, lv, h => by
    rw [okE] at h
    have hops := right_len h.1
    have hnm := right_nm h.1
    have hv := right_val h.1
    simp only [Ex.kind, Ex.kids] at hops
    have hr : rightV (canE (.mk k q n m nm kids)) = true := by
      rw [canE]
      by_cases k1 : k = 1
      · subst k1
        rw [if_pos rfl] at hv ⊢
        unfold rightV
        simp [Ex.kind, Ex.kids, Ex.name, Ex.val, hv, foOps]
      · rw [if_neg k1] at hv ⊢
        by_cases k2 : k = 2
        · subst k2
          rw [if_pos rfl] at hnm ⊢
          unfold rightV
          simp [Ex.kind, Ex.kids, Ex.name, Ex.val, hnm, foOps]
        · rw [if_neg k2] at hnm ⊢
          unfold rightV
          simp only [Ex.kind, Ex.kids, Ex.name, Ex.val, if_neg k1, if_neg k2, canL_len]
          rw [decide_eq_true hops]
          decide
    have hkids : (canE (.mk k q n m nm kids)).kids = canL kids := by
      rw [canE]
      have nul : (foOps k).2 = 0 → kids = [] := fun e => List.length_eq_zero_iff.1 (by rw [e] at hops; omega)
      by_cases k1 : k = 1
      · subst k1
        rw [if_pos rfl, nul (by decide), canL]
        rfl
      · rw [if_neg k1]
        by_cases k2 : k = 2
        · subst k2
          rw [if_pos rfl, nul (by decide), canL]
          rfl
        · rw [if_neg k2]
          rfl
    have e1 := Ex.eta (canE (.mk k q n m nm kids))
    rw [e1, chkV, ← e1, hr, hkids, chkV, h.1, canL_chk h.2]
theorem canL_chk : ∀ {es : List Ex} {lv : Int}, okL es → chkL (canL es) lv = chkL es lv
  | [], lv, _ => by rw [canL]
  | e :: es, lv, h => by
    rw [okL] at h
    rw [canL, chkL, chkL, can_ok h.1, canL_chk h.2]
end

/-- What a parser with fuel answers in the end. -/
def Ev {α : Type} (F : Nat → α) (X : α) : Prop := ∃ N, ∀ n, N ≤ n → F n = X

theorem Ev.step {α β : Type} {F : Nat → α} {G : Nat → β} {X : α} {Y : β} (a : Ev F X) (h : ∀ n, F n = X → G (n + 1) = Y) : Ev G Y := by
  obtain ⟨N, hN⟩ := a
  refine ⟨N + 1, fun n hn => ?_⟩
  obtain ⟨k, rfl⟩ : ∃ k, n = k + 1 := ⟨n - 1, by omega⟩
  exact h k (hN k (by omega))
theorem Ev.step2 {α β γ : Type} {F : Nat → α} {G : Nat → β} {H : Nat → γ} {X : α} {Y : β} {Z : γ} (a : Ev F X) (b : Ev G Y) (h : ∀ n, F n = X → G n = Y → H (n + 1) = Z) : Ev H Z := by
  obtain ⟨N, hN⟩ := a
  obtain ⟨M, hM⟩ := b
  refine ⟨N + M + 1, fun n hn => ?_⟩
  obtain ⟨k, rfl⟩ : ∃ k, n = k + 1 := ⟨n - 1, by omega⟩
  exact h k (hN k (by omega)) (hM k (by omega))
theorem Ev.one {α : Type} {G : Nat → α} {Y : α} (h : ∀ n, G (n + 1) = Y) : Ev G Y := by
  refine ⟨1, fun n hn => ?_⟩
  obtain ⟨k, rfl⟩ : ∃ k, n = k + 1 := ⟨n - 1, by omega⟩
  exact h k

abbrev RT := Except Int (Ex × List (List UInt8))

/-- What is claimed of a tree. -/
structure RdOk (e : Ex) : Prop where
  fac : clo e.kind = 2 → ∀ ts, Ev (fun n => qFac n (tkE e ++ ts)) (.ok (canE e, ts) : RT)
  prod : 1 ≤ clo e.kind → ∀ (ts : List (List UInt8)) (X : RT), Ev (fun n => qProdL n (canE e) ts) X → Ev (fun n => qProd n (tkE e ++ ts)) X
  sum : ∀ (ts : List (List UInt8)) (X : RT), hdT ts ≠ [42] → hdT ts ≠ [47] → Ev (fun n => qSumL n (canE e) ts) X → Ev (fun n => qSum n (tkE e ++ ts)) X

theorem prodL_end {x : Ex} {ts : List (List UInt8)} (h1 : hdT ts ≠ [42]) (h2 : hdT ts ≠ [47]) : Ev (fun n => qProdL n x ts) (.ok (x, ts) : RT) :=
  Ev.one fun n => by rw [qProdL, if_neg h1, if_neg h2]
theorem sumL_end {x : Ex} {ts : List (List UInt8)} (h1 : hdT ts ≠ [43]) (h2 : hdT ts ≠ [45]) : Ev (fun n => qSumL n x ts) (.ok (x, ts) : RT) :=
  Ev.one fun n => by rw [qSumL, if_neg h1, if_neg h2]

theorem prod_fac {x : Ex} {ts ts' : List (List UInt8)} {X : RT} (a : Ev (fun n => qFac n ts) (.ok (x, ts') : RT)) (b : Ev (fun n => qProdL n x ts') X) : Ev (fun n => qProd n ts) X :=
  a.step2 b fun n h1 h2 => by rw [qProd, h1]; exact h2
theorem sum_prod {x : Ex} {ts ts' : List (List UInt8)} {X : RT} (a : Ev (fun n => qProd n ts) (.ok (x, ts') : RT)) (b : Ev (fun n => qSumL n x ts') X) : Ev (fun n => qSum n ts) X :=
  a.step2 b fun n h1 h2 => by rw [qSum, h1]; exact h2

theorem hdT_cons (t : List UInt8) (ts : List (List UInt8)) : hdT (t :: ts) = t := rfl

/-- In parentheses. -/
theorem par_fac {e : Ex} (r : RdOk e) (ts : List (List UInt8)) : Ev (fun n => qFac n ([40] :: (tkE e ++ [[41]]) ++ ts)) (.ok (canE e, ts) : RT) := by
  have h := r.sum ([41] :: ts) (.ok (canE e, [41] :: ts)) (by rw [hdT_cons]; decide) (by rw [hdT_cons]; decide) (sumL_end (by rw [hdT_cons]; decide) (by rw [hdT_cons]; decide))
  refine h.step fun n h1 => ?_
  have e1 : [40] :: (tkE e ++ [[41]]) ++ ts = [40] :: (tkE e ++ [41] :: ts) := by simp
  have d1 : ([40] : List UInt8) ≠ [] := by decide
  have d2 : ([40] : List UInt8) ≠ [45] := by decide
  rw [e1, qFac, hdT_cons, if_neg d1, if_neg d2, if_pos rfl, List.tail_cons, h1]
  simp only [expT, hdT_cons, if_true, List.tail_cons]

theorem op_fac {e : Ex} (r : RdOk e) (ts : List (List UInt8)) : Ev (fun n => qFac n (parT e.kind 2 (tkE e) ++ ts)) (.ok (canE e, ts) : RT) := by
  unfold parT
  split
  · exact par_fac r ts
  · rename_i h
    have : clo e.kind ≤ 2 := by unfold clo; split <;> (try split) <;> omega
    exact r.fac (by omega) ts
theorem op_prod {e : Ex} (r : RdOk e) (ts : List (List UInt8)) (X : RT) (b : Ev (fun n => qProdL n (canE e) ts) X) : Ev (fun n => qProd n (parT e.kind 1 (tkE e) ++ ts)) X := by
  unfold parT
  split
  · exact prod_fac (par_fac r ts) b
  · rename_i h
    exact r.prod (by omega) ts X b
theorem op_sum {e : Ex} (r : RdOk e) (ts : List (List UInt8)) (X : RT) (h1 : hdT ts ≠ [42]) (h2 : hdT ts ≠ [47]) (b : Ev (fun n => qSumL n (canE e) ts) X) : Ev (fun n => qSum n (parT e.kind 0 (tkE e) ++ ts)) X := by
  unfold parT
  rw [if_neg (by unfold clo; split <;> (try split) <;> omega)]
  exact r.sum ts X h1 h2 b

/-- A factor is a product and a sum. -/
theorem RdOk.of_fac {e : Ex} (h : ∀ ts, Ev (fun n => qFac n (tkE e ++ ts)) (.ok (canE e, ts) : RT)) : RdOk e where
  fac _ ts := h ts
  prod _ ts _ b := prod_fac (h ts) b
  sum ts _ h1 h2 b := sum_prod (prod_fac (h ts) (prodL_end h1 h2)) b
theorem RdOk.of_prod {e : Ex} (hk : clo e.kind = 1) (h : ∀ (ts : List (List UInt8)) (X : RT), Ev (fun n => qProdL n (canE e) ts) X → Ev (fun n => qProd n (tkE e ++ ts)) X) : RdOk e where
  fac q := by omega
  prod _ := h
  sum ts _ h1 h2 b := sum_prod (h ts _ (prodL_end h1 h2)) b

theorem num_read {n : Nat} (h : n ≤ 9999999999999) : numberV (numTx n) = some ((n : Rat) / 10000) := by
  have hd := dec_ok (n / 10000)
  have hl := dec_len (n := n / 10000) (k := 9) (by omega) (by decide)
  have no46 : ∀ {l : List UInt8}, Dgs l → ∀ x ∈ l, (x != 46) = true := fun hd x hx => by
    have := isDg_iff.1 (hd.2 x hx)
    rw [bne_iff_ne]
    rintro rfl
    revert this; decide
  have a9 : dgsB (Lib.decDigits (n / 10000)) 9 = true := by
    unfold dgsB
    rw [Bool.and_eq_true, decide_eq_true_eq, List.all_eq_true]
    refine ⟨hd.1.2, ?_, hl⟩
    have := List.length_pos_iff.2 hd.1.1
    omega
  have hz : (decide (1 < (Lib.decDigits (n / 10000)).length) && (Lib.decDigits (n / 10000)).head? == some 48) = false := by
    rw [Bool.and_eq_false_iff]
    by_cases h0 : 0 < n / 10000
    · right
      have := hd.2.2 h0
      rw [← List.head?_eq_getElem?] at this
      simpa using this
    · left
      have : n / 10000 = 0 := by omega
      have h1 := dec_len (n := 0) (k := 1) (by decide) (by decide)
      rw [this, decide_eq_false_iff_not]
      omega
  unfold numTx
  by_cases h0 : n % 10000 = 0
  · rw [if_pos h0, List.append_nil]
    unfold numberV
    have e1 : (Lib.decDigits (n / 10000)).takeWhile (· != 46) = Lib.decDigits (n / 10000) := tw_self (no46 hd.1)
    have e2 : (Lib.decDigits (n / 10000)).dropWhile (· != 46) = [] := by
      rw [← tw_drop, e1, List.drop_length]
    have e3 : decide ((46 : UInt8) ∈ Lib.decDigits (n / 10000)) = false := by
      rw [decide_eq_false_iff_not]
      intro hm
      exact absurd (no46 hd.1 46 hm) (by decide)
    simp only [e1, e2, List.drop_nil, e3, a9, hz, List.append_nil, hd.2.1]
    simp only [Bool.not_false, Bool.true_or, Bool.and_self, if_true, List.length_nil, Nat.pow_zero]
    congr 1
    have := rat_cross (a := n / 10000) (b := 1) (c := n) (d := 10000) (by decide) (by decide) (by omega)
    rw [Rat.intCast_natCast, Rat.intCast_natCast]
    exact this
  · rw [if_neg h0]
    generalize hp : n % 10000 = p at *
    have hp0 : p < 10000 := by omega
    rw [drop_one p hp0]
    obtain ⟨hpl, hpd, hpv⟩ := padK_ok 4 p hp0
    obtain ⟨k, hk⟩ := trimR_split (padK 4 p)
    generalize hb : Lib.trimRightB (padK 4 p) 48 = b at *
    have hbl : b.length + k = 4 := by
      have := congrArg List.length hk
      rw [List.length_append, List.length_replicate] at this
      omega
    have hbd : ∀ x ∈ b, isDg x = true := fun x hx => hpd x (by rw [hk]; exact List.mem_append_left _ hx)
    have hval : dgV b * 10 ^ k = p := by
      have h1 := hpv
      rw [hk] at h1
      unfold dgV at h1
      rw [List.foldl_append, dgV_from, dgV_zeros, List.length_replicate] at h1
      unfold dgV
      omega
    have hb0 : b ≠ [] := fun e => by
      rw [e] at hval
      have : dgV [] = 0 := rfl
      rw [this, Nat.zero_mul] at hval
      omega
    unfold numberV
    have e1 : (Lib.decDigits (n / 10000) ++ 46 :: b).takeWhile (· != 46) = Lib.decDigits (n / 10000) := by
      rw [List.takeWhile_append_of_pos (no46 hd.1)]
      simp
    have e2 : (Lib.decDigits (n / 10000) ++ 46 :: b).dropWhile (· != 46) = 46 :: b := by
      rw [← tw_drop, e1, List.drop_left]
    have a4 : dgsB b 4 = true := by
      unfold dgsB
      rw [Bool.and_eq_true, decide_eq_true_eq, List.all_eq_true]
      have := List.length_pos_iff.2 hb0
      exact ⟨hbd, by omega, by omega⟩
    simp only [e1, e2, List.drop_succ_cons, List.drop_zero, a9, hz, a4]
    simp only [Bool.not_false, Bool.or_true, Bool.and_self, if_true]
    congr 1
    have hab : dgV (Lib.decDigits (n / 10000) ++ b) = n / 10000 * 10 ^ b.length + dgV b := by
      unfold dgV
      rw [List.foldl_append, dgV_from]
      have := hd.2.1
      unfold dgV at this
      rw [this]
      rfl
    rw [hab]
    have hpow : 10 ^ b.length * 10 ^ k = 10000 := by rw [← Nat.pow_add, hbl]
    have hcross : (n / 10000 * 10 ^ b.length + dgV b) * 10000 = n * 10 ^ b.length := by
      have e5 : n = n / 10000 * 10000 + p := by omega
      have e6 : dgV b * 10000 = p * 10 ^ b.length := by
        rw [← hval, ← hpow, Nat.mul_assoc, Nat.mul_comm (10 ^ k)]
      rw [Nat.add_mul, e6]
      conv => rhs; rw [e5]
      rw [Nat.add_mul, Nat.mul_assoc, Nat.mul_assoc, Nat.mul_comm (10 ^ b.length)]
    have := rat_cross (a := n / 10000 * 10 ^ b.length + dgV b) (b := 10 ^ b.length) (c := n) (d := 10000) (Nat.pos_iff_ne_zero.1 (Nat.pow_pos (by decide))) (by decide) hcross
    rw [Rat.intCast_natCast, Rat.intCast_natCast]
    exact this

theorem shV_val {q : Rat} {n : Nat} (h : shV q = some n) : (n : Rat) / 10000 = q := by
  unfold shV at h
  split at h
  · rename_i hc
    obtain ⟨h1, h2, h3⟩ := hc
    cases h
    have e1 : q * 10000 = ((q * 10000).num : Rat) := by
      conv => lhs; rw [rat_of_mk (q * 10000), h1, Rat.mkRat_one]
    have e2 : (((q * 10000).num.toNat : Nat) : Rat) = ((q * 10000).num : Rat) := by
      rw [← Rat.intCast_natCast, Int.toNat_of_nonneg h2]
    rw [e2, ← e1]
    grind
  · cases h

theorem read_num {q : Rat} (h : (shV q).isSome = true) : numberV (numTx ((shV q).getD 0)) = some q := by
  cases hs : shV q with
  | none => rw [hs] at h; cases h
  | some n =>
    rw [Option.getD_some, num_read (shV_le hs), shV_val hs]

theorem numTx_head (n : Nat) : ∃ x r, numTx n = x :: r ∧ isDg x = true := by
  have h1 := (dec_ok (n / 10000)).1
  unfold numTx
  cases hd : Lib.decDigits (n / 10000) with
  | nil => exact absurd hd h1.1
  | cons x r => exact ⟨x, _, rfl, h1.2 x (by rw [hd]; simp)⟩

theorem isName_head {l : List UInt8} (h : isNameV l = true) : ∃ x r, l = x :: r ∧ isLow x = true := by
  have h' := h
  unfold isNameV at h
  rw [Bool.and_eq_true, decide_eq_true_eq] at h
  cases l with
  | nil => exact absurd rfl h.1.1
  | cons x r =>
    refine ⟨x, r, rfl, ?_⟩
    have := nameAll.1 h.2 0 x rfl
    unfold nameCh at this
    simpa using this

theorem name_notNum {l : List UInt8} (h : isNameV l = true) : numberV l = none := by
  obtain ⟨x, r, rfl, hx⟩ := isName_head h
  unfold isLow at hx
  rw [decide_eq_true_eq] at hx
  have h46 : (x != 46) = true := by
    rw [bne_iff_ne]
    rintro rfl
    revert hx; decide
  unfold numberV
  have hn : dgsB ((x :: r).takeWhile (· != 46)) 9 = false := by
    unfold dgsB
    rw [List.takeWhile_cons, if_pos h46, List.all_cons]
    have : isDg x = false := by
      cases hh : isDg x with
      | false => rfl
      | true => have := isDg_iff.1 hh; omega
    rw [this]
    rfl
  simp only [hn]
  rfl

theorem bin_read {k : Int} {u v : Ex} (ru : RdOk u) (rv : RdOk v) : (k = 3 ∨ k = 4) → ∀ (ts : List (List UInt8)) (X : RT), hdT ts ≠ [42] → hdT ts ≠ [47] → Ev (fun n => qSumL n (op2 k (canE u) (canE v)) ts) X → Ev (fun n => qSum n (parT u.kind 0 (tkE u) ++ (if k = 3 then [43] else [45]) :: parT v.kind 1 (tkE v) ++ ts)) X := fun hk ts X h1 h2 b => by
  have e1 : ∀ w : List UInt8, parT u.kind 0 (tkE u) ++ w :: parT v.kind 1 (tkE v) ++ ts = parT u.kind 0 (tkE u) ++ (w :: (parT v.kind 1 (tkE v) ++ ts)) := fun w => by simp
  rw [e1]
  have hv := op_prod rv ts _ (prodL_end h1 h2)
  rcases hk with rfl | rfl
  · rw [if_pos rfl]
    refine op_sum ru _ X (by rw [hdT_cons]; decide) (by rw [hdT_cons]; decide) (hv.step2 b fun n a c => ?_)
    rw [qSumL, hdT_cons, if_pos rfl, List.tail_cons, a]
    exact c
  · rw [if_neg (by decide)]
    refine op_sum ru _ X (by rw [hdT_cons]; decide) (by rw [hdT_cons]; decide) (hv.step2 b fun n a c => ?_)
    have d1 : ([45] : List UInt8) ≠ [43] := by decide
    rw [qSumL, hdT_cons, if_neg d1, if_pos rfl, List.tail_cons, a]
    exact c

theorem mul_read {k : Int} {u v : Ex} (ru : RdOk u) (rv : RdOk v) : (k = 5 ∨ k = 6) → ∀ (ts : List (List UInt8)) (X : RT), Ev (fun n => qProdL n (op2 k (canE u) (canE v)) ts) X → Ev (fun n => qProd n (parT u.kind 1 (tkE u) ++ (if k = 5 then [42] else [47]) :: parT v.kind 2 (tkE v) ++ ts)) X := fun hk ts X b => by
  have e1 : ∀ w : List UInt8, parT u.kind 1 (tkE u) ++ w :: parT v.kind 2 (tkE v) ++ ts = parT u.kind 1 (tkE u) ++ (w :: (parT v.kind 2 (tkE v) ++ ts)) := fun w => by simp
  rw [e1]
  have hv := op_fac rv ts
  rcases hk with rfl | rfl
  · rw [if_pos rfl]
    refine op_prod ru _ X (hv.step2 b fun n a c => ?_)
    rw [qProdL, hdT_cons, if_pos rfl, List.tail_cons, a]
    exact c
  · rw [if_neg (by decide)]
    refine op_prod ru _ X (hv.step2 b fun n a c => ?_)
    have d1 : ([47] : List UInt8) ≠ [42] := by decide
    rw [qProdL, hdT_cons, if_neg d1, if_pos rfl, List.tail_cons, a]
    exact c

/-- The operands of min and max. -/
theorem call_read {k : Int} : ∀ (es done : List Ex), es ≠ [] → evAll RdOk es → done.length + es.length ≤ 8 → ∀ ts, Ev (fun n => qCallL n k (canL done) (tkJ es ++ [41] :: ts)) (.ok (.mk k 0 0 0 [] (canL (done ++ es)), ts) : RT)
  | [], _, h, _, _, _ => absurd rfl h
  | [e], done, _, ih, hl, ts => by
    have r : RdOk e := ih.1
    have h := r.sum ([41] :: ts) (.ok (canE e, [41] :: ts)) (by rw [hdT_cons]; decide) (by rw [hdT_cons]; decide) (sumL_end (by rw [hdT_cons]; decide) (by rw [hdT_cons]; decide))
    refine h.step fun n a => ?_
    rw [tkJ, qCallL, a]
    simp only [hdT_cons, if_true, List.tail_cons]
    rw [canL_app, canL, canL]
  | e :: e' :: es, done, _, ih, hl, ts => by
    have r : RdOk e := ih.1
    have e1 : tkJ (e :: e' :: es) ++ [41] :: ts = tkE e ++ ([44] :: (tkJ (e' :: es) ++ [41] :: ts)) := by rw [tkJ]; simp
    have h := r.sum ([44] :: (tkJ (e' :: es) ++ [41] :: ts)) (.ok (canE e, [44] :: (tkJ (e' :: es) ++ [41] :: ts))) (by rw [hdT_cons]; decide) (by rw [hdT_cons]; decide) (sumL_end (by rw [hdT_cons]; decide) (by rw [hdT_cons]; decide))
    have h2 := call_read (k := k) (e' :: es) (done ++ [e]) (by simp) ih.2 (by simp at hl ⊢; omega) ts
    refine h.step2 h2 fun n a b => ?_
    have d1 : ([44] : List UInt8) ≠ [41] := by decide
    have d2 : ([44] : List UInt8) ≠ [] := by decide
    have hl8 : ¬ ((canL done).length + 1 = 8) := by rw [canL_len]; simp at hl; omega
    rw [e1, qCallL, a]
    dsimp only
    rw [if_neg (show ¬ hdT ([44] :: (tkJ (e' :: es) ++ [41] :: ts)) = [41] from d1), if_neg (show ¬ hdT ([44] :: (tkJ (e' :: es) ++ [41] :: ts)) = [] from d2), if_neg (show ¬ hdT ([44] :: (tkJ (e' :: es) ++ [41] :: ts)) ≠ [44] from fun q => q rfl), if_neg hl8, List.tail_cons]
    rw [canL_app, canL, canL] at b
    rw [b]
    simp

theorem read_node {k : Int} {q : Rat} {n m : Nat} {nm : List UInt8} {kids : List Ex} (ih : evAll RdOk kids) (ok : okE (.mk k q n m nm kids)) : RdOk (.mk k q n m nm kids) := by
  rw [okE] at ok
  have hops := right_len ok.1
  have hnm := right_nm ok.1
  have hv := right_val ok.1
  simp only [Ex.kind, Ex.kids] at hops
  by_cases k1 : k = 1
  · rw [if_pos k1] at hv
    refine RdOk.of_fac fun ts => Ev.one fun f => ?_
    have hr := read_num hv
    obtain ⟨x, r, hx, hd⟩ := numTx_head ((shV q).getD 0)
    have hxd := isDg_iff.1 hd
    have ne : ∀ (y : UInt8) (w : List UInt8), isDg y = false → numTx ((shV q).getD 0) ≠ y :: w := fun y w hy e => by
      rw [hx] at e
      cases e
      rw [hd] at hy
      cases hy
    rw [tkE, if_pos k1, List.cons_append, List.nil_append, qFac, hdT_cons, if_neg (by rw [hx]; simp), if_neg (ne _ _ (by decide)), if_neg (ne _ _ (by decide)), if_neg (ne _ _ (by decide)), if_neg (ne _ _ (by decide)), hr, canE, if_pos k1]
    rfl
  by_cases k2 : k = 2
  · rw [if_pos k2] at hnm
    refine RdOk.of_fac fun ts => Ev.one fun f => ?_
    have hn := name_notNum hnm
    obtain ⟨x, r, hx, hd⟩ := isName_head hnm
    have hm : nm ≠ [109, 105, 110] ∧ nm ≠ [109, 97, 120] := by
      have := hnm
      unfold isNameV at this
      rw [Bool.and_eq_true, decide_eq_true_eq] at this
      exact ⟨this.1.2.2.1, this.1.2.2.2⟩
    have ne : ∀ (y : UInt8) (w : List UInt8), isLow y = false → nm ≠ y :: w := fun y w hy e => by
      rw [hx] at e
      cases e
      rw [hd] at hy
      cases hy
    rw [tkE, if_neg k1, if_pos k2, List.cons_append, List.nil_append, qFac, hdT_cons, if_neg (by rw [hx]; simp), if_neg (ne _ _ (by decide)), if_neg (ne _ _ (by decide)), if_neg hm.1, if_neg hm.2, hn, canE, if_neg k1, if_pos k2]
    simp only [hnm, if_true]
    rfl
  by_cases k3 : k = 3 ∨ k = 4
  · obtain ⟨u, v, rfl⟩ := kids_two hops (by omega)
    have ru : RdOk u := ih.1
    have rv : RdOk v := ih.2.1
    have hc : clo k = 0 := by unfold clo; rw [if_pos k3]
    have ec : canE (.mk k q n m nm [u, v]) = op2 k (canE u) (canE v) := by rw [canE, if_neg k1, if_neg k2, canL, canL, canL]; rfl
    have et : tkE (.mk k q n m nm [u, v]) = parT u.kind 0 (tkE u) ++ (if k = 3 then [43] else [45]) :: parT v.kind 1 (tkE v) := by
      rw [tkE, if_neg k1, if_neg k2, tkO_get (i := 0) (e := u) rfl, tkO_get (i := 1) (e := v) rfl]
      rcases k3 with e | e
      · rw [if_pos e, if_pos e]
      · rw [if_neg (by omega), if_pos e, if_neg (by omega)]
    refine ⟨fun h => ?_, fun h => ?_, fun ts X h1 h2 b => ?_⟩
    · simp only [Ex.kind] at h; omega
    · simp only [Ex.kind] at h; omega
    · rw [ec] at b
      rw [et]
      exact bin_read ru rv k3 ts X h1 h2 b
  by_cases k5 : k = 5 ∨ k = 6
  · obtain ⟨u, v, rfl⟩ := kids_two hops (by omega)
    have ru : RdOk u := ih.1
    have rv : RdOk v := ih.2.1
    have hc : clo k = 1 := by unfold clo; rw [if_neg k3, if_pos k5]
    have ec : canE (.mk k q n m nm [u, v]) = op2 k (canE u) (canE v) := by rw [canE, if_neg k1, if_neg k2, canL, canL, canL]; rfl
    have et : tkE (.mk k q n m nm [u, v]) = parT u.kind 1 (tkE u) ++ (if k = 5 then [42] else [47]) :: parT v.kind 2 (tkE v) := by
      rw [tkE, if_neg k1, if_neg k2, if_neg (by omega), if_neg (by omega), tkO_get (i := 0) (e := u) rfl, tkO_get (i := 1) (e := v) rfl]
      rcases k5 with e | e
      · rw [if_pos e, if_pos e]
      · rw [if_neg (by omega), if_pos e, if_neg (by omega)]
    refine RdOk.of_prod hc fun ts X b => ?_
    rw [ec] at b
    rw [et]
    exact mul_read ru rv k5 ts X b
  by_cases k7 : k = 7
  · obtain ⟨u, rfl⟩ := kids_one hops k7
    have ru : RdOk u := ih.1
    refine RdOk.of_fac fun ts => (op_fac ru ts).step fun f a => ?_
    have d1 : ([45] : List UInt8) ≠ [] := by decide
    rw [tkE, if_neg k1, if_neg k2, if_neg (by omega), if_neg (by omega), if_neg (by omega), if_neg (by omega), if_pos k7, tkO_get (i := 0) (e := u) rfl, List.cons_append, qFac, hdT_cons, if_neg d1, if_pos rfl, List.tail_cons, a, canE, if_neg k1, if_neg k2, canL, canL, k7]
  obtain ⟨h89, hl1, hl8⟩ := kids_many hops (by omega) (by omega) k7
  have hne : kids ≠ [] := fun e => by rw [e] at hl1; simp at hl1
  refine RdOk.of_fac fun ts => ?_
  have hcl := call_read (k := k) kids [] hne ih (by simpa using hl8) ts
  rw [canL, List.nil_append] at hcl
  have hca : Ev (fun n => qCall n k ([40] :: (tkJ kids ++ [41] :: ts))) (.ok (.mk k 0 0 0 [] (canL kids), ts) : RT) := hcl.step fun f a => by
    rw [qCall]
    simp only [expT, hdT_cons, if_true, List.tail_cons]
    exact a
  have ec : canE (.mk k q n m nm kids) = .mk k 0 0 0 [] (canL kids) := by rw [canE, if_neg k1, if_neg k2]
  have et : tkE (.mk k q n m nm kids) ++ ts = (if k = 9 then [109, 97, 120] else [109, 105, 110]) :: [40] :: (tkJ kids ++ [41] :: ts) := by
    rw [tkE, if_neg k1, if_neg k2, if_neg (by omega), if_neg (by omega), if_neg (by omega), if_neg (by omega), if_neg k7]
    simp
  rw [ec]
  refine hca.step fun f a => ?_
  rw [et, qFac, hdT_cons, List.tail_cons]
  rcases h89 with e | e
  · have d0 : ([109, 105, 110] : List UInt8) ≠ [] := by decide
    have d1 : ([109, 105, 110] : List UInt8) ≠ [45] := by decide
    have d2 : ([109, 105, 110] : List UInt8) ≠ [40] := by decide
    rw [if_neg (show ¬ k = 9 by omega), if_neg d0, if_neg d1, if_neg d2, if_pos rfl, ← e]
    exact a
  · have d0 : ([109, 97, 120] : List UInt8) ≠ [] := by decide
    have d1 : ([109, 97, 120] : List UInt8) ≠ [45] := by decide
    have d2 : ([109, 97, 120] : List UInt8) ≠ [40] := by decide
    have d3 : ([109, 97, 120] : List UInt8) ≠ [109, 105, 110] := by decide
    rw [if_pos (show k = 9 by omega), if_neg d0, if_neg d1, if_neg d2, if_neg d3, if_pos rfl, ← e]
    exact a

mutual
theorem read_all : ∀ e : Ex, okE e → RdOk e
  | .mk k q n m nm kids, h => read_node (read_allL kids (by rw [okE] at h; exact h.2)) h
theorem read_allL : ∀ es : List Ex, okL es → evAll RdOk es
  | [], _ => trivial
  | e :: es, h => by rw [okL] at h; exact ⟨read_all e h.1, read_allL es h.2⟩
end

/-- The formula of a tree, with any spaces in place of each, is read as the tree. -/
theorem read_back {e : Ex} (h : chkV e 1 = 0) {sp : List UInt8} (hsp : ∀ x ∈ sp, x = 32) {s : List UInt8} (hs : tks s = tks (sub sp (txV e))) (hl : s.length ≤ 400) : foParseV s = .ok (canE e) := by
  have ok := chk_okE h
  have hr := (read_all e ok).sum [] (.ok (canE e, [])) (by decide) (by decide) (sumL_end (by decide) (by decide))
  obtain ⟨N, hN⟩ := hr
  have := hN N (Nat.le_refl _)
  rw [List.append_nil] at this
  refine foParseV_tok (n := N) hl ?_ (by rw [can_ok ok]; exact h)
  rw [hs, tks_tx hsp ok]
  exact this

mutual
theorem can_tx : ∀ {e : Ex}, okE e → txV (canE e) = txV e
  | .mk k q n m nm kids, h => by
    rw [okE] at h
    rw [canE]
    by_cases k1 : k = 1
    · subst k1
      rw [if_pos rfl, txV, txV]
      simp
    · rw [if_neg k1]
      by_cases k2 : k = 2
      · subst k2
        rw [if_pos rfl, txV, txV]
        simp
      · rw [if_neg k2, txV, txV]
        simp only [can_txO h.2, can_txL h.2, if_neg k1, if_neg k2]
theorem can_txO : ∀ {es : List Ex}, okL es → ∀ (i : Nat) (req : Int), txO i req (canL es) = txO i req es
  | [], _, i, req => by rw [canL]
  | e :: es, h, 0, req => by
    rw [okL] at h
    rw [canL, txO_get (i := 0) (e := canE e) rfl, txO_get (i := 0) (e := e) rfl, can_kind, can_tx h.1]
  | e :: es, h, i + 1, req => by
    rw [okL] at h
    have h1 := can_txO h.2 i req
    rw [canL]
    cases hc : canE e
    cases e
    rw [txO, txO]
    exact h1
theorem can_txL : ∀ {es : List Ex}, okL es → txL (canL es) = txL es
  | [], _ => by rw [canL]
  | e :: es, h => by
    rw [okL] at h
    rw [canL, txL, txL, can_tx h.1, can_txL h.2]
end
end Go.Proofs.YtdpdaphholileaaGreatDoor

/-
  Contracts: the reference's Same; the law FormulaRoundTrip.
-/
namespace Go.Proofs.YtdpdaphholileaaGreatDoor
open Go Go.Vcg Go.RowKit Go.Sort
attribute [local irreducible] Br

mutual
/-- Equal trees, whatever their limbs. -/
def SameE : Ex → Ex → Prop
  | .mk k q _ _ nm kids, f => k = f.kind ∧ q = f.val ∧ nm = f.name ∧ SameL kids f.kids
def SameL : List Ex → List Ex → Prop
  | [], fs => fs = []
  | e :: es, fs => ∃ f fs', fs = f :: fs' ∧ SameE e f ∧ SameL es fs'
end

theorem SameL.len : ∀ {es fs : List Ex}, SameL es fs → es.length = fs.length
  | [], fs, h => by rw [SameL] at h; subst h; rfl
  | e :: es, fs, h => by
    rw [SameL] at h
    obtain ⟨f, fs', rfl, _, h2⟩ := h
    rw [List.length_cons, List.length_cons, h2.len]

theorem SameL.get : ∀ {es fs : List Ex} {i : Nat} {e f : Ex}, SameL es fs → es[i]? = some e → fs[i]? = some f → SameE e f
  | [], fs, i, e, f, _, he, _ => by simp at he
  | x :: es, fs, i, e, f, h, he, hf => by
    rw [SameL] at h
    obtain ⟨y, fs', rfl, h1, h2⟩ := h
    cases i with
    | zero => simp at he hf; subst he hf; exact h1
    | succ i => exact h2.get (i := i) (by simpa using he) (by simpa using hf)

mutual
theorem SameE.refl : ∀ e : Ex, SameE e e
  | .mk k q n m nm kids => by rw [SameE]; exact ⟨rfl, rfl, rfl, SameL.refl kids⟩
theorem SameL.refl : ∀ es : List Ex, SameL es es
  | [] => by rw [SameL]
  | e :: es => by rw [SameL]; exact ⟨e, es, rfl, SameE.refl e, SameL.refl es⟩
end

mutual
theorem can_same : ∀ {e : Ex}, okE e → SameE (canE e) e
  | .mk k q n m nm kids, h => by
    rw [okE] at h
    have hops := right_len h.1
    have hnm := right_nm h.1
    have hv := right_val h.1
    simp only [Ex.kind, Ex.kids] at hops
    have nul : (foOps k).2 = 0 → kids = [] := fun e => List.length_eq_zero_iff.1 (by rw [e] at hops; omega)
    rw [canE]
    by_cases k1 : k = 1
    · subst k1
      rw [if_neg (by decide)] at hnm
      rw [if_pos rfl, SameE]
      refine ⟨rfl, rfl, hnm.symm, ?_⟩
      rw [SameL]
      exact nul (by decide)
    · rw [if_neg k1] at hv ⊢
      by_cases k2 : k = 2
      · subst k2
        rw [if_pos rfl, SameE]
        refine ⟨rfl, hv.symm, rfl, ?_⟩
        rw [SameL]
        exact nul (by decide)
      · rw [if_neg k2] at hnm ⊢
        rw [SameE]
        exact ⟨rfl, hv.symm, hnm.symm, can_sameL h.2⟩
theorem can_sameL : ∀ {es : List Ex}, okL es → SameL (canL es) es
  | [], _ => by rw [canL, SameL]
  | e :: es, h => by
    rw [okL] at h
    rw [canL, SameL]
    exact ⟨e, es, rfl, can_same h.1, can_sameL h.2⟩
end

/-- What is claimed of a tree. -/
def SmOk (e : Ex) : Prop := ∀ {f : Ex} {h : Heap} {vs ws : List Value}, IsE h e vs → IsE h f ws → Szs e → Szs f → SameE e f →
  CallsU Tryz.prog 20 [.agg vs.toArray, .agg ws.toArray] h fun r h' => r = .bool true ∧ Le h h'

theorem rSame_node {k : Int} {q0 : Rat} {n m : Nat} {nm : List UInt8} {kids : List Ex} (ih : evAll SmOk kids) : SmOk (.mk k q0 n m nm kids) := by
  intro f h vs ws u w z y hs
  have uo := u.open
  have wo := w.open
  obtain ⟨s, A, c, B, d, K, kc, rfl, uq, hc, hk⟩ := uo
  obtain ⟨s2, A2, c2, B2, d2, K2, kc2, rfl, wq, hc2, hk2⟩ := wo
  obtain ⟨z1, z2, z3, z4, z5⟩ := z.open
  obtain ⟨y1, y2, y3, y4, y5⟩ := y.open
  rw [SameE] at hs
  obtain ⟨e1, e2, e3, e4⟩ := hs
  have hlen := e4.len
  simp only [Ex.kids, Ex.ln, Ex.lm, Ex.val, Ex.name] at uq hc hk z1 z2 z3 z4 z5
  apply ref17_Same_ok
  unfold ref17_Same_vc
  have hl1 : (Ex.mk k q0 n m nm kids).kids.length = kids.length := rfl
  rw [hl1, bytes_toList, bytes_toList]
  refine ⟨fun t h' => t = false ∧ Le h h', ?_, Br.mk (fun q => ?_) (fun q => Br.mk (fun q2 => ?_) (fun q2 => ?_))⟩
  · rintro _ h1 ⟨rfl, hle1⟩
    refine Br.mk (fun q => by cases q) (fun _ => ?_)
    refine ⟨fun mm i h' => ∃ j, j ≤ kids.length ∧ mm = kids.length - j ∧ i = (j : Int) ∧ Le h h', ⟨kids.length, 0, by omega, by omega, rfl, hle1⟩, ?_⟩
    rintro mm _ h2 ⟨j, hj, rfl, rfl, hle2⟩
    refine Br.mk (fun q1 => ?_) (fun q1 => ⟨rfl, hle2⟩)
    have hlt : j < kids.length := by have := of_decide_eq_true q1; omega
    obtain ⟨x, hx⟩ : ∃ x, kids[j]? = some x := ⟨_, List.getElem?_eq_getElem hlt⟩
    obtain ⟨x', hx'⟩ : ∃ x', f.kids[j]? = some x' := ⟨_, List.getElem?_eq_getElem (by omega)⟩
    obtain ⟨ad, vs', eA, hld, ux⟩ := kid_ld (e := .mk k q0 n m nm kids) hk hx
    obtain ⟨ad', ws', eA', hld', wx⟩ := kid_ld hk2 hx'
    have ux' := ux
    have wx' := wx
    obtain ⟨sx, Ax, cx, Bx, dx, Kx, kcx, rfl, _, _, _⟩ := ux'.open
    obtain ⟨sy, Ay, cy, By, dy, Ky, kcy, rfl, _, _, _⟩ := wx'.open
    refine ⟨ad, eA, by omega, by omega, _, _, _, _, _, _, _, _, _, _, _, _, by rw [Int.toNat_natCast]; exact LdN.mono hld hle2, ad', eA', by omega, by omega, _, _, _, _, _, _, _, _, _, _, _, _, by rw [Int.toNat_natCast]; exact LdN.mono hld' hle2, ?_⟩
    refine ((ih.get hx) (IsE.mono hle2 _ _ ux) (IsE.mono hle2 _ _ wx) (SzsL.get z5 hx) (SzsL.get y5 hx') (e4.get hx hx')).mono ?_
    rintro _ h3 ⟨rfl, hle3⟩
    refine ⟨_, rfl, Br.mk (fun q => by cases q) (fun _ => ?_)⟩
    rintro _ rfl
    exact ⟨kids.length - (j + 1), by omega, j + 1, by omega, rfl, wi (by omega) (by omega), hle2.trans hle3⟩
  · exfalso
    have e5 : (Ex.mk k q0 n m nm kids).kind = f.kind := e1
    rw [e5] at q
    simp at q
  · exfalso
    have e5 : (Ex.mk k q0 n m nm kids).name = f.name := e3
    rw [e5] at q2
    simp at q2
  · refine (r3cmp_c uq wq (by omega) (by omega) (by omega) (by omega)).mono ?_
    rintro _ h1 ⟨rfl, hle1⟩
    have hc0 : cmpQ q0 f.val = 0 := by rw [e2]; exact cmpQ_self _
    refine ⟨_, rfl, Br.mk (fun q3 => ?_) (fun q3 => ⟨?_, hle1⟩)⟩
    · exfalso
      rw [hc0] at q3
      simp at q3
    · rw [hlen]
      simp

mutual
theorem rSame_all : ∀ e : Ex, SmOk e
  | .mk _ _ _ _ _ kids => rSame_node (rSame_allL kids)
theorem rSame_allL : ∀ es : List Ex, evAll SmOk es
  | [] => trivial
  | e :: es => ⟨rSame_all e, rSame_allL es⟩
end

/-- Parse, for any string. -/
theorem foParseW_c (s : List UInt8) (h : Heap) : CallsU Tryz.prog 18 [sv s] h (FpR (foParseV s) h) := by
  rcases Nat.lt_or_ge 400 s.length with q | q
  · apply formula_Parse_ok
    unfold formula_Parse_vc foParseV
    rw [ba_size]
    refine Br.mk (fun _ => ?_) (fun q2 => ?_)
    · rw [if_pos q]
      exact ⟨Le.refl _, by decide, rfl⟩
    · have := of_decide_eq_false q2
      omega
  · exact foParse_c (fuel400 q) h

theorem prV_ok {e : Ex} {t : List UInt8} (h : prV e = .ok t) : chkV e 1 = 0 ∧ t = txV e ∧ t.length ≤ 400 := by
  unfold prV at h
  split at h
  · split at h
    · cases h
      exact ⟨by assumption, rfl, by assumption⟩
    · cases h
  · cases h
theorem prV_er {e : Ex} {er : Int} (h : prV e = .error er) : er ≠ 0 ∧ (er = 5 ∨ chkV e 1 = er) := by
  unfold prV at h
  split at h
  · split at h
    · cases h
    · cases h
      exact ⟨by decide, Or.inl rfl⟩
  · rename_i h0
    cases h
    exact ⟨h0, Or.inr rfl⟩

end Go.Proofs.YtdpdaphholileaaGreatDoor

/-
  The law FormulaSpaces.
-/
namespace Go.Proofs.YtdpdaphholileaaGreatDoor
open Go Go.Vcg Go.RowKit Go.Sort
attribute [local irreducible] Br

theorem sub_len_le (t : List UInt8) : (sub [] t).length ≤ t.length := by
  induction t with
  | nil => simp [sub_nil]
  | cons x t ih =>
    by_cases h : x = 32
    · subst h; rw [sub_sp]; simp; omega
    · rw [sub_cons h]; simp; omega
theorem sub_len2 (t : List UInt8) : (sub [32, 32] t).length ≤ 2 * t.length := by
  induction t with
  | nil => simp [sub_nil]
  | cons x t ih =>
    by_cases h : x = 32
    · subst h; rw [sub_sp]; simp; omega
    · rw [sub_cons h]; simp; omega

theorem sub_snoc {sp t : List UInt8} {k : Nat} {x : UInt8} (hx : t[k]? = some x) : sub sp (t.take (k + 1)) = sub sp (t.take k) ++ (if x = 32 then sp else [x]) := by
  rw [List.take_add_one, hx, sub_app]
  congr 1
  unfold sub
  simp

theorem ext_one {t : List UInt8} {k : Nat} {x : UInt8} (hx : t[k]? = some x) : (⟨t.toArray⟩ : ByteArray).extract k (k + 1) = ⟨([x] : List UInt8).toArray⟩ := by
  rw [ba_ext]
  have hk := (List.getElem?_eq_some_iff.1 hx).1
  have : (t.take (k + 1)).drop k = [x] := by
    rw [List.take_add_one, hx, List.drop_append, List.drop_eq_nil_of_le (by simp; omega)]
    have : k - (t.take k).length = 0 := by rw [List.length_take]; omega
    rw [this]
    rfl
  rw [this]

/-- What Parse answers, in one shape. -/
theorem FpR.shape {o : Except Int Ex} {h h' : Heap} {r : Value} (u : FpR o h r h') : ∃ (x : Ex) (s : Bool) (A : Option Addr) (c : Nat) (B : Option Addr) (d : Nat) (K : Option Addr) (kc : Nat) (er : Int), r = .tuple #[.agg (cellsE x.kind s A x.ln c B x.lm d x.name K x.kids.length kc).toArray, .int .i64 er] ∧ IsE h' x (cellsE x.kind s A x.ln c B x.lm d x.name K x.kids.length kc) ∧ Szs x ∧ Le h h' ∧ ((o = .ok x ∧ er = 0 ∧ chkV x 1 = 0) ∨ (o = .error er ∧ er ≠ 0 ∧ x = .mk 0 0 0 0 [] [])) := by
  obtain ⟨hl, u⟩ := u
  cases o with
  | error e =>
    obtain ⟨he, rfl⟩ := u
    refine ⟨.mk 0 0 0 0 [] [], false, none, 0, none, 0, none, 0, e, rfl, ?_, ?_, hl, Or.inr ⟨rfl, he, rfl⟩⟩
    · unfold IsE
      exact ⟨false, none, 0, none, 0, none, 0, rfl, IsQ.nul _, Nat.le_refl _, fun q => absurd rfl q⟩
    · unfold Szs SzsL
      exact ⟨by omega, by omega, by simp, by simp, trivial⟩
  | ok x =>
    obtain ⟨vs, rfl, ux, zx, hc⟩ := u
    have ux' := ux
    obtain ⟨s, A, c, B, d, K, kc, rfl, _, _, _⟩ := ux'.open
    exact ⟨x, s, A, c, B, d, K, kc, 0, rfl, ux, zx, hl, Or.inl ⟨rfl, rfl, hc⟩⟩

theorem spaces_law {W : Heap} (s : List UInt8) (tb : Tab W) :
    CallsU Tryz.prog 8 [sv s] W fun v h' => v = .bool true ∧ Le W h' := by
  apply law17_FormulaSpaces_ok
  unfold law17_FormulaSpaces_vc
  have aw : ∀ {h' : Heap} {K : Bool → Heap → Prop}, Le W h' → (∀ h_2, Le W h_2 → K true h_2) → CallsU Tryz.prog 12 [] h' fun v h_2 => ∃ t : Bool, v = Value.bool t ∧ K t h_2 := fun l k => by
    refine (awake_c (tb.mono l)).mono ?_
    rintro _ h2 ⟨rfl, l2⟩
    exact ⟨_, rfl, k _ (l.trans l2)⟩
  have b0 : (⟨#[]⟩ : ByteArray).toList = [] := bytes_toList []
  have c32 : (⟨#[32]⟩ : ByteArray) = ⟨([32] : List UInt8).toArray⟩ := rfl
  have cnil : (⟨#[]⟩ : ByteArray) = ⟨([] : List UInt8).toArray⟩ := rfl
  rw [ba_size]
  refine Br.mk (fun _ => aw (Le.refl _) fun _ l => ⟨rfl, l⟩) (fun q => ?_)
  have hs200 : s.length ≤ 200 := by have := of_decide_eq_false q; omega
  refine (foParse_c (fuel400 (by omega)) W).mono ?_
  intro v h1 hP
  obtain ⟨x, sx, Ax, cx, Bx, dx, Kx, kcx, er, rfl, ux, zx, hl1, hcase⟩ := hP.shape
  refine ⟨_, _, _, _, _, _, _, _, _, _, _, _, _, rfl, ?_⟩
  rcases hcase with ⟨hpx, rfl, hchk⟩ | ⟨hpx, her, rfl⟩
  · refine Br.mk (fun q => by exact absurd q (by decide)) (fun _ => ?_)
    obtain ⟨t, er, hs, ho⟩ := PrR.shape (prV x)
    refine (foPrint_c ux zx (tb.mono hl1)).mono ?_
    rintro _ h2 ⟨rfl, hl2⟩
    have hl12 := hl1.trans hl2
    rw [hs]
    refine ⟨_, _, rfl, ?_⟩
    rcases ho with ⟨ho, rfl⟩ | ⟨ho, rfl⟩
    · obtain ⟨_, ht, hlen⟩ := prV_ok ho
      have hok := chk_okE hchk
      refine Br.mk (fun q => by exact absurd q (by decide)) (fun _ => ?_)
      rw [ba_size]
      refine ⟨fun m a b i h' => ∃ k, k ≤ t.length ∧ m = t.length - k ∧ i = (k : Int) ∧ h2 = h' ∧ a = ⟨(sub [] (t.take k)).toArray⟩ ∧ b = ⟨(32 :: sub [32, 32] (t.take k)).toArray⟩, ⟨t.length, 0, by omega, by omega, rfl, rfl, rfl, rfl⟩, ?_⟩
      rintro m _ _ _ _ ⟨k, hk, rfl, rfl, rfl, rfl, rfl⟩
      refine Br.mk (fun q => ?_) (fun q => ?_)
      · have hlt : k < t.length := by have := of_decide_eq_true q; omega
        obtain ⟨y, hy⟩ : ∃ y, t[k]? = some y := ⟨_, List.getElem?_eq_getElem hlt⟩
        have hl0 := sub_len_le (t.take k)
        have hl3 := sub_len2 (t.take k)
        have hlk : (t.take k).length = k := by rw [List.length_take]; omega
        have w1 : IntKind.i64.wrap ((k : Int) + 1) = ((k + 1 : Nat) : Int) := wi (by omega) (by omega)
        have y32 : (y.toNat : Int) = 32 ↔ y = 32 := by
          constructor
          · intro e
            apply UInt8.toNat_inj.1
            have : (32 : UInt8).toNat = 32 := rfl
            omega
          · rintro rfl; rfl
        refine ⟨fun a h' => h2 = h' ∧ a = ⟨(sub [] (t.take (k + 1))).toArray⟩, ?_, y, by omega, by rw [Int.toNat_natCast, ba_get]; exact hy, ?_⟩
        · rintro _ _ ⟨rfl, rfl⟩ _ rfl
          rw [w1, Int.toNat_natCast, Int.toNat_natCast, ext_one hy, ba_append, ba_size, ba_size]
          refine ⟨by omega, by omega, by omega, by omega, by simp; omega, y, by omega, by rw [ba_get]; exact hy, ?_⟩
          refine Br.mk (fun q2 => ?_) (fun q2 => ?_)
          · have e : y = 32 := y32.1 (beq_iff_eq.1 q2)
            rw [c32, ba_append, ba_size, ba_size]
            refine ⟨by simp; omega, ?_⟩
            rintro _ rfl
            refine ⟨t.length - (k + 1), by omega, k + 1, by omega, rfl, rfl, rfl, rfl, ?_⟩
            rw [sub_snoc hy, if_pos e, e]
            simp
          · have e : y ≠ 32 := fun q => beq_eq_false_iff_ne.1 q2 (y32.2 q)
            rintro _ rfl
            refine ⟨t.length - (k + 1), by omega, k + 1, by omega, rfl, rfl, rfl, rfl, ?_⟩
            rw [sub_snoc hy, if_neg e]
            simp
        · refine Br.mk (fun q2 => ?_) (fun q2 => ⟨rfl, ?_⟩)
          · have e : y ≠ 32 := fun q => by
              have := y32.2 q
              rw [this] at q2
              simp at q2
            rintro _ rfl
            rw [w1, Int.toNat_natCast, Int.toNat_natCast, ext_one hy, ba_append, ba_size, ba_size]
            refine ⟨by omega, by omega, by omega, by omega, by simp; omega, rfl, ?_⟩
            rw [sub_snoc hy, if_neg e]
          · have e : y = 32 := by
              rw [bne_eq_false_iff_eq] at q2
              exact y32.1 q2
            rw [sub_snoc hy, if_pos e, List.append_nil]
      · have hk' : k = t.length := by have := of_decide_eq_false q; omega
        subst hk'
        rw [List.take_length]
        have hln := sub_len_le t
        have tb2 := tb.mono hl12
        have hpn : foParseV (sub [] t) = .ok (canE x) := read_back hchk (sp := []) (by simp) (by rw [ht]) (by omega)
        have hpm : (32 :: sub [32, 32] t).length ≤ 400 → foParseV (32 :: sub [32, 32] t) = .ok (canE x) := fun hlm => read_back hchk (sp := [32, 32]) (by simp) (by rw [tks_sp, ht]) hlm
        have hpm2 : 400 < (32 :: sub [32, 32] t).length → foParseV (32 :: sub [32, 32] t) = .error 5 := fun hlm => by unfold foParseV; rw [if_pos hlm]
        have hfm : pSum 4000 (32 :: sub [32, 32] t) ≠ .error 99 ∨ 400 < (32 :: sub [32, 32] t).length := by
          rcases Nat.lt_or_ge 400 (32 :: sub [32, 32] t).length with q | q
          · exact Or.inr q
          · exact Or.inl (fuel400 q)
        refine (foParse_c (fuel400 (by omega)) h2).mono ?_
        intro v h3 hP3
        rw [hpn] at hP3
        obtain ⟨hl3, ws, rfl, uy, zy, hcy⟩ := hP3
        have uy' := uy
        obtain ⟨sy, Ay, cy, By, dy, Ky, kcy, rfl, _, _, _⟩ := uy'.open
        refine ⟨_, _, _, _, _, _, _, _, _, _, _, _, _, rfl, ?_⟩
        have hl13 := hl12.trans hl3
        refine (foParseW_c (32 :: sub [32, 32] t) h3).mono ?_
        intro v h4 hP4
        obtain ⟨zz, sz, Az, cz, Bz, dz, Kz, kcz, erz, rfl, uz, zzz, hl4, hcz⟩ := hP4.shape
        refine ⟨_, _, _, _, _, _, _, _, _, _, _, _, _, rfl, ?_⟩
        have hl14 := hl13.trans hl4
        have hprc : prV (canE x) = .ok t := by
          unfold prV
          rw [can_ok hok, if_pos hchk, can_tx hok, ← ht, if_pos hlen]
        refine (foPrint_c (IsE.mono hl4 _ _ uy) zy (tb.mono hl14)).mono ?_
        rintro _ h5 ⟨rfl, hl5⟩
        rw [hprc]
        refine ⟨_, _, rfl, ?_⟩
        have hl15 := hl14.trans hl5
        have ux5 := IsE.mono (((hl2.trans hl3).trans hl4).trans hl5) _ _ ux
        have uy5 := IsE.mono (hl4.trans hl5) _ _ uy
        have uz5 := IsE.mono hl5 _ _ uz
        refine Br.mk (fun _ => Br.mk (fun _ => ?_) (fun q => by exact absurd q (by decide))) (fun q => by exact absurd q (by decide))
        have fin : ∀ {h6 : Heap}, Le h5 h6 → CallsU Tryz.prog 20 [.agg (cellsE (canE x).kind sy Ay (canE x).ln cy By (canE x).lm dy (canE x).name Ky (canE x).kids.length kcy).toArray, .agg (cellsE x.kind sx Ax x.ln cx Bx x.lm dx x.name Kx x.kids.length kcx).toArray] h6 fun r h' => r = .bool true ∧ Le h6 h' := fun l =>
          (rSame_all _) (IsE.mono l _ _ uy5) (IsE.mono l _ _ ux5) zy zx (can_same hok)
        refine Br.mk (fun qz => ?_) (fun qz => ?_)
        · have erz0 : erz = 0 := beq_iff_eq.1 qz
          rcases hcz with ⟨hzok, _, hcz1⟩ | ⟨hzer, hne, _⟩
          · have hez : zz = canE x := by
              rcases Nat.lt_or_ge 400 (32 :: sub [32, 32] t).length with q | q
              · rw [hpm2 q] at hzok; cases hzok
              · rw [hpm q] at hzok; exact (Except.ok.inj hzok).symm
            subst hez
            refine ((rSame_all _) uz5 ux5 zzz zx (can_same hok)).mono ?_
            rintro _ h6 ⟨rfl, hl6⟩
            refine ⟨_, rfl, Br.mk (fun _ => ?_) (fun q => by cases q)⟩
            refine (fin hl6).mono ?_
            rintro _ h7 ⟨rfl, hl7⟩
            refine ⟨_, rfl, Br.mk (fun _ => ?_) (fun q => by cases q)⟩
            refine Br.mk (fun _ => ?_) (fun q => by exact absurd q (by decide))
            refine Br.mk (fun _ => aw ((hl15.trans hl6).trans hl7) fun _ l => ⟨rfl, l⟩) (fun q => by simp at q)
          · exact absurd erz0 hne
        · have erz0 : erz ≠ 0 := beq_eq_false_iff_ne.1 qz
          rcases hcz with ⟨_, e0, _⟩ | ⟨hzer, _, _⟩
          · exact absurd e0 erz0
          · have hgt : 400 < (32 :: sub [32, 32] t).length := by
              rcases Nat.lt_or_ge 400 (32 :: sub [32, 32] t).length with q | q
              · exact q
              · rw [hpm q] at hzer; cases hzer
            rw [hpm2 hgt] at hzer
            have e5 : erz = 5 := (Except.error.inj hzer).symm
            subst e5
            rw [ba_size]
            refine Br.mk (fun _ => Br.mk (fun _ => ?_) (fun q => by have := of_decide_eq_false q; omega)) (fun q => by exact absurd q (by decide))
            refine (fin (Le.refl _)).mono ?_
            rintro _ h7 ⟨rfl, hl7⟩
            refine ⟨_, rfl, Br.mk (fun _ => ?_) (fun q => by cases q)⟩
            refine Br.mk (fun _ => ?_) (fun q => by exact absurd q (by decide))
            refine Br.mk (fun _ => aw (hl15.trans hl7) fun _ l => ⟨rfl, l⟩) (fun q => by simp at q)
    · obtain ⟨h0, h5⟩ := prV_er ho
      have e5 : er = 5 := by
        rcases h5 with q | q
        · exact q
        · rw [hchk] at q; exact absurd q.symm h0
      subst e5
      refine Br.mk (fun _ => ?_) (fun q => by exact absurd q (by decide))
      rw [b0]
      refine ⟨fun t h' => t = true ∧ Le W h', fun t h' q => ⟨by rw [q.1], q.2⟩, Br.mk (fun _ => aw hl12 fun _ l => ⟨rfl, l⟩) (fun q => by exact absurd q (by decide))⟩
  · refine Br.mk (fun _ => ?_) (fun q => by rw [bne_eq_false_iff_eq] at q; exact absurd q her)
    refine ⟨fun t h' => t = true ∧ Le W h', fun t h' q => ⟨by rw [q.1], q.2⟩, ?_⟩
    have u0 : IsE h1 (.mk 0 0 0 0 [] []) zE := by
      unfold IsE
      exact ⟨false, none, 0, none, 0, none, 0, rfl, IsQ.nul _, Nat.le_refl _, fun q => absurd rfl q⟩
    refine ((rSame_all _) ux u0 zx zx (SameE.refl _)).mono ?_
    rintro _ h2 ⟨rfl, hl2⟩
    exact ⟨_, rfl, Br.mk (fun _ => aw (hl1.trans hl2) fun _ l => ⟨rfl, l⟩) (fun q => by cases q)⟩
end Go.Proofs.YtdpdaphholileaaGreatDoor

/-
  From a contract over the whole visible heap to the given row: the law returns true and the arguments read as before.
-/
namespace Go.Proofs.YtdpdaphholileaaGreatDoor
open Go Go.Vcg Go.RowKit Go.WideShapes Go.ChangeShapes

/-- All blocks of cells. -/
def full (W : World) : Heap := fun k =>
  match W.heap[k]? with
  | some (.cells cs ty fz) => bif plainB ⟨cs.toList, ty, fz⟩ then some ⟨cs.toList, ty, fz⟩ else none
  | _ => none

theorem full_sat (W : World) : Sat (full W) W := by
  intro k b hb
  unfold full at hb
  split at hb
  · rename_i cs ty fz e
    cases hp : plainB ⟨cs.toList, ty, fz⟩ with
    | false => rw [hp] at hb; cases hb
    | true =>
      rw [hp] at hb
      cases hb
      exact .mk' hp (by rw [e])
  · cases hb

theorem calls_full {P : Program} {f : FuncId} {args : List Value} {W : World} (c : CallsU P f args (full W) fun v h' => v = .bool true ∧ Le (full W) h') :
    Calls P f args.toArray W fun e W' => e = .returned (.bool true) ∧ Below W.heap.size W W' := by
  refine (c.2 W (full_sat W)).mono ?_
  rintro e W' ⟨v, h', rfl, ⟨rfl, hl⟩, hs, fr⟩
  refine ⟨rfl, ⟨fr.os, fr.tape, fr.output, fr.size, fun k hk => ?_⟩⟩
  cases e : full W k with
  | none => exact (fr.keep k hk e).2
  | some b =>
    have hp : plainB b = true := by
      unfold full at e
      split at e
      · rename_i cs ty fz _
        cases hp : plainB ⟨cs.toList, ty, fz⟩ with
        | false => rw [hp] at e; cases e
        | true => rw [hp] at e; cases e; exact hp
      · cases e
    rw [(hs k b (hl k b e)).cells hp, (full_sat W k b e).cells hp]

section
variable {H : Type} {enc : TypeId × Value → H} {P : Program}

/-- The arguments read as before. -/
theorem trodAll_below (hl : laidOutB P = true) {W W' : World} (hb : Below W.heap.size W W') {sp : Nat → Bool} :
    ∀ {ts : List TypeId} {vs : List Value} {ds : List (DataW H)} {ps : List MemPlace}, (ts.all fun t => P.readableRec t && decide (t < P.types.size)) = true →
      DataW.TrodAll enc P W 0 (fun _ => true) true ts vs ds ps → (∀ p ∈ ps, sp p.block = true) → DataW.TrodAll enc P W' 0 sp true ts vs ds ps
  | [], [], [], _, _, h, _ => h
  | [], [], _ :: _, _, _, h, _ => h.elim
  | [], _ :: _, _, _, _, h, _ => h.elim
  | _ :: _, [], _, _, _, h, _ => h.elim
  | _ :: _, _ :: _, [], _, _, h, _ => h.elim
  | t :: ts, v :: vs, d :: ds, ps, hr, h, hsp => by
    have hlt := h.lt
    obtain ⟨p, q, h1, h2, rfl⟩ := h
    simp only [List.all_cons, Bool.and_eq_true, decide_eq_true_eq] at hr
    exact ⟨p, q, WideElems.Trod_stays hl hr.1.1 hr.1.2 h1 (fun x hx => hb.same (hlt x (by simp [hx]))) (fun x hx => hsp x (by simp [hx])),
      trodAll_below hl hb (by simpa using hr.2) h2 fun x hx => hsp x (by simp [hx]), rfl⟩

theorem law_post {fn : Func} {s : ChangeSpec} {apart fresh handsOn : Bool} {W W' : World} {args : Array Value} {ds : List (DataW H)} {before : List MemPlace} {tb : TypeId} (hl : laidOutB P = true) (hv : s.vars = [])
    (hW : DataW.Whole enc P fn.params.toList s.vars apart W args.toList ds [] before) (hr : fn.resultTypes = #[tb]) (htb : P.underlying tb = some .bool)
    (hread : (fn.params.toList.all fun t => P.readableRec t && decide (t < P.types.size)) = true)
    (hspec : s.fn H ds = { results := [.lit (.bool true)], args := ds }) (hb : Below W.heap.size W W') :
    s.post enc P fn apart fresh handsOn false W args (.bool true) W' := by
  have hlt : ∀ p ∈ before, p.block < W.heap.size := fun p hp => hW.lt p hp
  have hW' := hW
  obtain ⟨p, q, hA, hV, e, _, _⟩ := hW
  rw [hv] at hV
  have eq : q = [] := hV
  subst eq
  rw [List.append_nil] at e
  subst e
  refine ⟨ds, [], before, [], before, [], hW', ?_, ?_, ?_, World.keptBut_mono (fun p hp => ⟨hp, Or.inr (Or.inl hp)⟩) (hb.frame (· ∈ before)), fun h => by cases h⟩
  · rw [List.append_nil, hspec, hr]
    exact trodAll_mk1 (shut_bool htb true)
  · rw [List.append_nil, hspec]
    exact trodAll_below hl hb hread hA fun x hx => by simpa using hlt x hx
  · rw [List.append_nil, hspec, hv]
    rfl
end

theorem own : ownKnob Tryz.prog.godebug = none := by kernel_rfl
theorem laidOut : laidOutB Tryz.prog = true := by kernel_rfl

section
variable {H : Type} {enc : TypeId × Value → H}

theorem trodAll_len {P : Program} {w : World} {b : Nat} {sp : Nat → Bool} {hd : Bool} : ∀ {ts : List TypeId} {vs : List Value} {ds : List (DataW H)} {ps : List MemPlace}, DataW.TrodAll enc P w b sp hd ts vs ds ps → ds.length = ts.length
  | [], [], [], _, _ => rfl
  | [], [], _ :: _, _, h => h.elim
  | [], _ :: _, _, _, h => h.elim
  | _ :: _, [], _, _, h => h.elim
  | _ :: _, _ :: _, [], _, h => h.elim
  | _ :: _, _ :: _, _ :: _, _, h => by
    obtain ⟨p, q, _, h2, _⟩ := h
    simp [trodAll_len h2]

set_option maxRecDepth 100000 in
theorem lifted_of {f : FuncId} {fn : Func} {s : ChangeSpec} {laid : List (String × DataW Unit)} {tb : TypeId} {os : Os} (started : os.Started) (noInit : Tryz.prog.inits.idxOf? f = none) (hfn : Tryz.prog.funcs[f]? = some fn)
    (witness : ∃ (w : World) (tape : Tape) (i : Input), w.os = os ∧ (w.forCall tape i).Shaped Tryz.checked.prog ∧ i.vars = [] ∧ Input.okWide Tryz.checked.prog (w.forCall tape i) .any w.heap.size f i ∧
      ((s.pre enc Tryz.checked.prog fn [] false (w.forCall tape i).memory i.args ∧ laidMetH Tryz.prog laid (w.forCall tape i).memory) ∧ sizedMet enc Tryz.checked.prog fn (OpenSpec.ofChange s) false (w.forCall tape i).memory i.args) ∧ ({} : Assume).holds Tryz.checked.prog (lone (Frame.enter Tryz.checked.prog f i.args .normal) [] (w.forCall tape i)))
    (hv : s.vars = []) (hr : fn.resultTypes = #[tb]) (htb : Tryz.prog.underlying tb = some .bool)
    (hread : (fn.params.toList.all fun t => Tryz.prog.readableRec t && decide (t < Tryz.prog.types.size)) = true)
    (hspec : ∀ ds : List (DataW H), ds.length = fn.params.toList.length → s.fn H ds = { results := [.lit (.bool true)], args := ds })
    (hcall : ∀ (W : World) (base : Nat) (args : Array Value) (ds : List (DataW H)) (p : List MemPlace), (∀ (j : Nat) t v, fn.params[j]? = some t → args[j]? = some v → Value.okWide Tryz.prog W .any base t v) →
      DataW.TrodAll enc Tryz.prog W 0 (fun _ => true) true fn.params.toList args.toList ds p → (DataW.weightsEach Tryz.prog fn.params.toList ds).all (· ≤ reachBytes) = true → laidMetH Tryz.prog laid W →
      CallsU Tryz.prog f args.toList (full W) fun v h' => v = .bool true ∧ Le (full W) h') :
    ReturnsInHanded {} Tryz.checked os f .any (fun w args => (s.pre enc Tryz.prog fn [] false w args ∧ laidMetH Tryz.prog laid w) ∧ sizedMet enc Tryz.prog fn (OpenSpec.ofChange s) false w args)
      (s.post enc Tryz.prog fn false true false false) := by
  refine returnsInHanded_of_change_and (C := Tryz.checked) (X := fun w _ => laidMetH Tryz.prog laid w) (fun _ _ _ hh h => h.of_heap hh) own started noInit hfn witness ?_
  intro W base args ds gs before hval hW _ hsz hL _
  have hW' := hW
  obtain ⟨p, q, hA, hV, e, _, _⟩ := hW
  rw [hv] at hV
  have hgs : gs = [] := by
    cases gs with
    | nil => rfl
    | cons g r => exact hV.elim
  subst hgs
  have hvt : s.plain.varTypes Tryz.checked.prog = [] := by
    unfold DataSpec.varTypes
    show List.filterMap _ s.vars = []
    rw [hv]
    rfl
  rw [hvt, List.append_nil, List.append_nil] at hsz
  have hc := calls_full (hcall W base args ds p hval hA hsz hL)
  rw [Array.toArray_toList] at hc
  refine hc.mono ?_
  rintro e W' ⟨rfl, hb⟩
  exact ⟨_, rfl, law_post laidOut hv hW' hr htb hread (hspec ds (trodAll_len hA)) hb⟩
end

end Go.Proofs.YtdpdaphholileaaGreatDoor

/-
  Arguments that are natural numbers, integers, ratios and strings, and the table of the powers of ten, as the whole visible heap holds them.
-/
namespace Go.Proofs.YtdpdaphholileaaGreatDoor
open Go Go.Vcg Go.RowKit Go.WideShapes Go.ChangeShapes Go.Joins Go.MakeChecks

theorem full_of {W : World} {k : Nat} {cs : Array Value} {ty : TypeId} {fz : Nat × Nat} (h : W.heap[k]? = some (.cells cs ty fz)) (hp : 0 < cs.size) : full W k = some ⟨cs.toList, ty, fz⟩ := by
  unfold full
  rw [h]
  have : plainB ⟨cs.toList, ty, fz⟩ = true := by
    unfold plainB
    have : cs.toList.isEmpty = false := by
      cases hc : cs.toList with
      | nil => rw [← Array.length_toList, hc] at hp; simp at hp
      | cons => rfl
    rw [this]; rfl
  simp only [this, cond_true]

theorem tab_laid {x y : String × DataW Unit} {rest : List (String × DataW Unit)} {W : World} (hp : ((x :: y :: ("internal/strconv.uint64pow10", Lib.tabData .u64 Lib.pow10Tab) :: rest).all fun x => x.2.handleName?.isNone) = true)
    (h : laidMetH Tryz.prog (x :: y :: ("internal/strconv.uint64pow10", Lib.tabData .u64 Lib.pow10Tab) :: rest) W) : Tab (full W) := by
  rw [laidMetH_plain _ _ _ hp] at h
  have ht : Lib.TabIs Tryz.prog W "internal/strconv.uint64pow10" .u64 Lib.pow10Tab :=
    Lib.tabIs_of_head (g := 1) (t := 202) (e := 107) (n := 20) (by kernel_rfl) (by kernel_rfl) (by kernel_rfl) (by kernel_rfl) (by kernel_rfl) (by kernel_rfl) h.tail.tail
  unfold Lib.TabIs World.var? at ht
  have hg : Tryz.prog.globalNamed "internal/strconv.uint64pow10" = some 1 := by kernel_rfl
  rw [hg, Option.bind_some] at ht
  split at ht
  · rename_i cs ty fz e
    have hc := Option.some.inj ht
    refine ⟨_, full_of e (by rw [hc]; decide), ?_⟩
    rw [hc]
  · cases ht

section
variable {H : Type} {enc : TypeId × Value → H} {W : World} {base fuel : Nat} {sp : Nat → Bool} {held : Bool}

set_option maxRecDepth 100000 in
/-- A string among the arguments. -/
theorem str_arg {r : Reach} {b0 : Nat} {v : Value} {d : DataW H} {p : List MemPlace} (hval : Value.okWide Tryz.prog W r b0 9 v) (h : DataW.Trod enc Tryz.prog W base sp held 9 v d p) : ∃ l : List UInt8, v = sv l := by
  obtain ⟨s, rfl, _⟩ := Go.ChangeMaps.open_string Tryz.underlying9 hval h
  exact ⟨s.data.toList, by cases s; rfl⟩
end
end Go.Proofs.YtdpdaphholileaaGreatDoor

/-
  Arguments that are trees and measures, as the whole visible heap holds them.
-/
namespace Go.Proofs.YtdpdaphholileaaGreatDoor
open Go Go.Vcg Go.RowKit Go.WideShapes Go.ChangeShapes Go.Joins Go.MakeChecks

section
variable {H : Type} {enc : TypeId × Value → H} {W : World} {base : Nat} {sp : Nat → Bool} {held : Bool}

instance : Inhabited Ex := ⟨.mk 0 0 0 0 [] []⟩
instance : Inhabited Meas := ⟨⟨[], 0, 0, 0⟩⟩

end
end Go.Proofs.YtdpdaphholileaaGreatDoor
