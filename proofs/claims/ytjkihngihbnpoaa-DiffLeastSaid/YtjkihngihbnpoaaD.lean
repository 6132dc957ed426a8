/-
  THE PROGRAM'S HUNKS are the walk's.
-/
import Derived.Test.YtjkihngihbnpoaaC
import Derived.Test.YtjkihngihbnpoaaB
set_option linter.unusedSimpArgs false
set_option linter.unusedVariables false
namespace Go.Ev.Pl
open Go.Proofs

theorem L10_keep (N n : Nat) (x y : Ls) (i j : Nat) (vs : List Hd) (h7 : Bool) (v0 : Int) (v1 v2 : Ls) (b8 : Bool) (hx : x.length ≤ 1000) (hy : y.length ≤ 1000) (hi : i < x.length) (hj : j < y.length) (h2 : x[i] = y[j]) :
    L10 N (n + 1) ((x, y, tabK x y, (), (), (i : Int), (), (), ()), ((vs, h7, v0, v1, v2, ()), (b8, ()), ((j : Int), ()), ())) = L10 N n ((x, y, tabK x y, (), (), ((i : Int) + 1), (), (), ()), ((vs, h7, v0, v1, v2, ()), (false, ()), (((j : Int) + 1), ()), ())) := by
  rw [L10_succ]
  dsimp only [Ty.den, Sh.den]
  have tl := tabK_length x y
  have ti : ∀ z, List.getD (tabK x y) i z = rowK (x.drop i) y := fun z => tb_getD (by omega) z
  have rj : ∀ u z, List.getD (rowK u y) j z = ((K u (y.drop j) : Nat) : Int) := fun u z => tb_getD (by omega) z
  have ti1 : ∀ z, List.getD (tabK x y) (i + 1) z = rowK (x.drop (i + 1)) y := fun z => tb_getD (by omega) z
  have rj1 : ∀ u z, List.getD (rowK u y) (j + 1) z = ((K u (y.drop (j + 1)) : Nat) : Int) := fun u z => tb_getD (by omega) z
  have gx : List.getD x i (Ty.zero .str) = x[i] := by simp [List.getD_eq_getElem?_getD, List.getElem?_eq_getElem hi]
  have gy : List.getD y j (Ty.zero .str) = y[j] := by simp [List.getD_eq_getElem?_getD, List.getElem?_eq_getElem hj]
  have hk : K (x.drop i) (y.drop j) = K (x.drop (i + 1)) (y.drop (j + 1)) + 1 := by
    rw [List.drop_eq_getElem_cons hi, List.drop_eq_getElem_cons hj, h2, K_eq]
  have hb : K (x.drop (i + 1)) (y.drop (j + 1)) ≤ y.length := K_lt (j + 1)
  have d2 : decide (x[i] = y[j]) = true := decide_eq_true h2
  repeat first
    | simp (disch := omega) only [↓ite_dec, ↓ite_ndec, ↓ite_f, ↓ite_nf, ↓if_pos, ite_dec', ite_ndec', ite_f', ite_nf', ite_pos', w64, tn0, tn1, tl, ti, ti1, rowK_length, rj, rj1, gx, gy, d2, List.length_cons, List.length_nil, Option.bind_some, Ctl.elim, if_true, Bool.false_eq_true, if_false, true_and, and_self]
    | dsimp only [Ty.den, Sh.den]

theorem L10_drop1 (N n : Nat) (x y : Ls) (i j : Nat) (vs : List Hd) (h7 : Bool) (v0 : Int) (v1 v2 : Ls) (b8 : Bool) (hx : x.length ≤ 1000) (hy : y.length ≤ 1000) (zs : List Hd) (c0 : Int) (c1 c2 : Ls) (hg : g26 (((), (), (), ()), (vs, h7, v0, v1, v2, ()), (b8, ()), ((j : Int), ()), ()) = some (((zs.length : Int), ()), ((zs, true, (c0, c1, c2, ())), (true, ()), ((j : Int), ()), ()))) (l1 : c1.length ≤ 1000) (l2 : c2.length ≤ 1000) (hi : i < x.length) (hj : j = y.length) :
    L10 N (n + 1) ((x, y, tabK x y, (), (), (i : Int), (), (), ()), ((vs, h7, v0, v1, v2, ()), (b8, ()), ((j : Int), ()), ())) = L10 N n ((x, y, tabK x y, (), (), ((i : Int) + 1), (), (), ()), ((zs, true, c0, c1 ++ [x[i]], c2, ()), (true, ()), ((j : Int), ()), ())) := by
  subst hj
  rw [L10_succ]
  dsimp only [Ty.den, Sh.den]
  have gx : List.getD x i (Ty.zero .str) = x[i] := by simp [List.getD_eq_getElem?_getD, List.getElem?_eq_getElem hi]
  have num : (2 : Nat) ^ 40 = 1099511627776 := rfl
  repeat first
    | simp (disch := omega) only [↓ite_dec, ↓ite_ndec, ↓ite_f, ↓ite_nf, ↓if_pos, ite_dec', ite_ndec', ite_f', ite_nf', ite_pos', w64, tn0, tn1, rowK_length, gx, hg, List.length_cons, List.length_nil, Option.bind_some, Ctl.elim, if_true, Bool.false_eq_true, if_false, true_and, and_self, num]
    | dsimp only [Ty.den, Sh.den]

theorem L10_drop2 (N n : Nat) (x y : Ls) (i j : Nat) (vs : List Hd) (h7 : Bool) (v0 : Int) (v1 v2 : Ls) (b8 : Bool) (hx : x.length ≤ 1000) (hy : y.length ≤ 1000) (zs : List Hd) (c0 : Int) (c1 c2 : Ls) (hg : g26 (((), (), (), ()), (vs, h7, v0, v1, v2, ()), (b8, ()), ((j : Int), ()), ()) = some (((zs.length : Int), ()), ((zs, true, (c0, c1, c2, ())), (true, ()), ((j : Int), ()), ()))) (l1 : c1.length ≤ 1000) (l2 : c2.length ≤ 1000) (hi : i < x.length) (hj : j < y.length) (h2 : ¬ x[i] = y[j]) (hle : K (x.drop i) (y.drop (j + 1)) ≤ K (x.drop (i + 1)) (y.drop j)) :
    L10 N (n + 1) ((x, y, tabK x y, (), (), (i : Int), (), (), ()), ((vs, h7, v0, v1, v2, ()), (b8, ()), ((j : Int), ()), ())) = L10 N n ((x, y, tabK x y, (), (), ((i : Int) + 1), (), (), ()), ((zs, true, c0, c1 ++ [x[i]], c2, ()), (true, ()), ((j : Int), ()), ())) := by
  rw [L10_succ]
  dsimp only [Ty.den, Sh.den]
  have tl := tabK_length x y
  have ti : ∀ z, List.getD (tabK x y) i z = rowK (x.drop i) y := fun z => tb_getD (by omega) z
  have rj : ∀ u z, List.getD (rowK u y) j z = ((K u (y.drop j) : Nat) : Int) := fun u z => tb_getD (by omega) z
  have ti1 : ∀ z, List.getD (tabK x y) (i + 1) z = rowK (x.drop (i + 1)) y := fun z => tb_getD (by omega) z
  have rj1 : ∀ u z, List.getD (rowK u y) (j + 1) z = ((K u (y.drop (j + 1)) : Nat) : Int) := fun u z => tb_getD (by omega) z
  have gx : List.getD x i (Ty.zero .str) = x[i] := by simp [List.getD_eq_getElem?_getD, List.getElem?_eq_getElem hi]
  have gy : List.getD y j (Ty.zero .str) = y[j] := by simp [List.getD_eq_getElem?_getD, List.getElem?_eq_getElem hj]
  have num : (2 : Nat) ^ 40 = 1099511627776 := rfl
  have d2 : decide (x[i] = y[j]) = false := decide_eq_false h2
  repeat first
    | simp (disch := omega) only [↓ite_dec, ↓ite_ndec, ↓ite_f, ↓ite_nf, ↓if_pos, ite_dec', ite_ndec', ite_f', ite_nf', ite_pos', w64, tn0, tn1, tl, ti, ti1, rowK_length, rj, rj1, gx, gy, d2, hg, List.length_cons, List.length_nil, Option.bind_some, Ctl.elim, if_true, Bool.false_eq_true, if_false, true_and, and_self, num]
    | dsimp only [Ty.den, Sh.den]

theorem L10_ins1 (N n : Nat) (x y : Ls) (i j : Nat) (vs : List Hd) (h7 : Bool) (v0 : Int) (v1 v2 : Ls) (b8 : Bool) (hx : x.length ≤ 1000) (hy : y.length ≤ 1000) (zs : List Hd) (c0 : Int) (c1 c2 : Ls) (hg : g26 (((), (), (), ()), (vs, h7, v0, v1, v2, ()), (b8, ()), ((j : Int), ()), ()) = some (((zs.length : Int), ()), ((zs, true, (c0, c1, c2, ())), (true, ()), ((j : Int), ()), ()))) (l1 : c1.length ≤ 1000) (l2 : c2.length ≤ 1000) (hi : i = x.length) (hj : j < y.length) :
    L10 N (n + 1) ((x, y, tabK x y, (), (), (i : Int), (), (), ()), ((vs, h7, v0, v1, v2, ()), (b8, ()), ((j : Int), ()), ())) = L10 N n ((x, y, tabK x y, (), (), (i : Int), (), (), ()), ((zs, true, c0, c1, c2 ++ [y[j]], ()), (true, ()), (((j : Int) + 1), ()), ())) := by
  subst hi
  rw [L10_succ]
  dsimp only [Ty.den, Sh.den]
  have gy : List.getD y j (Ty.zero .str) = y[j] := by simp [List.getD_eq_getElem?_getD, List.getElem?_eq_getElem hj]
  have num : (2 : Nat) ^ 40 = 1099511627776 := rfl
  repeat first
    | simp (disch := omega) only [↓ite_dec, ↓ite_ndec, ↓ite_f, ↓ite_nf, ↓if_pos, ite_dec', ite_ndec', ite_f', ite_nf', ite_pos', w64, tn0, tn1, rowK_length, gy, hg, List.length_cons, List.length_nil, Option.bind_some, Ctl.elim, if_true, Bool.false_eq_true, if_false, true_and, and_self, num]
    | dsimp only [Ty.den, Sh.den]

theorem L10_ins2 (N n : Nat) (x y : Ls) (i j : Nat) (vs : List Hd) (h7 : Bool) (v0 : Int) (v1 v2 : Ls) (b8 : Bool) (hx : x.length ≤ 1000) (hy : y.length ≤ 1000) (zs : List Hd) (c0 : Int) (c1 c2 : Ls) (hg : g26 (((), (), (), ()), (vs, h7, v0, v1, v2, ()), (b8, ()), ((j : Int), ()), ()) = some (((zs.length : Int), ()), ((zs, true, (c0, c1, c2, ())), (true, ()), ((j : Int), ()), ()))) (l1 : c1.length ≤ 1000) (l2 : c2.length ≤ 1000) (hi : i < x.length) (hj : j < y.length) (h2 : ¬ x[i] = y[j]) (hle : ¬ K (x.drop i) (y.drop (j + 1)) ≤ K (x.drop (i + 1)) (y.drop j)) :
    L10 N (n + 1) ((x, y, tabK x y, (), (), (i : Int), (), (), ()), ((vs, h7, v0, v1, v2, ()), (b8, ()), ((j : Int), ()), ())) = L10 N n ((x, y, tabK x y, (), (), (i : Int), (), (), ()), ((zs, true, c0, c1, c2 ++ [y[j]], ()), (true, ()), (((j : Int) + 1), ()), ())) := by
  rw [L10_succ]
  dsimp only [Ty.den, Sh.den]
  have tl := tabK_length x y
  have ti : ∀ z, List.getD (tabK x y) i z = rowK (x.drop i) y := fun z => tb_getD (by omega) z
  have rj : ∀ u z, List.getD (rowK u y) j z = ((K u (y.drop j) : Nat) : Int) := fun u z => tb_getD (by omega) z
  have ti1 : ∀ z, List.getD (tabK x y) (i + 1) z = rowK (x.drop (i + 1)) y := fun z => tb_getD (by omega) z
  have rj1 : ∀ u z, List.getD (rowK u y) (j + 1) z = ((K u (y.drop (j + 1)) : Nat) : Int) := fun u z => tb_getD (by omega) z
  have gx : List.getD x i (Ty.zero .str) = x[i] := by simp [List.getD_eq_getElem?_getD, List.getElem?_eq_getElem hi]
  have gy : List.getD y j (Ty.zero .str) = y[j] := by simp [List.getD_eq_getElem?_getD, List.getElem?_eq_getElem hj]
  have num : (2 : Nat) ^ 40 = 1099511627776 := rfl
  have d2 : decide (x[i] = y[j]) = false := decide_eq_false h2
  repeat first
    | simp (disch := omega) only [↓ite_dec, ↓ite_ndec, ↓ite_f, ↓ite_nf, ↓if_pos, ite_dec', ite_ndec', ite_f', ite_nf', ite_pos', w64, tn0, tn1, tl, ti, ti1, rowK_length, rj, rj1, gx, gy, d2, hg, List.length_cons, List.length_nil, Option.bind_some, Ctl.elim, if_true, Bool.false_eq_true, if_false, true_and, and_self, num]
    | dsimp only [Ty.den, Sh.den]

/-- The hunks that are whole, and the one that is open. -/
def whole (vs : List Hd) (h7 : Bool) (v : Hd) : List Hd := if h7 = true then vs ++ [v] else vs

def Rep (out : List Hd) (c : Option (Hk ByteArray)) (vs : List Hd) (h7 : Bool) (v : Hd) (b8 : Bool) : Prop :=
  match c with
  | none => b8 = false ∧ whole vs h7 v = out
  | some h => b8 = true ∧ h7 = true ∧ vs = out ∧ v = hd h

theorem g26_ev {out : List Hd} {c : Option (Hk ByteArray)} {vs : List Hd} {h7 : Bool} {v0 : Int} {v1 v2 : Ls} {b8 : Bool} (hr : Rep out c vs h7 (v0, v1, v2, ()) b8) (ho : out.length ≤ 10000) (j : Nat) :
    g26 (((), (), (), ()), (vs, h7, v0, v1, v2, ()), (b8, ()), ((j : Int), ()), ()) = some (((out.length : Int), ()), ((out, true, hd (c.getD ⟨j, [], []⟩)), (true, ()), ((j : Int), ()), ())) := by
  have num : appendMost = 1099511627776 := rfl
  cases c with
  | none =>
    obtain ⟨rfl, hw⟩ := hr
    unfold whole at hw
    unfold g26
    dsimp only
    have hl : vs.length ≤ out.length := by rw [← hw]; split <;> simp
    rw [if_neg (by simp), if_pos (by omega), hw]
    rfl
  | some h =>
    obtain ⟨rfl, rfl, rfl, hv⟩ := hr
    unfold g26
    dsimp only
    rw [if_pos rfl, if_pos ⟨rfl, by omega⟩, hv]
    rfl

theorem L10_ev (N : Nat) (x y : Ls) (hx : x.length ≤ 1000) (hy : y.length ≤ 1000) : ∀ (d i j n : Nat) (out : List Hd) (c : Option (Hk ByteArray)) (vs : List Hd) (h7 : Bool) (v0 : Int) (v1 v2 : Ls) (b8 : Bool),
    (x.length - i) + (y.length - j) ≤ d → i ≤ x.length → j ≤ y.length → d < n → out.length ≤ i + j → Rep out c vs h7 (v0, v1, v2, ()) b8 →
    (∀ h, c = some h → 0 < h.size ∧ h.old.length ≤ i ∧ h.new.length ≤ j) →
    ∃ vs' h7' w0 w1 w2 b8' j', L10 N n ((x, y, tabK x y, (), (), (i : Int), (), (), ()), ((vs, h7, v0, v1, v2, ()), (b8, ()), ((j : Int), ()), ())) = some (Ctl.exit 0, ((), ()), (vs', h7', w0, w1, w2, ()), (b8', ()), (j', ()), ()) ∧
      whole vs' h7' (w0, w1, w2, ()) = out ++ (walk (x.drop i) (y.drop j) j c).map hd := by
  have fin : ∀ (n : Nat) (out : List Hd) (c : Option (Hk ByteArray)) (vs : List Hd) (h7 : Bool) (v0 : Int) (v1 v2 : Ls) (b8 : Bool), Rep out c vs h7 (v0, v1, v2, ()) b8 →
      ∃ vs' h7' w0 w1 w2 b8' j', L10 N (n + 1) ((x, y, tabK x y, (), (), (x.length : Int), (), (), ()), ((vs, h7, v0, v1, v2, ()), (b8, ()), ((y.length : Int), ()), ())) = some (Ctl.exit 0, ((), ()), (vs', h7', w0, w1, w2, ()), (b8', ()), (j', ()), ()) ∧
        whole vs' h7' (w0, w1, w2, ()) = out ++ (walk (x.drop x.length) (y.drop y.length) y.length c).map hd := by
    intro n out c vs h7 v0 v1 v2 b8 hr
    refine ⟨vs, h7, v0, v1, v2, b8, (y.length : Int), ?_, ?_⟩
    · rw [L10_succ]
      dsimp only [Ty.den, Sh.den]
      simp only [Int.lt_irrefl, decide_false, if_true, Option.bind_some, Bool.false_eq_true, if_false]
    · rw [List.drop_length, List.drop_length, walk]
      cases c with
      | none => simpa using hr.2
      | some h =>
        obtain ⟨_, rfl, rfl, hv⟩ := hr
        simp [whole, hv]
  intro d
  induction d with
  | zero =>
    intro i j n out c vs h7 v0 v1 v2 b8 hd1 hi hj hn ho hr hc
    obtain ⟨n, rfl⟩ : ∃ k, n = k + 1 := ⟨n - 1, by omega⟩
    have ei : i = x.length := by omega
    have ej : j = y.length := by omega
    subst ei; subst ej
    exact fin n out c vs h7 v0 v1 v2 b8 hr
  | succ d ih =>
    intro i j n out c vs h7 v0 v1 v2 b8 hd1 hi hj hn ho hr hc
    obtain ⟨n, rfl⟩ : ∃ k, n = k + 1 := ⟨n - 1, by omega⟩
    have c1 : (c.getD ⟨j, [], []⟩).old.length ≤ i := by
      cases c with
      | none => simp
      | some h => exact (hc h rfl).2.1
    have c2 : (c.getD ⟨j, [], []⟩).new.length ≤ j := by
      cases c with
      | none => simp
      | some h => exact (hc h rfl).2.2
    have hg := g26_ev hr (by omega) j
    have drop : ∀ (h : i < x.length),
        L10 N (n + 1) ((x, y, tabK x y, (), (), (i : Int), (), (), ()), ((vs, h7, v0, v1, v2, ()), (b8, ()), ((j : Int), ()), ())) = L10 N n ((x, y, tabK x y, (), (), ((i : Int) + 1), (), (), ()), ((out, true, ((c.getD ⟨j, [], []⟩).at_ : Int), (c.getD ⟨j, [], []⟩).old ++ [x[i]], (c.getD ⟨j, [], []⟩).new, ()), (true, ()), ((j : Int), ()), ())) →
        walk (x.drop i) (y.drop j) j c = walk (x.drop (i + 1)) (y.drop j) j (some ⟨(c.getD ⟨j, [], []⟩).at_, (c.getD ⟨j, [], []⟩).old ++ [x[i]], (c.getD ⟨j, [], []⟩).new⟩) →
        ∃ vs' h7' w0 w1 w2 b8' j', L10 N (n + 1) ((x, y, tabK x y, (), (), (i : Int), (), (), ()), ((vs, h7, v0, v1, v2, ()), (b8, ()), ((j : Int), ()), ())) = some (Ctl.exit 0, ((), ()), (vs', h7', w0, w1, w2, ()), (b8', ()), (j', ()), ()) ∧
          whole vs' h7' (w0, w1, w2, ()) = out ++ (walk (x.drop i) (y.drop j) j c).map hd := by
      intro h e1 e2
      rw [e1, e2]
      exact ih (i + 1) j n out (some ⟨(c.getD ⟨j, [], []⟩).at_, (c.getD ⟨j, [], []⟩).old ++ [x[i]], (c.getD ⟨j, [], []⟩).new⟩) _ _ _ _ _ _ (by omega) (by omega) hj (by omega) (by omega) ⟨rfl, rfl, rfl, rfl⟩
        (fun h' e => by cases e; simp [Hk.size]; omega)
    have ins : ∀ (h : j < y.length),
        L10 N (n + 1) ((x, y, tabK x y, (), (), (i : Int), (), (), ()), ((vs, h7, v0, v1, v2, ()), (b8, ()), ((j : Int), ()), ())) = L10 N n ((x, y, tabK x y, (), (), (i : Int), (), (), ()), ((out, true, ((c.getD ⟨j, [], []⟩).at_ : Int), (c.getD ⟨j, [], []⟩).old, (c.getD ⟨j, [], []⟩).new ++ [y[j]], ()), (true, ()), ((j : Int) + 1, ()), ())) →
        walk (x.drop i) (y.drop j) j c = walk (x.drop i) (y.drop (j + 1)) (j + 1) (some ⟨(c.getD ⟨j, [], []⟩).at_, (c.getD ⟨j, [], []⟩).old, (c.getD ⟨j, [], []⟩).new ++ [y[j]]⟩) →
        ∃ vs' h7' w0 w1 w2 b8' j', L10 N (n + 1) ((x, y, tabK x y, (), (), (i : Int), (), (), ()), ((vs, h7, v0, v1, v2, ()), (b8, ()), ((j : Int), ()), ())) = some (Ctl.exit 0, ((), ()), (vs', h7', w0, w1, w2, ()), (b8', ()), (j', ()), ()) ∧
          whole vs' h7' (w0, w1, w2, ()) = out ++ (walk (x.drop i) (y.drop j) j c).map hd := by
      intro h e1 e2
      rw [e1, e2]
      exact ih i (j + 1) n out (some ⟨(c.getD ⟨j, [], []⟩).at_, (c.getD ⟨j, [], []⟩).old, (c.getD ⟨j, [], []⟩).new ++ [y[j]]⟩) _ _ _ _ _ _ (by omega) hi (by omega) (by omega) (by omega) ⟨rfl, rfl, rfl, rfl⟩
        (fun h' e => by cases e; simp [Hk.size]; omega)
    by_cases h1 : i < x.length
    · by_cases h2 : j < y.length
      · by_cases h3 : x[i] = y[j]
        · have ew : walk (x.drop i) (y.drop j) j c = c.toList ++ walk (x.drop (i + 1)) (y.drop (j + 1)) (j + 1) none := by
            rw [List.drop_eq_getElem_cons h1, List.drop_eq_getElem_cons h2, walk, if_pos h3]
          rw [ew, L10_keep N n x y i j vs h7 v0 v1 v2 b8 hx hy h1 h2 h3]
          have hw : whole vs h7 (v0, v1, v2, ()) = out ++ c.toList.map hd := by
            cases c with
            | none => simpa using hr.2
            | some h =>
              obtain ⟨_, rfl, rfl, hv⟩ := hr
              simp [whole, hv]
          have := ih (i + 1) (j + 1) n (out ++ c.toList.map hd) none vs h7 v0 v1 v2 false (by omega) (by omega) (by omega) (by omega) (by cases c <;> simp <;> omega) ⟨rfl, hw⟩ (fun h' e => by cases e)
          rw [List.map_append, ← List.append_assoc]
          exact this
        · by_cases h4 : K (x.drop i) (y.drop (j + 1)) ≤ K (x.drop (i + 1)) (y.drop j)
          · refine drop h1 (L10_drop2 N n x y i j vs h7 v0 v1 v2 b8 hx hy _ _ _ _ hg (by omega) (by omega) h1 h2 h3 h4) ?_
            rw [List.drop_eq_getElem_cons h1, List.drop_eq_getElem_cons h2] at h4 ⊢
            rw [walk, if_neg h3, if_pos h4]
          · refine ins h2 (L10_ins2 N n x y i j vs h7 v0 v1 v2 b8 hx hy _ _ _ _ hg (by omega) (by omega) h1 h2 h3 h4) ?_
            rw [List.drop_eq_getElem_cons h1, List.drop_eq_getElem_cons h2] at h4 ⊢
            rw [walk, if_neg h3, if_neg h4]
      · have ej : j = y.length := by omega
        refine drop h1 (L10_drop1 N n x y i j vs h7 v0 v1 v2 b8 hx hy _ _ _ _ hg (by omega) (by omega) h1 ej) ?_
        rw [List.drop_eq_getElem_cons h1, List.drop_eq_nil_of_le (show y.length ≤ j by omega), walk]
    · have ei : i = x.length := by omega
      by_cases h2 : ¬ j < y.length
      · have ej : j = y.length := by omega
        subst ei; subst ej
        exact fin n out c vs h7 v0 v1 v2 b8 hr
      have h2 : j < y.length := by omega
      refine ins h2 (L10_ins1 N n x y i j vs h7 v0 v1 v2 b8 hx hy _ _ _ _ hg (by omega) (by omega) ei h2) ?_
      rw [List.drop_eq_nil_of_le (show x.length ≤ i by omega), List.drop_eq_getElem_cons h2, walk]

theorem linesOK_len {x : Ls} (h : linesOK x = true) : x.length ≤ 1000 := by
  unfold linesOK at h
  simp only [Bool.and_eq_true, decide_eq_true_eq] at h
  exact h.1

theorem e10 (x y : Ls) (hx : Fits x) (hy : Fits y) : Evt (fun N => g10 N (x, y, ())) (if linesOK x && linesOK y then (hunks x y, (0 : Int), ()) else ([], (3 : Int), ())) := by
  obtain ⟨n1, h1⟩ := e24 x y hx.len hy.len
  refine ⟨max n1 (x.length + y.length + 2), fun N hN => ?_⟩
  have h1 := h1 N (by omega)
  simp only at h1
  show g10 N _ = _
  unfold g10
  cases hb : (linesOK x && linesOK y) with
  | false =>
    rw [hb] at h1
    rw [show g24 N ((x, y, ()).1, (x, y, ()).2.1, ()) = some (false, ()) from h1]
    simp
  | true =>
    rw [hb] at h1
    simp only [Bool.and_eq_true] at hb
    have lx := linesOK_len hb.1
    have ly := linesOK_len hb.2
    rw [show g24 N ((x, y, ()).1, (x, y, ()).2.1, ()) = some (true, ()) from h1]
    have h2 := e25 x y (by omega) (by omega) N (by omega)
    obtain ⟨vs', h7', w0, w1, w2, b8', j', h3, h4⟩ := L10_ev N x y lx ly _ 0 0 N [] none [] false 0 [] [] false (Nat.le_refl _) (by omega) (by omega) (by omega) (by simp) ⟨rfl, rfl⟩ (fun h e => by cases e)
    have h3' : L10 N N ((x, y, tabK x y, (), (), (0 : Int), (), (), ()), (([], false, (0 : Int), [], [], ()), (false, ()), ((0 : Int), ()), ())) = _ := h3
    simp only [List.drop_zero, List.nil_append] at h4
    have h4' : whole vs' h7' (w0, w1, w2, ()) = hunks x y := h4
    simp only [Option.bind_some, Bool.not_true, Bool.false_eq_true, if_false, h2, h3', Ctl.elim, if_true]
    rw [← h4']
    rfl

end Go.Ev.Pl

/-
  quitclaim/quitclaimref11.Right: what it answers. (Printed by wip/tools/gen.py.)
-/
namespace Go.Ev
open Go.Proofs
abbrev A29 : Ty := (.cons (.agg (.cons (.int .i64) (.cons (.slice .str) (.cons (.slice .str) .unit)))) .unit)
abbrev R29 : List RT := [.d .bool]
noncomputable def F29 (N : Nat) : Fn := { fns := [(12, .pure A12 R12 (g12 N))], writes := [], loops := [], conds := [], mats := [], vecs := [], fins := [] }
noncomputable def g29 (N : Nat) (x : A29.den) : Option (RTs.den R29) :=
 (if decide ((0 : Int) ≤ x.1.fst) = true then
      if decide (x.1.fst ≤ (1000 : Int)) = true then
        (g12 N (x.1.snd.fst, ())).bind fun (r : RTs.den R12) =>
          if r.fst = true then
            (g12 N (x.1.snd.snd.fst, ())).bind fun (r : RTs.den R12) =>
              if r.fst = true then
                if decide ((0 : Int) < (↑(List.length x.1.snd.fst) : Int)) = false then
                  some (decide ((0 : Int) < (↑(List.length x.1.snd.snd.fst) : Int)))
                else some true
              else some false
          else some false
      else some false
    else some false).bind
  fun (b : Bool) => some (b, ())
theorem run29 (N : Nat) (x : A29.den) : run (tab.ctx (F29 N)) N Try.f29 A29 R29 x = g29 N x := by kernel_rfl
theorem ok29 (N : Nat) : okFn (tab.ctx (F29 N)) Try.f29 A29 = true := by kernel_rfl
theorem fns29 (N : Nat) : FnOK Try.prog (tab.ctx (F29 N)) := (fnOK_cons (pure12 N) fnOK_nil)
theorem pure29 (N : Nat) : PureOK Try.prog 29 A29 R29 (g29 N) := pureOK (tab.ctxOK tab_ok _) (fns29 N) Try.func29 (ok29 N) (run29 N)
end Go.Ev

/-
  quitclaim/quitclaimref11.Apply: what it answers. (Printed by wip/tools/gen.py.)
-/
namespace Go.Ev
open Go.Proofs
abbrev S16_7 : Shape := ⟨[(0, .d (.slice .str)), (3, .ptr 0 0), (4, .d (.slice .str)), (5, .d (.int .i64)), (6, .own .str), (7, .d (.int .i64))], [.box [.d (.int .i64), .d (.slice .str), .d (.slice .str)]]⟩
abbrev O16_7 : Shape := ⟨[(0, .d (.slice .str)), (3, .ptr 0 0), (4, .d (.slice .str)), (5, .d (.int .i64)), (6, .own .str)], [.box [.d (.int .i64), .d (.slice .str), .d (.slice .str)]]⟩
abbrev S16_11 : Shape := ⟨[(0, .d (.slice .str)), (3, .ptr 0 0), (4, .d (.slice .str)), (5, .d (.int .i64)), (6, .own .str), (8, .d (.int .i64))], [.box [.d (.int .i64), .d (.slice .str), .d (.slice .str)]]⟩
abbrev O16_11 : Shape := ⟨[(0, .d (.slice .str)), (3, .ptr 0 0), (4, .d (.slice .str)), (5, .d (.int .i64)), (6, .own .str)], [.box [.d (.int .i64), .d (.slice .str), .d (.slice .str)]]⟩
abbrev S16_15 : Shape := ⟨[(0, .d (.slice .str)), (3, .ptr 0 0), (4, .d (.slice .str)), (5, .d (.int .i64)), (6, .own .str), (9, .d (.int .i64))], [.box [.d (.int .i64), .d (.slice .str), .d (.slice .str)]]⟩
abbrev O16_15 : Shape := ⟨[(0, .d (.slice .str)), (3, .ptr 0 0), (4, .d (.slice .str)), (5, .d (.int .i64)), (6, .own .str)], [.box [.d (.int .i64), .d (.slice .str), .d (.slice .str)]]⟩
abbrev S16_20 : Shape := ⟨[(0, .d (.slice .str)), (6, .own .str), (10, .d (.int .i64))], [.box [.d (.int .i64), .d (.slice .str), .d (.slice .str)]]⟩
abbrev O16_20 : Shape := ⟨[(6, .own .str)], [.box [.d (.int .i64), .d (.slice .str), .d (.slice .str)]]⟩
abbrev A16 : Ty := (.cons (.slice .str) (.cons (.agg (.cons (.int .i64) (.cons (.slice .str) (.cons (.slice .str) .unit)))) .unit))
abbrev R16 : List RT := [.d (.slice .str), .d (.int .i64)]
noncomputable def F16 (N : Nat) : Fn := { fns := [(12, .pure A12 R12 (g12 N)), (29, .pure A29 R29 (g29 N))], writes := [], loops := [(7, S16_7, O16_7), (11, S16_11, O16_11), (15, S16_15, O16_15), (20, S16_20, O16_20)], conds := [], mats := [], vecs := [], fins := [] }
noncomputable def L16_7 (N : Nat) : Nat → S16_7.den → Option (Ctl × O16_7.den) := loopFn (tab.ctx (F16 N)) N (loopCode Try.f16 7) S16_7 O16_7
noncomputable def L16_11 (N : Nat) : Nat → S16_11.den → Option (Ctl × O16_11.den) := loopFn (tab.ctx (F16 N)) N (loopCode Try.f16 11) S16_11 O16_11
noncomputable def L16_15 (N : Nat) : Nat → S16_15.den → Option (Ctl × O16_15.den) := loopFn (tab.ctx (F16 N)) N (loopCode Try.f16 15) S16_15 O16_15
noncomputable def L16_20 (N : Nat) : Nat → S16_20.den → Option (Ctl × O16_20.den) := loopFn (tab.ctx (F16 N)) N (loopCode Try.f16 20) S16_20 O16_20
theorem L16_7_succ (N n : Nat) (t0 : (Ty.den (.slice .str))) (t4 : (Ty.den (.slice .str))) (t5 : Int) (t6 : List (Ty.den .str)) (t7 : Int) (b3_0 : Int) (b3_1 : (Ty.den (.slice .str))) (b3_2 : (Ty.den (.slice .str))) : L16_7 N (n + 1) ((t0, (), t4, t5, t6, t7, ()), ((b3_0, b3_1, b3_2, ()), ())) =
 (if decide (t7 < b3_0) = true then
  if (0 : Int) ≤ t7 ∧ t7 < (↑(List.length t0) : Int) then
    if (t6.length + [List.getD t0 t7.toNat (Ty.zero .str)].length) * ((16 : Nat) + (1 : Nat)) ≤ (2 : Nat) ^ (40 : Nat) then
      L16_7 N n
        ((t0, (), t4, t5, t6 ++ [List.getD t0 t7.toNat (Ty.zero .str)], IntKind.i64.wrap (t7 + (1 : Int)),
            ()),
          (b3_0, b3_1, b3_2, ()), ())
    else none
  else none
else some (Ctl.exit (0 : Nat), (t0, (), t4, t5, t6, ()), (b3_0, b3_1, b3_2, ()), ())) := by kernel_rfl
theorem L16_11_succ (N n : Nat) (t0 : (Ty.den (.slice .str))) (t4 : (Ty.den (.slice .str))) (t5 : Int) (t6 : List (Ty.den .str)) (t8 : Int) (b3_0 : Int) (b3_1 : (Ty.den (.slice .str))) (b3_2 : (Ty.den (.slice .str))) : L16_11 N (n + 1) ((t0, (), t4, t5, t6, t8, ()), ((b3_0, b3_1, b3_2, ()), ())) =
 (if decide (t8 < (↑(List.length b3_2) : Int)) = true then
  if (0 : Int) ≤ t8 ∧ t8 < (↑(List.length b3_2) : Int) then
    if
        (t6.length + [List.getD b3_2 t8.toNat (Ty.zero .str)].length) * ((16 : Nat) + (1 : Nat)) ≤
          (2 : Nat) ^ (40 : Nat) then
      L16_11 N n
        ((t0, (), t4, t5, t6 ++ [List.getD b3_2 t8.toNat (Ty.zero .str)], IntKind.i64.wrap (t8 + (1 : Int)),
            ()),
          (b3_0, b3_1, b3_2, ()), ())
    else none
  else none
else some (Ctl.exit (2 : Nat), (t0, (), t4, t5, t6, ()), (b3_0, b3_1, b3_2, ()), ())) := by kernel_rfl
theorem L16_15_succ (N n : Nat) (t0 : (Ty.den (.slice .str))) (t4 : (Ty.den (.slice .str))) (t5 : Int) (t6 : List (Ty.den .str)) (t9 : Int) (b3_0 : Int) (b3_1 : (Ty.den (.slice .str))) (b3_2 : (Ty.den (.slice .str))) : L16_15 N (n + 1) ((t0, (), t4, t5, t6, t9, ()), ((b3_0, b3_1, b3_2, ()), ())) =
 (if decide (t9 < (↑(List.length b3_1) : Int)) = true then
  (if decide ((↑(List.length t0) : Int) ≤ IntKind.i64.wrap (b3_0 + t9)) = false then
        if
            (0 : Int) ≤ IntKind.i64.wrap (b3_0 + t9) ∧
              IntKind.i64.wrap (b3_0 + t9) < (↑(List.length t0) : Int) then
          if (0 : Int) ≤ t9 ∧ t9 < (↑(List.length b3_1) : Int) then
            some
              (decide
                (List.getD t0 (IntKind.i64.wrap (b3_0 + t9)).toNat (Ty.zero .str) ≠ List.getD b3_1 t9.toNat (Ty.zero .str)))
          else none
        else none
      else some true).bind
    fun (b : Bool) =>
    if b = true then
      some (Ctl.ret, (t0, (), [], (12 : Int), t6, ()), (b3_0, b3_1, b3_2, ()), ())
    else
      L16_15 N n
        ((t0, (), t4, t5, t6, IntKind.i64.wrap (t9 + (1 : Int)), ()), (b3_0, b3_1, b3_2, ()),
          ())
else some (Ctl.exit (4 : Nat), (t0, (), t4, t5, t6, ()), (b3_0, b3_1, b3_2, ()), ())) := by kernel_rfl
theorem L16_20_succ (N n : Nat) (t0 : (Ty.den (.slice .str))) (t6 : List (Ty.den .str)) (t10 : Int) (b3_0 : Int) (b3_1 : (Ty.den (.slice .str))) (b3_2 : (Ty.den (.slice .str))) : L16_20 N (n + 1) ((t0, t6, t10, ()), ((b3_0, b3_1, b3_2, ()), ())) =
 (if decide (t10 < (↑(List.length t0) : Int)) = true then
  if (0 : Int) ≤ t10 ∧ t10 < (↑(List.length t0) : Int) then
    if
        (t6.length + [List.getD t0 t10.toNat (Ty.zero .str)].length) * ((16 : Nat) + (1 : Nat)) ≤
          (2 : Nat) ^ (40 : Nat) then
      L16_20 N n
        ((t0, t6 ++ [List.getD t0 t10.toNat (Ty.zero .str)], IntKind.i64.wrap (t10 + (1 : Int)), ()),
          (b3_0, b3_1, b3_2, ()), ())
    else none
  else none
else some (Ctl.exit (6 : Nat), (t6, ()), (b3_0, b3_1, b3_2, ()), ())) := by kernel_rfl
noncomputable def g16 (N : Nat) (x : A16.den) : Option (RTs.den R16) :=
 ((g12 N (x.1, ())).bind fun (r : RTs.den R12) =>
      if (!r.fst) = false then
        (g29 N ((x.2.1.fst, x.2.1.snd.fst, x.2.1.snd.snd.fst, ()), ())).bind fun (r : RTs.den R29) => some !r.fst
      else some true).bind
  fun (b : Bool) =>
  if b = true then some ([], (3 : Int), ())
  else
    if decide ((↑(List.length x.1) : Int) < x.2.1.fst) = true then some ([], (5 : Int), ())
    else
      (L16_7 N N
            ((x.1, (), [], (0 : Int), [], (0 : Int), ()),
              (x.2.1.fst, x.2.1.snd.fst, x.2.1.snd.snd.fst, ()), ())).bind
        fun (r : Ctl × O16_7.den) =>
        r.fst.elim none
          (fun (id : Nat) =>
            if id = (0 : Nat) then
              (L16_11 N N
                    ((r.snd.fst.fst, (), r.snd.fst.snd.snd.fst, r.snd.fst.snd.snd.snd.fst,
                        r.snd.fst.snd.snd.snd.snd.fst, (0 : Int), ()),
                      (r.snd.snd.fst.fst, r.snd.snd.fst.snd.fst, r.snd.snd.fst.snd.snd.fst, ()),
                      ())).bind
                fun (r : Ctl × O16_11.den) =>
                r.fst.elim none
                  (fun (id : Nat) =>
                    if id = (2 : Nat) then
                      (L16_15 N N
                            ((r.snd.fst.fst, (), r.snd.fst.snd.snd.fst, r.snd.fst.snd.snd.snd.fst,
                                r.snd.fst.snd.snd.snd.snd.fst, (0 : Int), ()),
                              (r.snd.snd.fst.fst, r.snd.snd.fst.snd.fst, r.snd.snd.fst.snd.snd.fst, ()),
                              ())).bind
                        fun (r : Ctl × O16_15.den) =>
                        r.fst.elim none
                          (fun (id : Nat) =>
                            if id = (4 : Nat) then
                              (L16_20 N N
                                    ((r.snd.fst.fst, r.snd.fst.snd.snd.snd.snd.fst,
                                        IntKind.i64.wrap
                                          (r.snd.snd.fst.fst + (↑(List.length r.snd.snd.fst.snd.fst) : Int)),
                                        ()),
                                      (r.snd.snd.fst.fst, r.snd.snd.fst.snd.fst, r.snd.snd.fst.snd.snd.fst, ()),
                                      ())).bind
                                fun (r : Ctl × O16_20.den) =>
                                r.fst.elim none
                                  (fun (id : Nat) =>
                                    if id = (6 : Nat) then
                                      if decide ((1000 : Int) < (↑(List.length r.snd.fst.fst) : Int)) = true then
                                        some ([], (4 : Int), ())
                                      else some (r.snd.fst.fst, (0 : Int), ())
                                    else none)
                                  (fun (id : Nat) => none) none
                            else none)
                          (fun (id : Nat) => none) (some (r.snd.fst.snd.snd.fst, r.snd.fst.snd.snd.snd.fst, ()))
                    else none)
                  (fun (id : Nat) => none) (some (r.snd.fst.snd.snd.fst, r.snd.fst.snd.snd.snd.fst, ()))
            else none)
          (fun (id : Nat) => none) (some (r.snd.fst.snd.snd.fst, r.snd.fst.snd.snd.snd.fst, ()))
theorem run16 (N : Nat) (x : A16.den) : run (tab.ctx (F16 N)) N Try.f16 A16 R16 x = g16 N x := by kernel_rfl
theorem ok16 (N : Nat) : okFn (tab.ctx (F16 N)) Try.f16 A16 = true := by kernel_rfl
theorem fns16 (N : Nat) : FnOK Try.prog (tab.ctx (F16 N)) := (fnOK_cons (pure12 N) (fnOK_cons (pure29 N) fnOK_nil))
theorem pure16 (N : Nat) : PureOK Try.prog 16 A16 R16 (g16 N) := pureOK (tab.ctxOK tab_ok _) (fns16 N) Try.func16 (ok16 N) (run16 N)
end Go.Ev

/-
  quitclaim/diff.Common: what it answers. (Printed by wip/tools/gen.py.)
-/
namespace Go.Ev
open Go.Proofs
abbrev A11 : Ty := (.cons (.slice .str) (.cons (.slice .str) .unit))
abbrev R11 : List RT := [.d (.int .i64), .d (.int .i64)]
noncomputable def F11 (N : Nat) : Fn := { fns := [(24, .pure A24 R24 (g24 N)), (25, .pure A25 R25 (g25 N))], writes := [], loops := [], conds := [], mats := [], vecs := [], fins := [] }
noncomputable def g11 (N : Nat) (x : A11.den) : Option (RTs.den R11) :=
 (g24 N (x.1, x.2.1, ())).bind fun (r : RTs.den R24) =>
  if (!r.fst) = true then some ((0 : Int), (3 : Int), ())
  else
    (g25 N (x.1, x.2.1, ())).bind fun (r : RTs.den R25) =>
      if (0 : Int) ≤ (0 : Int) ∧ (0 : Int) < (↑(List.length r.fst) : Int) then
        if
            (0 : Int) ≤ (0 : Int) ∧
              (0 : Int) <
                (↑(List.length (List.getD r.fst (Int.toNat (0 : Int)) (Ty.int IntKind.i64).slice.zero)) :
                  Int) then
          some
            (List.getD (List.getD r.fst (Int.toNat (0 : Int)) (Ty.int IntKind.i64).slice.zero) (Int.toNat (0 : Int))
                (Ty.int IntKind.i64).zero,
              (0 : Int), ())
        else none
      else none
theorem run11 (N : Nat) (x : A11.den) : run (tab.ctx (F11 N)) N Try.f11 A11 R11 x = g11 N x := by kernel_rfl
theorem ok11 (N : Nat) : okFn (tab.ctx (F11 N)) Try.f11 A11 = true := by kernel_rfl
theorem fns11 (N : Nat) : FnOK Try.prog (tab.ctx (F11 N)) := (fnOK_cons (pure24 N) (fnOK_cons (pure25 N) fnOK_nil))
theorem pure11 (N : Nat) : PureOK Try.prog 11 A11 R11 (g11 N) := pureOK (tab.ctxOK tab_ok _) (fns11 N) Try.func11 (ok11 N) (run11 N)
end Go.Ev

/-
  quitclaim/quitclaimlaw12.awake: what it answers. (Printed by wip/tools/gen.py.)
-/
namespace Go.Ev
open Go.Proofs
abbrev A9 : Ty := .unit
abbrev R9 : List RT := [.d .bool]
noncomputable def F9 (N : Nat) : Fn := { fns := [(10, .pure A10 R10 (g10 N)), (23, .pure A23 R23 (g23 N))], writes := [], loops := [], conds := [], mats := [], vecs := [], fins := [] }
noncomputable def g9 (N : Nat) (x : A9.den) : Option (RTs.den R9) :=
 (g10 N
      ([ByteArray.mk (Array.mk [(97 : UInt8)]), ByteArray.mk (Array.mk [(98 : UInt8)]),
          ByteArray.mk (Array.mk [(99 : UInt8)])],
        [ByteArray.mk (Array.mk [(97 : UInt8)]), ByteArray.mk (Array.mk [(120 : UInt8)]),
          ByteArray.mk (Array.mk [(99 : UInt8)])],
        ())).bind
  fun (r : RTs.den R10) =>
  (if decide (r.snd.fst = (0 : Int)) = true then
        if decide ((↑(List.length r.fst) : Int) = (1 : Int)) = true then
          if
              (0 : Int) ≤ (0 : Int) ∧
                (0 : Int) < (↑(List.length r.fst) : Int) then
            (g23 N
                  (List.getD r.fst (Int.toNat (0 : Int))
                      ((Ty.int IntKind.i64).cons (Ty.str.slice.cons (Ty.str.slice.cons Ty.unit))).agg.zero,
                    ((1 : Int), [ByteArray.mk (Array.mk [(98 : UInt8)])], [ByteArray.mk (Array.mk [(120 : UInt8)])],
                      ()),
                    ())).bind
              fun (r : RTs.den R23) => some r.fst
          else none
        else some false
      else some false).bind
    fun (b : Bool) => some (b, ())
theorem run9 (N : Nat) (x : A9.den) : run (tab.ctx (F9 N)) N Try.f9 A9 R9 x = g9 N x := by kernel_rfl
theorem ok9 (N : Nat) : okFn (tab.ctx (F9 N)) Try.f9 A9 = true := by kernel_rfl
theorem fns9 (N : Nat) : FnOK Try.prog (tab.ctx (F9 N)) := (fnOK_cons (pure10 N) (fnOK_cons (pure23 N) fnOK_nil))
theorem pure9 (N : Nat) : PureOK Try.prog 9 A9 R9 (g9 N) := pureOK (tab.ctxOK tab_ok _) (fns9 N) Try.func9 (ok9 N) (run9 N)
end Go.Ev

/-
  COMMON LINES, HUNKS APPLIED, and the example that is known.
-/
namespace Go.Ev.Pl
open Go.Proofs

theorem e11 (x y : Ls) (hx : Fits x) (hy : Fits y) : Evt (fun N => g11 N (x, y, ())) (if linesOK x && linesOK y then (((K x y : Nat) : Int), (0 : Int), ()) else ((0 : Int), (3 : Int), ())) := by
  obtain ⟨n1, h1⟩ := e24 x y hx.len hy.len
  refine ⟨max n1 (x.length + y.length + 2), fun N hN => ?_⟩
  have h1 := h1 N (by omega)
  simp only at h1
  show g11 N _ = _
  unfold g11
  cases hb : (linesOK x && linesOK y) with
  | false =>
    rw [hb] at h1
    rw [show g24 N ((x, y, ()).1, (x, y, ()).2.1, ()) = some (false, ()) from h1]
    simp
  | true =>
    rw [hb] at h1
    simp only [Bool.and_eq_true] at hb
    have lx := linesOK_len hb.1
    have ly := linesOK_len hb.2
    rw [show g24 N ((x, y, ()).1, (x, y, ()).2.1, ()) = some (true, ()) from h1]
    have h2 := e25 x y (by omega) (by omega) N (by omega)
    have tl := tabK_length x y
    have t0 : Int.toNat (0 : Int) = 0 := rfl
    have ti : ∀ z, List.getD (tabK x y) 0 z = rowK x y := fun z => tb_getD (by omega) z
    have rj : ∀ z, List.getD (rowK x y) 0 z = ((K x y : Nat) : Int) := fun z => tb_getD (by omega) z
    repeat first
      | simp (disch := omega) only [Option.bind_some, Bool.not_true, Bool.false_eq_true, if_false, h2, t0, ti, rj, tl, rowK_length, ↓if_pos, ite_pos', if_true]
      | dsimp only [Ty.den, Sh.den]

def rightH (h : Hd) : Bool := decide (0 ≤ h.1) && (decide (h.1 ≤ 1000) && (linesOK h.2.1 && (linesOK h.2.2.1 && (decide (0 < h.2.1.length) || decide (0 < h.2.2.1.length)))))

theorem e29 (h : Hd) (h1 : Fits h.2.1) (h2 : Fits h.2.2.1) : Evt (fun N => g29 N (h, ())) (rightH h, ()) := by
  obtain ⟨n1, k1⟩ := e12 h.2.1 h1
  obtain ⟨n2, k2⟩ := e12 h.2.2.1 h2
  refine ⟨max n1 n2, fun N hN => ?_⟩
  have k1 := k1 N (by omega)
  have k2 := k2 N (by omega)
  obtain ⟨a, o, w, _⟩ := h
  simp only at k1 k2
  show g29 N _ = _
  unfold g29 rightH
  dsimp only
  rw [k1, k2]
  by_cases a1 : 0 ≤ a <;> by_cases a2 : a ≤ 1000 <;> by_cases a3 : linesOK o = true <;> by_cases a4 : linesOK w = true <;> by_cases a5 : 0 < o.length <;> simp [a1, a2, a3, a4, a5]

theorem getD_ls {l : Ls} {i : Nat} (h : i < l.length) : List.getD l i (Ty.zero .str) = l[i] := by simp [List.getD_eq_getElem?_getD, List.getElem?_eq_getElem h]

theorem L16_7_ev (N : Nat) (x : Ls) (t4 : Ls) (t5 : Int) (a : Nat) (b1 b2 : Ls) (hx : x.length ≤ 1000) (ha : a ≤ x.length) : ∀ (d i n : Nat), a - i = d → i ≤ a → d < n →
    L16_7 N n ((x, (), t4, t5, x.take i, (i : Int), ()), (((a : Int), b1, b2, ()), ())) = some (Ctl.exit 0, (x, (), t4, t5, x.take a, ()), ((a : Int), b1, b2, ()), ()) := by
  intro d
  have num : (2 : Nat) ^ 40 = 1099511627776 := rfl
  induction d with
  | zero =>
    intro i n hd hi hn
    obtain ⟨n, rfl⟩ : ∃ m, n = m + 1 := ⟨n - 1, by omega⟩
    rw [L16_7_succ, if_neg (by rw [decide_eq_true_eq]; omega)]
    rw [show i = a by omega]
  | succ d ih =>
    intro i n hd hi hn
    obtain ⟨n, rfl⟩ : ∃ m, n = m + 1 := ⟨n - 1, by omega⟩
    have hlt : i < x.length := by omega
    have hl : (x.take i).length = i := by rw [List.length_take]; omega
    have hs : x.take i ++ [x[i]] = x.take (i + 1) := List.take_append_getElem hlt
    have gx := getD_ls hlt
    rw [L16_7_succ]
    dsimp only [Ty.den, Sh.den]
    have hx' := ih (i + 1) n (by omega) (by omega) (by omega)
    repeat first
      | simp (disch := omega) only [↓ite_dec, ↓if_pos, ite_dec', ite_pos', w64, tn0, gx, hl, hs, num, List.length_cons, List.length_nil]
      | dsimp only [Ty.den, Sh.den]
    exact hx'

theorem L16_11_ev (N : Nat) (x : Ls) (t4 : Ls) (t5 : Int) (a : Int) (b1 b2 : Ls) (pre : Ls) (hp : pre.length ≤ 1000) (hb : b2.length ≤ 1000) : ∀ (d i n : Nat), b2.length - i = d → i ≤ b2.length → d < n →
    L16_11 N n ((x, (), t4, t5, pre ++ b2.take i, (i : Int), ()), ((a, b1, b2, ()), ())) = some (Ctl.exit 2, (x, (), t4, t5, pre ++ b2, ()), (a, b1, b2, ()), ()) := by
  intro d
  have num : (2 : Nat) ^ 40 = 1099511627776 := rfl
  induction d with
  | zero =>
    intro i n hd hi hn
    obtain ⟨n, rfl⟩ : ∃ m, n = m + 1 := ⟨n - 1, by omega⟩
    rw [L16_11_succ, if_neg (by rw [decide_eq_true_eq]; omega)]
    rw [show i = b2.length by omega, List.take_length]
  | succ d ih =>
    intro i n hd hi hn
    obtain ⟨n, rfl⟩ : ∃ m, n = m + 1 := ⟨n - 1, by omega⟩
    have hlt : i < b2.length := by omega
    have hl : (pre ++ b2.take i).length = pre.length + i := by rw [List.length_append, List.length_take]; omega
    have hs : pre ++ b2.take i ++ [b2[i]] = pre ++ b2.take (i + 1) := by rw [List.append_assoc, List.take_append_getElem hlt]
    have gx := getD_ls hlt
    rw [L16_11_succ]
    dsimp only [Ty.den, Sh.den]
    have hx' := ih (i + 1) n (by omega) (by omega) (by omega)
    repeat first
      | simp (disch := omega) only [↓ite_dec, ↓if_pos, ite_dec', ite_pos', w64, tn0, gx, hl, hs, num, List.length_cons, List.length_nil]
      | dsimp only [Ty.den, Sh.den]
    exact hx'

theorem L16_15_ev (N : Nat) (x : Ls) (t4 : Ls) (t5 : Int) (a : Nat) (b1 b2 : Ls) (t6 : Ls) (hx : x.length ≤ 1000) (ha : a ≤ 1000) (hb : b1.length ≤ 1000) : ∀ (d i n : Nat), b1.length - i = d → i ≤ b1.length → d < n →
    L16_15 N n ((x, (), t4, t5, t6, (i : Int), ()), (((a : Int), b1, b2, ()), ())) =
      some (if b1.drop i <+: x.drop (a + i) then (Ctl.exit 4, (x, (), t4, t5, t6, ()), ((a : Int), b1, b2, ()), ()) else (Ctl.ret, (x, (), [], (12 : Int), t6, ()), ((a : Int), b1, b2, ()), ())) := by
  intro d
  induction d with
  | zero =>
    intro i n hd hi hn
    obtain ⟨n, rfl⟩ : ∃ m, n = m + 1 := ⟨n - 1, by omega⟩
    rw [L16_15_succ, if_neg (by rw [decide_eq_true_eq]; omega), List.drop_eq_nil_of_le (show b1.length ≤ i by omega), if_pos (List.nil_prefix)]
  | succ d ih =>
    intro i n hd hi hn
    obtain ⟨n, rfl⟩ : ∃ m, n = m + 1 := ⟨n - 1, by omega⟩
    have hlt : i < b1.length := by omega
    have gb := getD_ls hlt
    have hx' := ih (i + 1) n (by omega) (by omega) (by omega)
    rw [L16_15_succ]
    dsimp only [Ty.den, Sh.den]
    have tni : Int.toNat ((a : Int) + (i : Int)) = a + i := rfl
    by_cases h1 : a + i < x.length
    · have gx := getD_ls h1
      rw [List.drop_eq_getElem_cons hlt, List.drop_eq_getElem_cons h1]
      by_cases h2 : x[a + i] = b1[i]
      · have hd2 : decide (x[a + i] ≠ b1[i]) = false := decide_eq_false (fun h => h h2)
        have e : (b1[i] :: b1.drop (i + 1) <+: x[a + i] :: x.drop (a + i + 1)) ↔ b1.drop (i + 1) <+: x.drop (a + (i + 1)) := by
          rw [List.cons_prefix_cons]; exact ⟨fun h => h.2, fun h => ⟨h2.symm, h⟩⟩
        simp only [e]
        rw [← hx']
        repeat first
          | simp (disch := omega) only [↓ite_dec, ↓ite_nf, ↓if_pos, ite_dec', ite_nf', ite_pos', w64, tn0, tni, gx, gb, hd2, Option.bind_some, Bool.false_eq_true, if_false]
          | dsimp only [Ty.den, Sh.den]
        try rfl
      · have hd2 : decide (x[a + i] ≠ b1[i]) = true := decide_eq_true h2
        have e : ¬ (b1[i] :: b1.drop (i + 1) <+: x[a + i] :: x.drop (a + i + 1)) := fun h => h2 (List.cons_prefix_cons.1 h).1.symm
        rw [if_neg e]
        repeat first
          | simp (disch := omega) only [↓ite_dec, ↓ite_nf, ↓if_pos, ite_dec', ite_nf', ite_pos', w64, tn0, tni, gx, gb, hd2, Option.bind_some, if_true]
          | dsimp only [Ty.den, Sh.den]
    · have e : ¬ (b1.drop i <+: x.drop (a + i)) := fun h => by
        have := h.length_le
        rw [List.length_drop, List.length_drop] at this
        omega
      rw [if_neg e]
      repeat first
        | simp (disch := omega) only [↓ite_dec, ↓ite_f, ↓if_pos, ite_dec', ite_f', ite_pos', w64, tn0, Option.bind_some, if_true]
        | dsimp only [Ty.den, Sh.den]

theorem L16_20_ev (N : Nat) (x : Ls) (a : Int) (b1 b2 : Ls) (hx : x.length ≤ 1000) : ∀ (d i n : Nat) (out : Ls), x.length - i = d → d < n → i ≤ 5000 → out.length + d ≤ 100000 →
    L16_20 N n ((x, out, (i : Int), ()), ((a, b1, b2, ()), ())) = some (Ctl.exit 6, (out ++ x.drop i, ()), (a, b1, b2, ()), ()) := by
  intro d
  have num : (2 : Nat) ^ 40 = 1099511627776 := rfl
  induction d with
  | zero =>
    intro i n out hd hn hi ho
    obtain ⟨n, rfl⟩ : ∃ m, n = m + 1 := ⟨n - 1, by omega⟩
    rw [L16_20_succ, if_neg (by rw [decide_eq_true_eq]; omega), List.drop_eq_nil_of_le (show x.length ≤ i by omega), List.append_nil]
  | succ d ih =>
    intro i n out hd hn hi ho
    obtain ⟨n, rfl⟩ : ∃ m, n = m + 1 := ⟨n - 1, by omega⟩
    have hlt : i < x.length := by omega
    have gx := getD_ls hlt
    rw [L16_20_succ]
    dsimp only [Ty.den, Sh.den]
    have hx' := ih (i + 1) n (out ++ [x[i]]) (by omega) (by omega) (by omega) (by simp; omega)
    rw [List.drop_eq_getElem_cons hlt]
    rw [show out ++ x[i] :: x.drop (i + 1) = out ++ [x[i]] ++ x.drop (i + 1) by simp]
    repeat first
      | simp (disch := omega) only [↓ite_dec, ↓if_pos, ite_dec', ite_pos', w64, tn0, gx, num, List.length_cons, List.length_nil]
      | dsimp only [Ty.den, Sh.den]
    exact hx'

end Go.Ev.Pl

/-
  HUNKS APPLIED, and the example that is known.
-/
namespace Go.Ev.Pl
open Go.Proofs

def hk (h : Hd) : Hk ByteArray := ⟨h.1.toNat, h.2.1, h.2.2.1⟩

def app (x : Ls) (h : Hd) : Ls × Int × Unit :=
  if (linesOK x && rightH h) = false then ([], 3, ()) else
  if (x.length : Int) < h.1 then ([], 5, ()) else
  if h.2.1 <+: x.drop h.1.toNat then (if 1000 < (put x (hk h)).length then ([], 4, ()) else (put x (hk h), 0, ())) else ([], 12, ())

theorem e16 (x : Ls) (h : Hd) (hx : Fits x) (h1 : Fits h.2.1) (h2 : Fits h.2.2.1) : Evt (fun N => g16 N (x, h, ())) (app x h) := by
  obtain ⟨n1, k1⟩ := e12 x hx
  obtain ⟨n2, k2⟩ := e29 h h1 h2
  refine ⟨max (max n1 n2) (x.length + h.2.1.length + h.2.2.1.length + 2), fun N hN => ?_⟩
  have k1 := k1 N (by omega)
  have k2 := k2 N (by omega)
  obtain ⟨a, o, w, _⟩ := h
  simp only at k1 k2
  dsimp only at hN
  show g16 N _ = _
  unfold g16 app
  dsimp only
  rw [k1]
  cases b1 : linesOK x with
  | false => simp
  | true =>
    have k2' : g29 N ((a, o, w, ()), ()) = some (rightH (a, o, w, ()), ()) := k2
    simp only [Option.bind_some, Bool.not_true, if_true, k2', Bool.true_and]
    cases b2 : rightH (a, o, w, ()) with
    | false => simp
    | true =>
      simp only [Bool.not_true, Bool.false_eq_true, if_false, Bool.true_eq_false]
      have lx := linesOK_len b1
      unfold rightH at b2
      simp only [Bool.and_eq_true, decide_eq_true_eq] at b2
      obtain ⟨r1, r2, r3, r4, _⟩ := b2
      have lo := linesOK_len r3
      have lw := linesOK_len r4
      by_cases ha : (x.length : Int) < a
      · rw [if_pos (decide_eq_true ha), if_pos ha]
      · rw [if_neg (by simpa using ha), if_neg ha]
        obtain ⟨m, rfl⟩ : ∃ m : Nat, a = (m : Int) := ⟨a.toNat, by omega⟩
        have f1 := L16_7_ev N x [] 0 m o w lx (by omega) m 0 N (by omega) (by omega) (by omega)
        have f1' : L16_7 N N ((x, (), [], (0 : Int), [], (0 : Int), ()), (((m : Int), o, w, ()), ())) = _ := f1
        have f2 := L16_11_ev N x [] 0 m o w (x.take m) (by rw [List.length_take]; omega) lw w.length 0 N (by omega) (by omega) (by omega)
        rw [List.take_zero, List.append_nil] at f2
        have f2' : L16_11 N N ((x, (), [], (0 : Int), x.take m, (0 : Int), ()), (((m : Int), o, w, ()), ())) = _ := f2
        have f3 := L16_15_ev N x [] 0 m o w (x.take m ++ w) lx (by omega) lo o.length 0 N (by omega) (by omega) (by omega)
        have f3' : L16_15 N N ((x, (), [], (0 : Int), x.take m ++ w, (0 : Int), ()), (((m : Int), o, w, ()), ())) = _ := f3
        rw [Nat.add_zero, List.drop_zero] at f3'
        rw [tn0, f1']
        simp only [Option.bind_some, Ctl.elim, if_true, f2', f3']
        by_cases hp : o <+: x.drop m
        · have hpl := hp.length_le
          rw [List.length_drop] at hpl
          have f4 := L16_20_ev N x (m : Int) o w lx (x.length - (m + o.length)) (m + o.length) N (x.take m ++ w) rfl (by omega) (by omega) (by rw [List.length_append, List.length_take]; omega)
          have f4' : L16_20 N N ((x, x.take m ++ w, ((m : Int) + (o.length : Int)), ()), (((m : Int), o, w, ()), ())) = _ := f4
          have hput : x.take m ++ w ++ x.drop (m + o.length) = put x (hk ((m : Int), o, w, ())) := by
            unfold put hk
            rw [tn0]
            exact List.append_assoc _ _ _
          rw [hput] at f4'
          simp only [hp, if_true]
          rw [w64 (by omega) (by omega), f4']
          simp only [Option.bind_some, if_true]
          by_cases hl : 1000 < (put x (hk ((m : Int), o, w, ()))).length
          · rw [if_pos (by rw [decide_eq_true_eq]; omega), if_pos hl]
          · rw [if_neg (by rw [decide_eq_true_eq]; omega), if_neg hl]
        · simp only [hp, if_false]

theorem app_ok {x : Ls} {h : Hd} (he : (app x h).2.1 = 0) : linesOK x = true ∧ rightH h = true ∧ fits x (hk h) ∧ (app x h).1 = put x (hk h) ∧ (put x (hk h)).length ≤ 1000 := by
  unfold app at he ⊢
  by_cases h0 : (linesOK x && rightH h) = false
  · rw [if_pos h0] at he; simp at he
  · rw [if_neg h0] at he ⊢
    by_cases h1 : (x.length : Int) < h.1
    · rw [if_pos h1] at he; simp at he
    · rw [if_neg h1] at he ⊢
      by_cases h2 : h.2.1 <+: x.drop h.1.toNat
      · rw [if_pos h2] at he ⊢
        by_cases h3 : 1000 < (put x (hk h)).length
        · rw [if_pos h3] at he; simp at he
        · rw [if_neg h3] at he ⊢
          have h0' : (linesOK x && rightH h) = true := by simpa using h0
          simp only [Bool.and_eq_true] at h0'
          refine ⟨h0'.1, h0'.2, ?_, rfl, by omega⟩
          obtain ⟨s, hs⟩ := h2
          refine ⟨x.take h.1.toNat, s, ?_, ?_⟩
          · rw [List.length_take]
            have : (hk h).at_ = h.1.toNat := rfl
            omega
          · have : (hk h).old = h.2.1 := rfl
            rw [this, hs, List.take_append_drop]
      · rw [if_neg h2] at he; simp at he

theorem app_put {x : Ls} {h : Hd} (b1 : linesOK x = true) (b2 : rightH h = true) (hf : fits x (hk h)) (hl : (put x (hk h)).length ≤ 1000) : app x h = (put x (hk h), 0, ()) := by
  obtain ⟨p, s, hp, hx⟩ := hf
  unfold app
  have h0 : ¬ (linesOK x && rightH h) = false := by simp [b1, b2]
  have hge : 0 ≤ h.1 := by
    unfold rightH at b2
    simp only [Bool.and_eq_true, decide_eq_true_eq] at b2
    exact b2.1
  have ha : (hk h).at_ = h.1.toNat := rfl
  have ho : (hk h).old = h.2.1 := rfl
  rw [if_neg h0, if_neg (by rw [hx, List.length_append]; omega), if_pos ?_, if_neg (by omega)]
  rw [← ha, ← hp, ← ho, hx, List.drop_left]
  exact List.prefix_append _ _

theorem linesOK_put {x : Ls} {h : Hk ByteArray} (b1 : linesOK x = true) (b2 : linesOK h.new = true) (hl : (put x h).length ≤ 1000) : linesOK (put x h) = true := by
  unfold linesOK at *
  simp only [Bool.and_eq_true, decide_eq_true_eq, List.all_eq_true] at *
  refine ⟨hl, fun s hs => ?_⟩
  unfold put at hs
  rcases List.mem_append.1 hs with hs | hs
  · exact b1.2 s (List.mem_of_mem_take hs)
  · rcases List.mem_append.1 hs with hs | hs
    · exact b2.2 s hs
    · exact b1.2 s (List.mem_of_mem_drop hs)

theorem fits_of (x : Ls) (h1 : x.length ≤ 1000) (h2 : ∀ s ∈ x, s.size ≤ 1000) : Fits x :=
  ⟨by have : maxLen = 9223372036854775807 := rfl; omega, fun s hs => by have := h2 s hs; have : maxLen = 9223372036854775807 := rfl; show s.size ≤ maxLen; omega⟩

theorem fits_ok {x : Ls} (h : linesOK x = true) : Fits x := by
  unfold linesOK at h
  simp only [Bool.and_eq_true, decide_eq_true_eq, List.all_eq_true] at h
  refine fits_of x h.1 fun s hs => ?_
  have := h.2 s hs
  unfold lineOK at this
  simp only [Bool.and_eq_true, decide_eq_true_eq] at this
  omega

/-! ### The example -/

def sA : ByteArray := ⟨#[97]⟩
def sB : ByteArray := ⟨#[98]⟩
def sC : ByteArray := ⟨#[99]⟩
def sX : ByteArray := ⟨#[120]⟩

theorem hunks_eg : hunks [sA, sB, sC] [sA, sX, sC] = [(1, [sB], [sX], ())] := by
  have n1 : sB ≠ sX := by decide
  have n2 : sB ≠ sC := by decide
  have n3 : sC ≠ sX := by decide
  unfold hunks diff
  rw [walk, if_pos rfl]
  have k1 : K [sB, sC] [sC] ≤ K [sC] [sX, sC] := by
    rw [K_ne n2, K_ne n3, K_eq]; simp
  rw [walk, if_neg n1, if_pos k1]
  have k2 : ¬ K [sC] [sC] ≤ K [] [sX, sC] := by
    rw [K_eq]; simp
  rw [walk, if_neg n3, if_neg k2, walk, if_pos rfl, walk]
  rfl

theorem e9 : Evt (fun N => g9 N ()) (true, ()) := by
  have f1 : linesOK [sA, sB, sC] = true := by decide
  have f2 : linesOK [sA, sX, sC] = true := by decide
  obtain ⟨n1, k1⟩ := e10 _ _ (fits_ok f1) (fits_ok f2)
  obtain ⟨n2, k2⟩ := e23 ((1 : Int), [sB], [sX], ()) ((1 : Int), [sB], [sX], ()) (by decide) (by decide)
  refine ⟨max n1 n2, fun N hN => ?_⟩
  have k1 := k1 N (by omega)
  have k2 := k2 N (by omega)
  simp only [f1, f2, Bool.and_self, if_true, hunks_eg] at k1 k2
  show g9 N () = _
  unfold g9
  rw [show g10 N ([ByteArray.mk (Array.mk [(97 : UInt8)]), ByteArray.mk (Array.mk [(98 : UInt8)]), ByteArray.mk (Array.mk [(99 : UInt8)])], [ByteArray.mk (Array.mk [(97 : UInt8)]), ByteArray.mk (Array.mk [(120 : UInt8)]), ByteArray.mk (Array.mk [(99 : UInt8)])], ()) = _ from k1]
  simp only [Option.bind_some]
  rw [show g23 N (List.getD [((1 : Int), [sB], [sX], ())] (Int.toNat 0) (Ty.zero (.agg (.cons (.int .i64) (.cons (.slice .str) (.cons (.slice .str) .unit))))), ((1 : Int), [ByteArray.mk (Array.mk [(98 : UInt8)])], [ByteArray.mk (Array.mk [(120 : UInt8)])], ()), ()) = _ from k2]
  rfl

end Go.Ev.Pl

/-
  quitclaim/quitclaimlaw12.DiffHunks: what it answers. (Printed by wip/tools/gen.py.)
-/
namespace Go.Ev
open Go.Proofs
abbrev S3 : Shape := ⟨[(1, .d (.slice .str)), (4, .d .bool), (5, .d (.slice (.agg (.cons (.int .i64) (.cons (.slice .str) (.cons (.slice .str) .unit)))))), (9, .d (.slice (.agg (.cons (.int .i64) (.cons (.slice .str) (.cons (.slice .str) .unit)))))), (10, .d (.slice .str)), (86, .d (.slice (.agg (.cons (.int .i64) (.cons (.slice .str) (.cons (.slice .str) .unit)))))), (87, .d (.int .i64)), (88, .d (.int .i64))], []⟩
abbrev O3 : Shape := ⟨[(1, .d (.slice .str)), (4, .d .bool), (10, .d (.slice .str))], []⟩
abbrev A3 : Ty := (.cons (.slice .str) (.cons (.slice .str) .unit))
abbrev R3 : List RT := [.d .bool]
noncomputable def F3 (N : Nat) : Fn := { fns := [(8, .pure A8 R8 (g8 N)), (9, .pure A9 R9 (g9 N)), (10, .pure A10 R10 (g10 N)), (11, .pure A11 R11 (g11 N)), (12, .pure A12 R12 (g12 N)), (13, .pure A13 R13 (g13 N)), (14, .pure A14 R14 (g14 N N)), (15, .pure A15 R15 (g15 N)), (16, .pure A16 R16 (g16 N)), (17, .pure A17 R17 (g17 N))], writes := [], loops := [(12, S3, O3)], conds := [], mats := [], vecs := [], fins := [] }
noncomputable def L3 (N : Nat) : Nat → S3.den → Option (Ctl × O3.den) := loopFn (tab.ctx (F3 N)) N (loopCode Try.f3 12) S3 O3
theorem L3_succ (N n : Nat) (t1 : (Ty.den (.slice .str))) (t4 : Bool) (t5 : (Ty.den (.slice (.agg (.cons (.int .i64) (.cons (.slice .str) (.cons (.slice .str) .unit))))))) (t9 : (Ty.den (.slice (.agg (.cons (.int .i64) (.cons (.slice .str) (.cons (.slice .str) .unit))))))) (t10 : (Ty.den (.slice .str))) (t86 : (Ty.den (.slice (.agg (.cons (.int .i64) (.cons (.slice .str) (.cons (.slice .str) .unit))))))) (t87 : Int) (t88 : Int) : L3 N (n + 1) ((t1, t4, t5, t9, t10, t86, t87, t88, ()), ()) =
 (if decide (t88 < t87) = true then
  if (0 : Int) ≤ t88 ∧ t88 < (↑(List.length t86) : Int) then
    (if (0 : Int) ≤ t88 ∧ t88 < (↑(List.length t9) : Int) then
          (g15 N
                (((List.getD t86 t88.toNat
                        ((Ty.int IntKind.i64).cons (Ty.str.slice.cons (Ty.str.slice.cons Ty.unit))).agg.zero).fst,
                    (List.getD t86 t88.toNat
                          ((Ty.int IntKind.i64).cons (Ty.str.slice.cons (Ty.str.slice.cons Ty.unit))).agg.zero).snd.fst,
                    (List.getD t86 t88.toNat
                            ((Ty.int IntKind.i64).cons
                                  (Ty.str.slice.cons (Ty.str.slice.cons Ty.unit))).agg.zero).snd.snd.fst,
                    ()),
                  List.getD t9 t88.toNat
                    ((Ty.int IntKind.i64).cons (Ty.str.slice.cons (Ty.str.slice.cons Ty.unit))).agg.zero,
                  ())).bind
            fun (r : RTs.den R15) =>
            if (!r.fst) = false then
              if decide ((0 : Int) < t88) = true then
                if
                    (0 : Int) ≤ IntKind.i64.wrap (t88 - (1 : Int)) ∧
                      IntKind.i64.wrap (t88 - (1 : Int)) < (↑(List.length t5) : Int) then
                  if
                      (0 : Int) ≤ IntKind.i64.wrap (t88 - (1 : Int)) ∧
                        IntKind.i64.wrap (t88 - (1 : Int)) < (↑(List.length t5) : Int) then
                    some
                      (decide
                        ((List.getD t86 t88.toNat
                              ((Ty.int IntKind.i64).cons
                                    (Ty.str.slice.cons (Ty.str.slice.cons Ty.unit))).agg.zero).fst ≤
                          IntKind.i64.wrap
                            ((List.getD t5 (IntKind.i64.wrap (t88 - (1 : Int))).toNat
                                  ((Ty.int IntKind.i64).cons
                                        (Ty.str.slice.cons (Ty.str.slice.cons Ty.unit))).agg.zero).fst +
                              (↑(List.length
                                    (List.getD t5 (IntKind.i64.wrap (t88 - (1 : Int))).toNat
                                            ((Ty.int IntKind.i64).cons
                                                  (Ty.str.slice.cons
                                                    (Ty.str.slice.cons Ty.unit))).agg.zero).snd.snd.fst) :
                                Int))))
                  else none
                else none
              else some false
            else some true
        else none).bind
      fun (b : Bool) =>
      if b = true then some (Ctl.ret, (t1, false, t10, ()), ())
      else
        if (0 : Int) ≤ t88 ∧ t88 < (↑(List.length t9) : Int) then
          (g16 N
                (t10,
                  List.getD t9 t88.toNat
                    ((Ty.int IntKind.i64).cons (Ty.str.slice.cons (Ty.str.slice.cons Ty.unit))).agg.zero,
                  ())).bind
            fun (r : RTs.den R16) =>
            if decide (r.snd.fst ≠ (0 : Int)) = true then some (Ctl.ret, (t1, false, t10, ()), ())
            else L3 N n ((t1, t4, t5, t9, r.fst, t86, t87, IntKind.i64.wrap (t88 + (1 : Int)), ()), ())
        else none
  else none
else some (Ctl.exit (0 : Nat), (t1, t4, t10, ()), ())) := by kernel_rfl
noncomputable def g3 (N : Nat) (x : A3.den) : Option (RTs.den R3) :=
 (g8 N ([x.1, x.2.1], ())).bind fun (r : RTs.den R8) =>
  if r.fst = true then (g9 N ()).bind fun (r : RTs.den R9) => some (r.fst, ())
  else
    (g10 N (x.1, x.2.1, ())).bind fun (r : RTs.den R10) =>
      (g11 N (x.1, x.2.1, ())).bind fun (r_1 : RTs.den R11) =>
        ((g12 N (x.1, ())).bind fun (r : RTs.den R12) =>
              if (!r.fst) = false then (g12 N (x.2.1, ())).bind fun (r : RTs.den R12) => some !r.fst
              else some true).bind
          fun (b : Bool) =>
          if b = true then
            (if decide ((↑(List.length r.fst) : Int) = (0 : Int)) = true then
                  if decide (r.snd.fst = (3 : Int)) = true then
                    if decide (r_1.fst = (0 : Int)) = true then
                      if decide (r_1.snd.fst = (3 : Int)) = true then
                        (g9 N ()).bind fun (r : RTs.den R9) => some r.fst
                      else some false
                    else some false
                  else some false
                else some false).bind
              fun (b : Bool) => some (b, ())
          else
            (g13 N (x.1, x.2.1, ())).bind fun (r_2 : RTs.den R13) =>
              (if decide (r.snd.fst ≠ (0 : Int)) = false then
                    if decide (r_1.snd.fst ≠ (0 : Int)) = false then
                      if decide ((↑(List.length r.fst) : Int) ≠ (↑(List.length r_2.fst) : Int)) = false then
                        (g14 N N (x.1, x.2.1, ())).bind fun (r : RTs.den R14) =>
                          if
                              (0 : Int) ≤ (0 : Int) ∧
                                (0 : Int) < (↑(List.length r.fst) : Int) then
                            if
                                (0 : Int) ≤ (0 : Int) ∧
                                  (0 : Int) <
                                    (↑(List.length
                                          (List.getD r.fst (Int.toNat (0 : Int)) (Ty.int IntKind.i64).slice.zero)) :
                                      Int) then
                              some
                                (decide
                                  (r_1.fst ≠
                                    List.getD (List.getD r.fst (Int.toNat (0 : Int)) (Ty.int IntKind.i64).slice.zero)
                                      (Int.toNat (0 : Int)) (Ty.int IntKind.i64).zero))
                            else none
                          else none
                      else some true
                    else some true
                  else some true).bind
                fun (b : Bool) =>
                if b = true then some (false, ())
                else
                  (L3 N N
                        ((x.2.1, false, r.fst, r_2.fst, x.1, r.fst, (↑(List.length r.fst) : Int), (0 : Int), ()),
                          ())).bind
                    fun (r : Ctl × O3.den) =>
                    r.fst.elim none
                      (fun (id : Nat) =>
                        if id = (0 : Nat) then
                          ((g17 N (r.snd.fst.snd.snd.fst, r.snd.fst.fst, ())).bind fun (r : RTs.den R17) =>
                                if r.fst = true then (g9 N ()).bind fun (r : RTs.den R9) => some r.fst
                                else some false).bind
                            fun (b : Bool) => some (b, ())
                        else none)
                      (fun (id : Nat) => none) (some (r.snd.fst.snd.fst, ()))
theorem run3 (N : Nat) (x : A3.den) : run (tab.ctx (F3 N)) N Try.f3 A3 R3 x = g3 N x := by kernel_rfl
theorem ok3 (N : Nat) : okFn (tab.ctx (F3 N)) Try.f3 A3 = true := by kernel_rfl
theorem fns3 (N : Nat) : FnOK Try.prog (tab.ctx (F3 N)) := (fnOK_cons (pure8 N) (fnOK_cons (pure9 N) (fnOK_cons (pure10 N) (fnOK_cons (pure11 N) (fnOK_cons (pure12 N) (fnOK_cons (pure13 N) (fnOK_cons (pure14 N N) (fnOK_cons (pure15 N) (fnOK_cons (pure16 N) (fnOK_cons (pure17 N) fnOK_nil))))))))))
theorem pure3 (N : Nat) : PureOK Try.prog 3 A3 R3 (g3 N) := pureOK (tab.ctxOK tab_ok _) (fns3 N) Try.func3 (ok3 N) (run3 N)
end Go.Ev

/-
  quitclaim/quitclaimlaw12.DiffLeast: what it answers. (Printed by wip/tools/gen.py.)
-/
namespace Go.Ev
open Go.Proofs
abbrev S4 : Shape := ⟨[(0, .d (.slice .str)), (1, .d (.slice (.agg (.cons (.int .i64) (.cons (.slice .str) (.cons (.slice .str) .unit)))))), (4, .d .bool), (5, .d (.slice .str)), (6, .d (.int .i64)), (28, .d (.slice (.agg (.cons (.int .i64) (.cons (.slice .str) (.cons (.slice .str) .unit)))))), (29, .d (.int .i64)), (30, .d (.int .i64))], []⟩
abbrev O4 : Shape := ⟨[(0, .d (.slice .str)), (1, .d (.slice (.agg (.cons (.int .i64) (.cons (.slice .str) (.cons (.slice .str) .unit)))))), (4, .d .bool), (5, .d (.slice .str)), (6, .d (.int .i64))], []⟩
abbrev A4 : Ty := (.cons (.slice .str) (.cons (.slice (.agg (.cons (.int .i64) (.cons (.slice .str) (.cons (.slice .str) .unit))))) .unit))
abbrev R4 : List RT := [.d .bool]
noncomputable def F4 (N : Nat) : Fn := { fns := [(8, .pure A8 R8 (g8 N)), (9, .pure A9 R9 (g9 N)), (10, .pure A10 R10 (g10 N)), (12, .pure A12 R12 (g12 N)), (16, .pure A16 R16 (g16 N)), (18, .pure A18 R18 (g18 N))], writes := [], loops := [(5, S4, O4)], conds := [], mats := [], vecs := [], fins := [] }
noncomputable def L4 (N : Nat) : Nat → S4.den → Option (Ctl × O4.den) := loopFn (tab.ctx (F4 N)) N (loopCode Try.f4 5) S4 O4
theorem L4_succ (N n : Nat) (t0 : (Ty.den (.slice .str))) (t1 : (Ty.den (.slice (.agg (.cons (.int .i64) (.cons (.slice .str) (.cons (.slice .str) .unit))))))) (t4 : Bool) (t5 : (Ty.den (.slice .str))) (t6 : Int) (t28 : (Ty.den (.slice (.agg (.cons (.int .i64) (.cons (.slice .str) (.cons (.slice .str) .unit))))))) (t29 : Int) (t30 : Int) : L4 N (n + 1) ((t0, t1, t4, t5, t6, t28, t29, t30, ()), ()) =
 (if decide (t30 < t29) = true then
  if (0 : Int) ≤ t30 ∧ t30 < (↑(List.length t28) : Int) then
    (g8 N
          ([(List.getD t28 t30.toNat
                    ((Ty.int IntKind.i64).cons (Ty.str.slice.cons (Ty.str.slice.cons Ty.unit))).agg.zero).snd.fst,
              (List.getD t28 t30.toNat
                      ((Ty.int IntKind.i64).cons
                            (Ty.str.slice.cons (Ty.str.slice.cons Ty.unit))).agg.zero).snd.snd.fst],
            ())).bind
      fun (r : RTs.den R8) =>
      if r.fst = true then
        (g9 N ()).bind fun (r : RTs.den R9) => some (Ctl.ret, (t0, t1, r.fst, t5, t6, ()), ())
      else
        (g16 N
              (t5,
                ((List.getD t28 t30.toNat
                      ((Ty.int IntKind.i64).cons (Ty.str.slice.cons (Ty.str.slice.cons Ty.unit))).agg.zero).fst,
                  (List.getD t28 t30.toNat
                        ((Ty.int IntKind.i64).cons (Ty.str.slice.cons (Ty.str.slice.cons Ty.unit))).agg.zero).snd.fst,
                  (List.getD t28 t30.toNat
                          ((Ty.int IntKind.i64).cons
                                (Ty.str.slice.cons (Ty.str.slice.cons Ty.unit))).agg.zero).snd.snd.fst,
                  ()),
                ())).bind
          fun (r : RTs.den R16) =>
          (if decide (r.snd.fst ≠ (0 : Int)) = false then some (decide ((60 : Int) < (↑(List.length r.fst) : Int)))
              else some true).bind
            fun (b : Bool) =>
            if b = true then
              (g9 N ()).bind fun (r : RTs.den R9) =>
                some (Ctl.ret, (t0, t1, r.fst, t5, t6, ()), ())
            else
              L4 N n
                ((t0, t1, t4, r.fst,
                    IntKind.i64.wrap
                      (t6 +
                        IntKind.i64.wrap
                          ((↑(List.length
                                  (List.getD t28 t30.toNat
                                        ((Ty.int IntKind.i64).cons
                                              (Ty.str.slice.cons (Ty.str.slice.cons Ty.unit))).agg.zero).snd.fst) :
                              Int) +
                            (↑(List.length
                                  (List.getD t28 t30.toNat
                                          ((Ty.int IntKind.i64).cons
                                                (Ty.str.slice.cons
                                                  (Ty.str.slice.cons Ty.unit))).agg.zero).snd.snd.fst) :
                              Int))),
                    t28, t29, IntKind.i64.wrap (t30 + (1 : Int)), ()),
                  ())
  else none
else some (Ctl.exit (0 : Nat), (t0, t1, t4, t5, t6, ()), ())) := by kernel_rfl
noncomputable def g4 (N : Nat) (x : A4.den) : Option (RTs.den R4) :=
 ((g8 N ([x.1], ())).bind fun (r : RTs.den R8) =>
      if r.fst = false then
        if decide ((8 : Int) < (↑(List.length x.2.1) : Int)) = false then
          (g12 N (x.1, ())).bind fun (r : RTs.den R12) => some !r.fst
        else some true
      else some true).bind
  fun (b : Bool) =>
  if b = true then (g9 N ()).bind fun (r : RTs.den R9) => some (r.fst, ())
  else
    (L4 N N ((x.1, x.2.1, false, x.1, (0 : Int), x.2.1, (↑(List.length x.2.1) : Int), (0 : Int), ()), ())).bind
      fun (r : Ctl × O4.den) =>
      r.fst.elim none
        (fun (id : Nat) =>
          if id = (0 : Nat) then
            (g10 N (r.snd.fst.fst, r.snd.fst.snd.snd.snd.fst, ())).bind fun (r_1 : RTs.den R10) =>
              (if decide (r_1.snd.fst = (0 : Int)) = true then
                    (g18 N (r_1.fst, ())).bind fun (r_2 : RTs.den R18) =>
                      if decide (r_2.fst ≤ r.snd.fst.snd.snd.snd.snd.fst) = true then
                        (g18 N (r.snd.fst.snd.fst, ())).bind fun (r_3 : RTs.den R18) =>
                          if decide (r_3.fst = r.snd.fst.snd.snd.snd.snd.fst) = true then
                            (g9 N ()).bind fun (r : RTs.den R9) => some r.fst
                          else some false
                      else some false
                  else some false).bind
                fun (b : Bool) => some (b, ())
          else none)
        (fun (id : Nat) => none) (some (r.snd.fst.snd.snd.fst, ()))
theorem run4 (N : Nat) (x : A4.den) : run (tab.ctx (F4 N)) N Try.f4 A4 R4 x = g4 N x := by kernel_rfl
theorem ok4 (N : Nat) : okFn (tab.ctx (F4 N)) Try.f4 A4 = true := by kernel_rfl
theorem fns4 (N : Nat) : FnOK Try.prog (tab.ctx (F4 N)) := (fnOK_cons (pure8 N) (fnOK_cons (pure9 N) (fnOK_cons (pure10 N) (fnOK_cons (pure12 N) (fnOK_cons (pure16 N) (fnOK_cons (pure18 N) fnOK_nil))))))
theorem pure4 (N : Nat) : PureOK Try.prog 4 A4 R4 (g4 N) := pureOK (tab.ctxOK tab_ok _) (fns4 N) Try.func4 (ok4 N) (run4 N)
end Go.Ev

/-
  quitclaim/quitclaimlaw12.DiffBack: what it answers. (Printed by wip/tools/gen.py.)
-/
namespace Go.Ev
open Go.Proofs
abbrev A5 : Ty := (.cons (.slice .str) (.cons (.slice .str) .unit))
abbrev R5 : List RT := [.d .bool]
noncomputable def F5 (N : Nat) : Fn := { fns := [(8, .pure A8 R8 (g8 N)), (9, .pure A9 R9 (g9 N)), (10, .pure A10 R10 (g10 N)), (11, .pure A11 R11 (g11 N)), (12, .pure A12 R12 (g12 N)), (18, .pure A18 R18 (g18 N))], writes := [], loops := [], conds := [], mats := [], vecs := [], fins := [] }
noncomputable def g5 (N : Nat) (x : A5.den) : Option (RTs.den R5) :=
 ((g8 N ([x.1, x.2.1], ())).bind fun (r : RTs.den R8) =>
      if r.fst = false then
        (g12 N (x.1, ())).bind fun (r : RTs.den R12) =>
          if (!r.fst) = false then (g12 N (x.2.1, ())).bind fun (r : RTs.den R12) => some !r.fst else some true
      else some true).bind
  fun (b : Bool) =>
  if b = true then (g9 N ()).bind fun (r : RTs.den R9) => some (r.fst, ())
  else
    (g10 N (x.1, x.2.1, ())).bind fun (r : RTs.den R10) =>
      (g10 N (x.2.1, x.1, ())).bind fun (r_1 : RTs.den R10) =>
        (g11 N (x.1, x.2.1, ())).bind fun (r_2 : RTs.den R11) =>
          (if decide (r.snd.fst = (0 : Int)) = true then
                if decide (r_1.snd.fst = (0 : Int)) = true then
                  if decide (r_2.snd.fst = (0 : Int)) = true then
                    (g18 N (r.fst, ())).bind fun (r_3 : RTs.den R18) =>
                      (g18 N (r_1.fst, ())).bind fun (r_4 : RTs.den R18) =>
                        if decide (r_3.fst = r_4.fst) = true then
                          (g18 N (r.fst, ())).bind fun (r : RTs.den R18) =>
                            if
                                decide
                                    (r.fst =
                                      IntKind.i64.wrap
                                        (IntKind.i64.wrap ((↑(List.length x.1) : Int) + (↑(List.length x.2.1) : Int)) -
                                          IntKind.i64.wrap ((2 : Int) * r_2.fst))) =
                                  true then
                              (g9 N ()).bind fun (r : RTs.den R9) => some r.fst
                            else some false
                        else some false
                  else some false
                else some false
              else some false).bind
            fun (b : Bool) => some (b, ())
theorem run5 (N : Nat) (x : A5.den) : run (tab.ctx (F5 N)) N Try.f5 A5 R5 x = g5 N x := by kernel_rfl
theorem ok5 (N : Nat) : okFn (tab.ctx (F5 N)) Try.f5 A5 = true := by kernel_rfl
theorem fns5 (N : Nat) : FnOK Try.prog (tab.ctx (F5 N)) := (fnOK_cons (pure8 N) (fnOK_cons (pure9 N) (fnOK_cons (pure10 N) (fnOK_cons (pure11 N) (fnOK_cons (pure12 N) (fnOK_cons (pure18 N) fnOK_nil))))))
theorem pure5 (N : Nat) : PureOK Try.prog 5 A5 R5 (g5 N) := pureOK (tab.ctxOK tab_ok _) (fns5 N) Try.func5 (ok5 N) (run5 N)
end Go.Ev

/-
  DIFFBACK, DIFFHUNKS, DIFFLEAST: the plain laws.
-/
namespace Go.Ev.Pl
open Go.Proofs

theorem hsum_map (l : List (Hk ByteArray)) : hsum (l.map hd) = sizes l := by
  unfold hsum sizes
  rw [List.map_map]
  rfl

theorem Makes.pos {α : Type} {now y : List α} {l : List (Hk α)} {lo : Nat} (h : Makes now l y lo) : ∀ k ∈ l, 0 < k.size := by
  induction h with
  | nil => simp
  | cons _ _ h3 _ ih => 
    intro k hk
    rcases List.mem_cons.1 hk with rfl | hk
    · exact h3
    · exact ih k hk

theorem sizes_cons (h : Hk ByteArray) (l : List (Hk ByteArray)) : sizes (h :: l) = h.size + sizes l := by simp [sizes]

theorem len_sizes : ∀ (l : List (Hk ByteArray)), (∀ k ∈ l, 0 < k.size) → l.length ≤ sizes l
  | [], _ => by simp [sizes]
  | h :: l, hp => by
    have := len_sizes l (fun k hk => hp k (List.mem_cons_of_mem _ hk))
    have := hp h (by simp)
    rw [sizes_cons, List.length_cons]; omega

theorem mem_sizes : ∀ (l : List (Hk ByteArray)), ∀ k ∈ l, k.size ≤ sizes l
  | [], _, h => by simp at h
  | h :: l, k, hk => by
    rw [sizes_cons]
    rcases List.mem_cons.1 hk with rfl | hk
    · omega
    · have := mem_sizes l k hk; omega

theorem e18_hunks (x y : Ls) (h : x.length + y.length ≤ 500) : Evt (fun N => g18 N (hunks x y, ())) (((sizes (diff x y) : Nat) : Int), ()) := by
  have h1 := diff_size x y
  have hp := (diff_makes x y).pos
  have h2 := len_sizes _ hp
  have := e18 (hunks x y) (by unfold hunks; rw [List.length_map]; omega) (fun k hk => by
    unfold hunks at hk
    obtain ⟨k', hk', rfl⟩ := List.mem_map.1 hk
    have := mem_sizes _ k' hk'
    unfold Hk.size at this
    show k'.old.length ≤ 1000 ∧ k'.new.length ≤ 1000
    omega)
  rwa [show hsum (hunks x y) = sizes (diff x y) from hsum_map _] at this

theorem small_len {x : Ls} (h : small x = true) : x.length ≤ 40 := by
  unfold small at h
  simp only [Bool.and_eq_true, decide_eq_true_eq] at h
  exact h.1

theorem law5 (x y : Ls) (hx : Fits x) (hy : Fits y) : ∃ N, g5 N (x, y, ()) = some (true, ()) := by
  obtain ⟨n1, k1⟩ := e8 [x, y] (show 2 ≤ maxLen by decide)
  obtain ⟨n2, k2⟩ := e12 x hx
  obtain ⟨n3, k3⟩ := e12 y hy
  obtain ⟨n4, k4⟩ := e9
  obtain ⟨n5, k5⟩ := e10 x y hx hy
  obtain ⟨n6, k6⟩ := e10 y x hy hx
  obtain ⟨n7, k7⟩ := e11 x y hx hy
  by_cases hs : small x = true ∧ small y = true
  · have sx := small_len hs.1
    have sy := small_len hs.2
    obtain ⟨n8, k8⟩ := e18_hunks x y (by omega)
    obtain ⟨n9, k9⟩ := e18_hunks y x (by omega)
    let N := n1 + n2 + n3 + n4 + n5 + n6 + n7 + n8 + n9
    refine ⟨N, ?_⟩
    have k1 := k1 N (by omega)
    have k2 := k2 N (by omega)
    have k3 := k3 N (by omega)
    have k4 := k4 N (by omega)
    have k5 := k5 N (by omega)
    have k6 := k6 N (by omega)
    have k7 := k7 N (by omega)
    have k8 := k8 N (by omega)
    have k9 := k9 N (by omega)
    simp only [List.all_cons, List.all_nil, hs.1, hs.2, Bool.and_self, Bool.not_true] at k1 k2 k3 k4 k5 k6 k7 k8 k9
    clear_value N
    show g5 N _ = _
    unfold g5
    simp only [k1, k2, k3, k4, Option.bind_some]
    cases b1 : linesOK x with
    | false => simp
    | true =>
      cases b2 : linesOK y with
      | false => simp
      | true =>
        simp only [b1, b2, Bool.and_self, if_true] at k5 k6 k7
        simp only [Bool.not_true, Bool.false_eq_true, if_false, if_true, Option.bind_some, k5, k6, k7, k8, k9, decide_true]
        have d1 := diff_size x y
        have d2 := diff_size y x
        have d3 := K_comm _ x y (Nat.le_refl _)
        have d4 := K_le_left x y
        rw [w64 (n := (2 : Int) * ((K x y : Nat) : Int)) (by omega) (by omega), w64 (n := ((x.length : Nat) : Int) + ((y.length : Nat) : Int)) (by omega) (by omega), w64 (by omega) (by omega)]
        have q1 : ((sizes (diff x y) : Nat) : Int) = ((sizes (diff y x) : Nat) : Int) := by omega
        have q2 : ((sizes (diff x y) : Nat) : Int) = ((x.length : Nat) : Int) + ((y.length : Nat) : Int) - 2 * ((K x y : Nat) : Int) := by omega
        rw [if_pos (decide_eq_true q1), if_pos (decide_eq_true q2)]
        rfl
  · let N := n1 + n4
    refine ⟨N, ?_⟩
    have k1 := k1 N (by omega)
    have k4 := k4 N (by omega)
    have : ([x, y].all small) = false := by
      simp only [List.all_cons, List.all_nil, Bool.and_true]
      cases h1 : small x <;> cases h2 : small y <;> simp_all
    simp only [this, Bool.not_false] at k1 k4
    clear_value N
    show g5 N _ = _
    unfold g5
    simp only [k1, k4, Option.bind_some]
    simp

/-! ### DiffHunks -/

theorem walk_mem : ∀ (n : Nat) (x y : Ls) (j : Nat) (c : Option (Hk ByteArray)), x.length + y.length ≤ n → ∀ h ∈ walk x y j c,
    (∀ s ∈ h.old, s ∈ x ∨ ∃ k, c = some k ∧ s ∈ k.old) ∧ ∀ s ∈ h.new, s ∈ y ∨ ∃ k, c = some k ∧ s ∈ k.new := by
  intro n
  induction n with
  | zero =>
    intro x y j c hl h hh
    have hx : x = [] := List.eq_nil_of_length_eq_zero (by omega)
    have hy : y = [] := List.eq_nil_of_length_eq_zero (by omega)
    subst hx; subst hy
    rw [walk] at hh
    cases c with
    | none => simp at hh
    | some k => simp at hh; subst hh; exact ⟨fun s hs => .inr ⟨_, rfl, hs⟩, fun s hs => .inr ⟨_, rfl, hs⟩⟩
  | succ n ih =>
    intro x y j c hl h hh
    have hdrop : ∀ (a : ByteArray) (xs y' : Ls), xs.length + y'.length ≤ n → h ∈ walk xs y' j (some ⟨(c.getD ⟨j, [], []⟩).at_, (c.getD ⟨j, [], []⟩).old ++ [a], (c.getD ⟨j, [], []⟩).new⟩) →
        (∀ s ∈ h.old, s ∈ a :: xs ∨ ∃ k, c = some k ∧ s ∈ k.old) ∧ ∀ s ∈ h.new, s ∈ y' ∨ ∃ k, c = some k ∧ s ∈ k.new := by
      intro a xs y' hl' hm
      obtain ⟨h1, h2⟩ := ih xs y' j _ hl' h hm
      refine ⟨fun s hs => ?_, fun s hs => ?_⟩
      · rcases h1 s hs with h1 | ⟨k, e, h1⟩
        · exact .inl (List.mem_cons_of_mem _ h1)
        · cases e
          rcases List.mem_append.1 h1 with h1 | h1
          · cases c with
            | none => simp at h1
            | some k => exact .inr ⟨k, rfl, h1⟩
          · rw [List.mem_singleton.1 h1]; exact .inl (by simp)
      · rcases h2 s hs with h2 | ⟨k, e, h2⟩
        · exact .inl h2
        · cases e
          cases c with
          | none => simp at h2
          | some k => exact .inr ⟨k, rfl, h2⟩
    have hins : ∀ (b : ByteArray) (x' bs : Ls), x'.length + bs.length ≤ n → h ∈ walk x' bs (j + 1) (some ⟨(c.getD ⟨j, [], []⟩).at_, (c.getD ⟨j, [], []⟩).old, (c.getD ⟨j, [], []⟩).new ++ [b]⟩) →
        (∀ s ∈ h.old, s ∈ x' ∨ ∃ k, c = some k ∧ s ∈ k.old) ∧ ∀ s ∈ h.new, s ∈ b :: bs ∨ ∃ k, c = some k ∧ s ∈ k.new := by
      intro b x' bs hl' hm
      obtain ⟨h1, h2⟩ := ih x' bs (j + 1) _ hl' h hm
      refine ⟨fun s hs => ?_, fun s hs => ?_⟩
      · rcases h1 s hs with h1 | ⟨k, e, h1⟩
        · exact .inl h1
        · cases e
          cases c with
          | none => simp at h1
          | some k => exact .inr ⟨k, rfl, h1⟩
      · rcases h2 s hs with h2 | ⟨k, e, h2⟩
        · exact .inl (List.mem_cons_of_mem _ h2)
        · cases e
          rcases List.mem_append.1 h2 with h2 | h2
          · cases c with
            | none => simp at h2
            | some k => exact .inr ⟨k, rfl, h2⟩
          · rw [List.mem_singleton.1 h2]; exact .inl (by simp)
    cases x with
    | nil =>
      cases y with
      | nil =>
        rw [walk] at hh
        cases c with
        | none => simp at hh
        | some k => simp at hh; subst hh; exact ⟨fun s hs => .inr ⟨_, rfl, hs⟩, fun s hs => .inr ⟨_, rfl, hs⟩⟩
      | cons b bs => rw [walk] at hh; exact hins b [] bs (by simp at hl ⊢; omega) hh
    | cons a xs =>
      cases y with
      | nil => rw [walk] at hh; exact hdrop a xs [] (by simp at hl ⊢; omega) hh
      | cons b bs =>
        simp only [List.length_cons] at hl
        rw [walk] at hh
        by_cases e : a = b
        · rw [if_pos e] at hh
          rcases List.mem_append.1 hh with hh | hh
          · cases c with
            | none => simp at hh
            | some k => simp at hh; subst hh; exact ⟨fun s hs => .inr ⟨_, rfl, hs⟩, fun s hs => .inr ⟨_, rfl, hs⟩⟩
          · obtain ⟨h1, h2⟩ := ih xs bs (j + 1) none (by omega) h hh
            refine ⟨fun s hs => ?_, fun s hs => ?_⟩
            · rcases h1 s hs with h1 | ⟨k, e, _⟩
              · exact .inl (List.mem_cons_of_mem _ h1)
              · cases e
            · rcases h2 s hs with h2 | ⟨k, e, _⟩
              · exact .inl (List.mem_cons_of_mem _ h2)
              · cases e
        · rw [if_neg e] at hh
          split at hh
          · exact hdrop a xs (b :: bs) (by simp; omega) hh
          · exact hins b (a :: xs) bs (by simp; omega) hh

theorem diff_mem (x y : Ls) : ∀ h ∈ diff x y, (∀ s ∈ h.old, s ∈ x) ∧ ∀ s ∈ h.new, s ∈ y := fun h hh => by
  obtain ⟨h1, h2⟩ := walk_mem _ x y 0 none (Nat.le_refl _) h hh
  refine ⟨fun s hs => ?_, fun s hs => ?_⟩
  · rcases h1 s hs with h1 | ⟨k, e, _⟩
    · exact h1
    · cases e
  · rcases h2 s hs with h2 | ⟨k, e, _⟩
    · exact h2
    · cases e

theorem linesOK_of {x y : Ls} (hy : linesOK y = true) (h : ∀ s ∈ x, s ∈ y) (hl : x.length ≤ 1000) : linesOK x = true := by
  unfold linesOK at *
  simp only [Bool.and_eq_true, decide_eq_true_eq, List.all_eq_true] at *
  exact ⟨hl, fun s hs => hy.2 s (h s hs)⟩

theorem put_length (x : Ls) (h : Hk ByteArray) : (put x h).length ≤ x.length + h.new.length := by
  unfold put
  simp only [List.length_append, List.length_take, List.length_drop]
  omega

theorem hk_hd (h : Hk ByteArray) : hk (hd h) = h := by
  unfold hk hd
  simp

end Go.Ev.Pl

/-
  DIFFHUNKS, DIFFLEAST: the plain laws.
-/
namespace Go.Ev.Pl
open Go.Proofs

abbrev H0 : Hd := Ty.zero (.agg (.cons (.int .i64) (.cons (.slice .str) (.cons (.slice .str) .unit))))

theorem getD_h {l : List Hd} {i : Nat} (h : i < l.length) (z : Hd) : List.getD l i z = l[i] := by simp [List.getD_eq_getElem?_getD, List.getElem?_eq_getElem h]

theorem bind_some' {β γ : Type} {o : Option β} {b : β} (h : o = some b) (f : β → Option γ) : o.bind f = f b := by rw [h]; rfl

/-- One turn of DiffHunks' loop. -/
theorem L3_step (N n : Nat) (y : Ls) (l : List Hd) (now : Ls) (i : Nat) (hl : l.length ≤ 1000) (hi : i < l.length)
    (h15 : g15 N (l[i], l[i], ()) = some (true, ())) (h16 : g16 N (now, l[i], ()) = some (app now l[i])) (ok : (app now l[i]).2.1 = 0)
    (hb : ∀ k, i = k + 1 → ∀ (hk : k < l.length), ¬ l[i].1 ≤ l[k].1 + (l[k].2.2.1.length : Int) ∧ 0 ≤ l[k].1 ∧ l[k].1 ≤ 1000 ∧ l[k].2.2.1.length ≤ 1000) :
    L3 N (n + 1) ((y, false, l, l, now, l, (l.length : Int), (i : Int), ()), ()) = L3 N n ((y, false, l, l, (app now l[i]).1, l, (l.length : Int), ((i : Int) + 1), ()), ()) := by
  rw [L3_succ]
  dsimp only [Ty.den, Sh.den]
  have gi : ∀ z, List.getD l i z = l[i] := fun z => getD_h hi z
  have h15' : g15 N ((l[i].1, l[i].2.1, l[i].2.2.1, ()), l[i], ()) = some (true, ()) := h15
  have okd : decide ((app now l[i]).2.1 ≠ 0) = false := decide_eq_false (fun h => h ok)
  cases i with
  | zero =>
    have z : ((0 : Nat) : Int) = 0 := rfl
    have t0 : Int.toNat (0 : Int) = 0 := rfl
    have p0 : (0 : Int) < (l.length : Int) := by omega
    have lt0 : decide ((0 : Int) < 0) = false := rfl
    simp only [z, t0] at gi ⊢
    repeat first
      | simp (disch := omega) only [↓ite_dec, ↓if_pos, ite_dec', ite_ndec', ite_pos', w64, t0, gi, h15', h16, okd, lt0, Option.bind_some, Bool.not_true, if_true, Bool.false_eq_true, if_false]
      | dsimp only [Ty.den, Sh.den]
  | succ k =>
    have hk : k < l.length := by omega
    obtain ⟨q1, q2, q3, q4⟩ := hb k rfl hk
    have gk : ∀ z, List.getD l k z = l[k] := fun z => getD_h hk z
    have e : ((k + 1 : Nat) : Int) - 1 = (k : Int) := by omega
    repeat first
      | simp (disch := omega) only [↓ite_dec, ↓if_pos, ite_dec', ite_ndec', ite_pos', w64, tn0, e, gi, gk, h15', h16, okd, Option.bind_some, Bool.not_true, if_true, Bool.false_eq_true, if_false]
      | dsimp only [Ty.den, Sh.den]

theorem L3_ev (y : Ls) (x : Ls) (bx : linesOK x = true) (by' : linesOK y = true) (D : List (Hk ByteArray)) (hD : ∀ h ∈ D, (∀ s ∈ h.old, s ∈ x) ∧ ∀ s ∈ h.new, s ∈ y) (hl : D.length ≤ 200) (hsz : ∀ h ∈ D, h.size ≤ 200) :
    ∀ (d i : Nat) (now : Ls) (lo : Nat), D.length - i = d → i ≤ D.length → linesOK now = true → now.length + sizes (D.drop i) ≤ 1000 → Makes now (D.drop i) y lo →
      (∀ k, i = k + 1 → ∀ hk : k < D.length, D[k].at_ + D[k].new.length + 1 ≤ lo ∧ D[k].at_ ≤ 1000) →
      ∃ N0, ∀ N, N0 ≤ N → ∀ n, d < n → L3 N n ((y, false, D.map hd, D.map hd, now, D.map hd, (((D.map hd).length : Nat) : Int), (i : Int), ()), ()) = some (Ctl.exit 0, (y, false, y, ()), ()) := by
  intro d
  induction d with
  | zero =>
    intro i now lo hd1 hi bn hb hm _
    have ei : D.drop i = [] := List.drop_eq_nil_of_le (by omega)
    rw [ei] at hm
    cases hm
    refine ⟨0, fun N _ n hn => ?_⟩
    obtain ⟨n, rfl⟩ : ∃ m, n = m + 1 := ⟨n - 1, by omega⟩
    rw [L3_succ, if_neg (by rw [decide_eq_true_eq, List.length_map]; omega)]
  | succ d ih =>
    intro i now lo hd1 hi bn hb hm hprev
    have hlt : i < D.length := by omega
    have hmem : D[i] ∈ D := List.getElem_mem hlt
    rw [List.drop_eq_getElem_cons hlt] at hm hb
    rw [sizes_cons] at hb
    cases hm with
    | cons hf hlo hpos hrest =>
      have hs := hsz _ hmem
      have hsize : D[i].size = D[i].old.length + D[i].new.length := rfl
      have bo : linesOK D[i].old = true := linesOK_of bx (hD _ hmem).1 (by omega)
      have bw : linesOK D[i].new = true := linesOK_of by' (hD _ hmem).2 (by omega)
      have hpl := put_length now D[i]
      have bp : linesOK (put now D[i]) = true := linesOK_put bn bw (by omega)
      have hat : D[i].at_ ≤ now.length := by
        obtain ⟨p, s, h1, h2⟩ := hf
        rw [h2, List.length_append]; omega
      have hr : rightH (hd D[i]) = true := by
        unfold rightH hd
        simp only [bo, bw, Bool.true_and, Bool.and_eq_true, decide_eq_true_eq, Bool.or_eq_true]
        omega
      have happ : app now (hd D[i]) = (put now D[i], 0, ()) := by
        have := app_put (x := now) (h := hd D[i]) bn hr (by rw [hk_hd]; exact hf) (by rw [hk_hd]; omega)
        rwa [hk_hd] at this
      obtain ⟨n1, k1⟩ := e15 (hd D[i]) (hd D[i]) (fits_ok bo).len (fits_ok bw).len
      obtain ⟨n2, k2⟩ := e16 now (hd D[i]) (fits_ok bn) (fits_ok bo) (fits_ok bw)
      obtain ⟨n3, k3⟩ := ih (i + 1) (put now D[i]) (D[i].at_ + D[i].new.length + 1) (by omega) (by omega) bp (by omega) hrest
        (fun k e hk => by
          have : k = i := by omega
          subst this
          exact ⟨Nat.le_refl _, by omega⟩)
      refine ⟨max n1 (max n2 n3), fun N hN n hn => ?_⟩
      obtain ⟨n, rfl⟩ : ∃ m, n = m + 1 := ⟨n - 1, by omega⟩
      have k1 := k1 N (by omega)
      have k2 := k2 N (by omega)
      simp only [decide_true] at k1 k2
      have hml : (D.map hd).length = D.length := List.length_map _
      have hgi : (D.map hd)[i]'(by omega) = hd D[i] := List.getElem_map _
      rw [L3_step N n y (D.map hd) now i (by omega) (by omega) (by rw [hgi]; exact k1) (by rw [hgi]; exact k2) (by rw [hgi, happ])
        (fun k e hk => by
          have hk' : k < D.length := by omega
          obtain ⟨p1, p2⟩ := hprev k e hk'
          have hgk : (D.map hd)[k] = hd D[k] := List.getElem_map _
          rw [hgi, hgk]
          have h5 := hsz _ (List.getElem_mem hk')
          have h6 : D[k].size = D[k].old.length + D[k].new.length := rfl
          show ¬ ((D[i].at_ : Nat) : Int) ≤ ((D[k].at_ : Nat) : Int) + (D[k].new.length : Int) ∧ (0 : Int) ≤ ((D[k].at_ : Nat) : Int) ∧ ((D[k].at_ : Nat) : Int) ≤ 1000 ∧ D[k].new.length ≤ 1000
          omega)]
      rw [hgi, happ]
      exact k3 N (by omega) n (by omega)

theorem law3 (x y : Ls) (hx : Fits x) (hy : Fits y) : ∃ N, g3 N (x, y, ()) = some (true, ()) := by
  obtain ⟨n1, k1⟩ := e8 [x, y] (show 2 ≤ maxLen by decide)
  obtain ⟨n2, k2⟩ := e12 x hx
  obtain ⟨n3, k3⟩ := e12 y hy
  obtain ⟨n4, k4⟩ := e9
  obtain ⟨n5, k5⟩ := e10 x y hx hy
  obtain ⟨n7, k7⟩ := e11 x y hx hy
  by_cases hs : small x = true ∧ small y = true
  · have sx := small_len hs.1
    have sy := small_len hs.2
    by_cases hb : linesOK x = true ∧ linesOK y = true
    · obtain ⟨b1, b2⟩ := hb
      have hsz := diff_size x y
      have hmk := diff_makes x y
      have hln := len_sizes _ hmk.pos
      obtain ⟨n8, k8⟩ := L3_ev y x b1 b2 (diff x y) (diff_mem x y) (by omega) (fun h hh => by have := mem_sizes _ h hh; omega) _ 0 x 0 rfl (Nat.zero_le _) b1 (by rw [List.drop_zero]; omega) (by rw [List.drop_zero]; exact hmk) (fun k e => by omega)
      obtain ⟨n9, k9⟩ := e17 y y hy.len
      let N := n1 + n2 + n3 + n4 + n5 + n7 + n8 + n9 + 200
      refine ⟨N, ?_⟩
      have k1 := k1 N (by omega)
      have k2 := k2 N (by omega)
      have k3 := k3 N (by omega)
      have k4 := k4 N (by omega)
      have k5 := k5 N (by omega)
      have k7 := k7 N (by omega)
      have k8 := k8 N (by omega) N (by omega)
      have k9 := k9 N (by omega)
      have k13 := e13 x y (by omega) (by omega) N (by omega)
      have k14 := e14 y (by omega) N (by omega) x N (by omega) (by omega)
      have hz : N = N := rfl
      clear_value N
      simp only [List.all_cons, List.all_nil, hs.1, hs.2, b1, b2, Bool.and_self, Bool.not_true, if_true] at k1 k2 k3 k4 k5 k7 k9
      have k8' : L3 N N ((y, false, hunks x y, hunks x y, x, hunks x y, ((hunks x y).length : Int), (0 : Int), ()), ()) = _ := k8
      have tl := tabK_length x y
      have t0 : Int.toNat (0 : Int) = 0 := rfl
      have ti : ∀ z, List.getD (tabK x y) 0 z = rowK x y := fun z => tb_getD (by omega) z
      have rj : ∀ z, List.getD (rowK x y) 0 z = ((K x y : Nat) : Int) := fun z => tb_getD (by omega) z
      have dd : ∀ a : Int, decide (a ≠ a) = false := fun a => decide_eq_false (fun h => h rfl)
      show g3 N _ = _
      unfold g3
      repeat first
        | simp (disch := omega) only [k1, k2, k3, k4, k5, k7, k13, k14, k8', k9, t0, ti, rj, tl, rowK_length, dd, ↓if_pos, ite_pos', Option.bind_some, Bool.not_true, Bool.false_eq_true, if_false, if_true, Ctl.elim, decide_true]
        | dsimp only [Ty.den, Sh.den]
    · let N := n1 + n2 + n3 + n4 + n5 + n7
      refine ⟨N, ?_⟩
      have k1 := k1 N (by omega)
      have k2 := k2 N (by omega)
      have k3 := k3 N (by omega)
      have k4 := k4 N (by omega)
      have k5 := k5 N (by omega)
      have k7 := k7 N (by omega)
      clear_value N
      have hb' : (linesOK x && linesOK y) = false := by
        cases h1 : linesOK x <;> cases h2 : linesOK y <;> simp_all
      simp only [List.all_cons, List.all_nil, hs.1, hs.2, hb', Bool.and_self, Bool.not_true, Bool.false_eq_true, if_false] at k1 k2 k3 k4 k5 k7
      show g3 N _ = _
      unfold g3
      simp only [k1, k2, k3, k4, k5, k7, Option.bind_some, Bool.false_eq_true, if_false]
      cases h1 : linesOK x <;> cases h2 : linesOK y <;> simp_all
  · let N := n1 + n4
    refine ⟨N, ?_⟩
    have k1 := k1 N (by omega)
    have k4 := k4 N (by omega)
    have : ([x, y].all small) = false := by
      simp only [List.all_cons, List.all_nil, Bool.and_true]
      cases h1 : small x <;> cases h2 : small y <;> simp_all
    simp only [this, Bool.not_false] at k1 k4
    clear_value N
    show g3 N _ = _
    unfold g3
    simp only [k1, k4, Option.bind_some, if_true]

end Go.Ev.Pl

/-
  DIFFLEAST: the plain law.
-/
namespace Go.Ev.Pl
open Go.Proofs

abbrev THs : Ty := .slice (.agg (.cons (.int .i64) (.cons (.slice .str) (.cons (.slice .str) .unit))))

theorem fit_hd {hs : List Hd} (h : Fit THs hs) : ∀ k ∈ hs, Fits k.2.1 ∧ Fits k.2.2.1 := fun k hk => ⟨(h.2 k hk).2.1, (h.2 k hk).2.2.1⟩

/-- One turn that goes on. -/
theorem L4_next (N n : Nat) (x : Ls) (hs : List Hd) (now : Ls) (t : Nat) (i : Nat) (hl : hs.length ≤ 8) (hi : i < hs.length) (ht : t ≤ 100000)
    (h1 : hs[i].2.1.length ≤ 40) (h2 : hs[i].2.2.1.length ≤ 40) (h8 : g8 N ([hs[i].2.1, hs[i].2.2.1], ()) = some (false, ()))
    (h16 : g16 N (now, hs[i], ()) = some (app now hs[i])) (ok : (app now hs[i]).2.1 = 0) (h60 : (app now hs[i]).1.length ≤ 60) :
    L4 N (n + 1) ((x, hs, false, now, (t : Int), hs, (hs.length : Int), (i : Int), ()), ()) =
      L4 N n ((x, hs, false, (app now hs[i]).1, ((t + (hs[i].2.1.length + hs[i].2.2.1.length) : Nat) : Int), hs, (hs.length : Int), ((i : Int) + 1), ()), ()) := by
  rw [L4_succ]
  dsimp only [Ty.den, Sh.den]
  have gi : ∀ z, List.getD hs i z = hs[i] := fun z => getD_h hi z
  have h16' : g16 N (now, (hs[i].1, hs[i].2.1, hs[i].2.2.1, ()), ()) = some (app now hs[i]) := h16
  have okd : decide ((app now hs[i]).2.1 ≠ 0) = false := decide_eq_false (fun h => h ok)
  repeat first
    | simp (disch := omega) only [↓ite_dec, ↓if_pos, ite_dec', ite_ndec', ite_pos', w64, tn0, gi, h8, h16', okd, Option.bind_some, if_true, Bool.false_eq_true, if_false]
    | dsimp only [Ty.den, Sh.den]
  rfl

/-- One turn that ends: a hunk too big. -/
theorem L4_big (N n : Nat) (x : Ls) (hs : List Hd) (now : Ls) (t : Int) (i : Nat) (hi : i < hs.length)
    (h8 : g8 N ([hs[i].2.1, hs[i].2.2.1], ()) = some (true, ())) (h9 : g9 N () = some (true, ())) :
    L4 N (n + 1) ((x, hs, false, now, t, hs, (hs.length : Int), (i : Int), ()), ()) = some (Ctl.ret, (x, hs, true, now, t, ()), ()) := by
  rw [L4_succ]
  dsimp only [Ty.den, Sh.den]
  have gi : ∀ z, List.getD hs i z = hs[i] := fun z => getD_h hi z
  repeat first
    | simp (disch := omega) only [↓ite_dec, ↓if_pos, ite_dec', ite_ndec', ite_pos', w64, tn0, gi, h8, h9, Option.bind_some, if_true, Bool.false_eq_true, if_false]
    | dsimp only [Ty.den, Sh.den]

/-- One turn that ends: a hunk that doesn't fit, or too many lines. -/
theorem L4_bad (N n : Nat) (x : Ls) (hs : List Hd) (now : Ls) (t : Int) (i : Nat) (hi : i < hs.length)
    (h8 : g8 N ([hs[i].2.1, hs[i].2.2.1], ()) = some (false, ())) (h9 : g9 N () = some (true, ()))
    (h16 : g16 N (now, hs[i], ()) = some (app now hs[i])) (bad : (app now hs[i]).2.1 ≠ 0 ∨ 60 < (app now hs[i]).1.length) :
    L4 N (n + 1) ((x, hs, false, now, t, hs, (hs.length : Int), (i : Int), ()), ()) = some (Ctl.ret, (x, hs, true, now, t, ()), ()) := by
  rw [L4_succ]
  dsimp only [Ty.den, Sh.den]
  have gi : ∀ z, List.getD hs i z = hs[i] := fun z => getD_h hi z
  have h16' : g16 N (now, (hs[i].1, hs[i].2.1, hs[i].2.2.1, ()), ()) = some (app now hs[i]) := h16
  by_cases ok : (app now hs[i]).2.1 = 0
  · have okd : decide ((app now hs[i]).2.1 ≠ 0) = false := decide_eq_false (fun h => h ok)
    have hl : 60 < (app now hs[i]).1.length := bad.resolve_left (fun h => h ok)
    repeat first
      | simp (disch := omega) only [↓ite_dec, ↓if_pos, ite_dec', ite_ndec', ite_pos', w64, tn0, gi, h8, h9, h16', okd, Option.bind_some, if_true, Bool.false_eq_true, if_false]
      | dsimp only [Ty.den, Sh.den]
  · have okd : decide ((app now hs[i]).2.1 ≠ 0) = true := decide_eq_true ok
    repeat first
      | simp (disch := omega) only [↓ite_dec, ↓if_pos, ite_dec', ite_ndec', ite_pos', w64, tn0, gi, h8, h9, h16', okd, Option.bind_some, if_true, Bool.false_eq_true, if_false, Bool.true_eq_false]
      | dsimp only [Ty.den, Sh.den]

def Least (x : Ls) (hs : List Hd) (now : Ls) (t : Nat) : Prop :=
  linesOK now = true ∧ now.length ≤ 60 ∧ t = hsum hs ∧ x.length + now.length ≤ 2 * K x now + t ∧ ∀ h ∈ hs, h.2.1.length ≤ 40 ∧ h.2.2.1.length ≤ 40

theorem hsum_le : ∀ (hs : List Hd), (∀ h ∈ hs, h.2.1.length ≤ 40 ∧ h.2.2.1.length ≤ 40) → hsum hs ≤ 80 * hs.length
  | [], _ => by simp [hsum]
  | h :: hs, hp => by
    have h1 := hp h (by simp)
    have h2 := hsum_le hs (fun k hk => hp k (List.mem_cons_of_mem _ hk))
    have : hsum (h :: hs) = h.2.1.length + h.2.2.1.length + hsum hs := by simp [hsum]
    rw [this, List.length_cons]; omega

theorem hsum_snoc (hs : List Hd) (h : Hd) : hsum (hs ++ [h]) = hsum hs + (h.2.1.length + h.2.2.1.length) := by
  simp [hsum]

theorem L4_ev (x : Ls) (hs : List Hd) (hl : hs.length ≤ 8) (hf : ∀ k ∈ hs, Fits k.2.1 ∧ Fits k.2.2.1) : ∀ (d i : Nat) (now : Ls) (t : Nat), hs.length - i = d → i ≤ hs.length → Least x (hs.take i) now t →
    ∃ res, ((∃ now' t', res = (Ctl.ret, (x, hs, true, now', t', ()), ())) ∨ ∃ now' t', Least x hs now' t' ∧ res = (Ctl.exit 0, (x, hs, false, now', ((t' : Nat) : Int), ()), ())) ∧
      ∃ N0, ∀ N, N0 ≤ N → ∀ n, d < n → L4 N n ((x, hs, false, now, (t : Int), hs, (hs.length : Int), (i : Int), ()), ()) = some res := by
  intro d
  induction d with
  | zero =>
    intro i now t hd hi hi'
    have ei : hs.take i = hs := List.take_of_length_le (by omega)
    rw [ei] at hi'
    refine ⟨_, .inr ⟨now, t, hi', rfl⟩, 0, fun N _ n hn => ?_⟩
    obtain ⟨n, rfl⟩ : ∃ m, n = m + 1 := ⟨n - 1, by omega⟩
    rw [L4_succ, if_neg (by rw [decide_eq_true_eq]; omega)]
  | succ d ih =>
    intro i now t hd hi hinv
    have hlt : i < hs.length := by omega
    have hmem : hs[i] ∈ hs := List.getElem_mem hlt
    obtain ⟨f1, f2⟩ := hf _ hmem
    obtain ⟨i1, i2, i3, i4, i5⟩ := hinv
    obtain ⟨n8, k8⟩ := e8 [hs[i].2.1, hs[i].2.2.1] (show 2 ≤ maxLen by decide)
    obtain ⟨n9, k9⟩ := e9
    obtain ⟨n16, k16⟩ := e16 now hs[i] (fits_ok i1) f1 f2
    by_cases hs8 : small hs[i].2.1 = true ∧ small hs[i].2.2.1 = true
    · have s1 := small_len hs8.1
      have s2 := small_len hs8.2
      simp only [List.all_cons, List.all_nil, hs8.1, hs8.2, Bool.and_self, Bool.not_true] at k8
      by_cases hb : (app now hs[i]).2.1 = 0 ∧ (app now hs[i]).1.length ≤ 60
      · obtain ⟨b1, b2, b3, b4, b5⟩ := app_ok hb.1
        have tk : hs.take i ++ [hs[i]] = hs.take (i + 1) := List.take_append_getElem hlt
        have hr := b2
        unfold rightH at hr
        simp only [Bool.and_eq_true, decide_eq_true_eq] at hr
        have hK := fits_K b3
        have hT := K_tri _ x now (put now (hk hs[i])) (Nat.le_refl _)
        have hsz : (hk hs[i]).size = hs[i].2.1.length + hs[i].2.2.1.length := rfl
        have htb : t ≤ 80 * (hs.take i).length := by rw [i3]; exact hsum_le _ i5
        have hti : (hs.take i).length = i := by rw [List.length_take]; omega
        have hinv' : Least x (hs.take (i + 1)) (app now hs[i]).1 (t + (hs[i].2.1.length + hs[i].2.2.1.length)) := by
          refine ⟨?_, hb.2, ?_, ?_, ?_⟩
          · rw [b4]; exact linesOK_put b1 hr.2.2.2.1 b5
          · rw [← tk, hsum_snoc, i3]
          · rw [b4]; omega
          · rw [← tk]
            intro h hh
            rcases List.mem_append.1 hh with hh | hh
            · exact i5 h hh
            · rw [List.mem_singleton.1 hh]; exact ⟨s1, s2⟩
        obtain ⟨res, hres, n0, k0⟩ := ih (i + 1) _ _ (by omega) (by omega) hinv'
        refine ⟨res, hres, n8 + n16 + n0, fun N hN n hn => ?_⟩
        obtain ⟨n, rfl⟩ : ∃ m, n = m + 1 := ⟨n - 1, by omega⟩
        rw [L4_next N n x hs now t i hl hlt (by omega) s1 s2 (k8 N (by omega)) (k16 N (by omega)) hb.1 hb.2]
        exact k0 N (by omega) n (by omega)
      · refine ⟨_, .inl ⟨now, (t : Int), rfl⟩, n8 + n9 + n16, fun N hN n hn => ?_⟩
        obtain ⟨n, rfl⟩ : ∃ m, n = m + 1 := ⟨n - 1, by omega⟩
        refine L4_bad N n x hs now t i hlt (k8 N (by omega)) (k9 N (by omega)) (k16 N (by omega)) ?_
        by_cases h0 : (app now hs[i]).2.1 = 0
        · exact .inr (by
            have : ¬ (app now hs[i]).1.length ≤ 60 := fun h => hb ⟨h0, h⟩
            omega)
        · exact .inl h0
    · refine ⟨_, .inl ⟨now, (t : Int), rfl⟩, n8 + n9, fun N hN n hn => ?_⟩
      obtain ⟨n, rfl⟩ : ∃ m, n = m + 1 := ⟨n - 1, by omega⟩
      have hf8 : ([hs[i].2.1, hs[i].2.2.1].all small) = false := by
        simp only [List.all_cons, List.all_nil, Bool.and_true]
        cases h1 : small hs[i].2.1 <;> cases h2 : small hs[i].2.2.1 <;> simp_all
      simp only [hf8, Bool.not_false] at k8
      exact L4_big N n x hs now t i hlt (k8 N (by omega)) (k9 N (by omega))

theorem law4 (x : Ls) (hs : List Hd) (hx : Fits x) (hh : Fit THs hs) : ∃ N, g4 N (x, hs, ()) = some (true, ()) := by
  obtain ⟨n1, k1⟩ := e8 [x] (show 1 ≤ maxLen by decide)
  obtain ⟨n2, k2⟩ := e12 x hx
  obtain ⟨n9, k9⟩ := e9
  have hall : ([x].all small) = small x := by simp
  rw [hall] at k1
  by_cases hb : small x = true ∧ hs.length ≤ 8 ∧ linesOK x = true
  · obtain ⟨b1, b2, b3⟩ := hb
    have sx := small_len b1
    obtain ⟨res, hres, n4, k4⟩ := L4_ev x hs b2 (fit_hd hh) _ 0 x 0 rfl (Nat.zero_le _)
      ⟨b3, by omega, by simp [hsum], by rw [K_self]; omega, by simp⟩
    rcases hres with ⟨now', t', rfl⟩ | ⟨now', t', hL, rfl⟩
    · let N := n1 + n2 + n4 + 20
      refine ⟨N, ?_⟩
      have k1 := k1 N (by omega)
      have k2 := k2 N (by omega)
      have k4 := k4 N (by omega) N (by omega)
      clear_value N
      simp only [b1, b3, Bool.not_true] at k1 k2
      have k4' : L4 N N ((x, hs, false, x, (0 : Int), hs, (hs.length : Int), (0 : Int), ()), ()) = _ := k4
      show g4 N _ = _
      unfold g4
      repeat first
        | simp (disch := omega) only [k1, k2, k4', ↓ite_nf, ite_nf', Option.bind_some, Bool.not_true, Bool.false_eq_true, if_false, if_true, Ctl.elim]
        | dsimp only [Ty.den, Sh.den]
    · obtain ⟨l1, l2, l3, l4, l5⟩ := hL
      have hds := diff_size x now'
      obtain ⟨n10, k10⟩ := e10 x now' hx (fits_ok l1)
      obtain ⟨n18, k18⟩ := e18_hunks x now' (by omega)
      obtain ⟨n19, k19⟩ := e18 hs (by omega) (fun h hm => by have := l5 h hm; omega)
      let N := n1 + n2 + n4 + n9 + n10 + n18 + n19 + 20
      refine ⟨N, ?_⟩
      have k1 := k1 N (by omega)
      have k2 := k2 N (by omega)
      have k9 := k9 N (by omega)
      have k4 := k4 N (by omega) N (by omega)
      have k10 := k10 N (by omega)
      have k18 := k18 N (by omega)
      have k19 := k19 N (by omega)
      clear_value N
      simp only [b1, b3, l1, Bool.not_true, Bool.and_self, if_true] at k1 k2 k10
      simp only at k18 k19 k9
      have k4' : L4 N N ((x, hs, false, x, (0 : Int), hs, (hs.length : Int), (0 : Int), ()), ()) = _ := k4
      have q : hsum hs = t' := l3.symm
      rw [q] at k19
      have dd : ∀ a : Int, decide (a = a) = true := fun a => decide_eq_true rfl
      show g4 N _ = _
      unfold g4
      repeat first
        | simp (disch := omega) only [k1, k2, k4', k9, k10, k18, k19, dd, ↓ite_dec, ite_dec', ↓ite_nf, ite_nf', Option.bind_some, Bool.not_true, Bool.false_eq_true, if_false, if_true, Ctl.elim]
        | dsimp only [Ty.den, Sh.den]
      rw [if_pos (decide_eq_true (show ((sizes (diff x now') : Nat) : Int) ≤ ((t' : Nat) : Int) by omega))]
      rfl
  · let N := n1 + n2 + n9
    refine ⟨N, ?_⟩
    have k1 := k1 N (by omega)
    have k2 := k2 N (by omega)
    have k9 := k9 N (by omega)
    clear_value N
    simp only at k1 k2 k9
    show g4 N _ = _
    unfold g4
    cases b1 : small x with
    | false =>
      simp only [b1, Bool.not_false] at k1
      simp only [k1, k9, Option.bind_some, Bool.true_eq_false, if_false, if_true]
    | true =>
      simp only [b1, Bool.not_true] at k1
      by_cases b2 : hs.length ≤ 8
      · have b3 : linesOK x = false := by
          cases h : linesOK x with
          | false => rfl
          | true => exact absurd ⟨b1, b2, h⟩ hb
        simp only [b3] at k2
        repeat first
          | simp (disch := omega) only [k1, k2, k9, ↓ite_nf, ite_nf', Option.bind_some, Bool.not_false, if_true]
          | dsimp only [Ty.den, Sh.den]
      · repeat first
          | simp (disch := omega) only [k1, k2, k9, ↓ite_f, ite_f', Option.bind_some, if_true]
          | dsimp only [Ty.den, Sh.den]

end Go.Ev.Pl
