/-
  NEW MEMORY: variables in boxes, literals; append.
-/
import Derived.Test.YtjkihngihbnpoaaA
import Derived.Laws.CopyRow
import Derived.Orders
import Derived.Scope
import Derived.Deep.Slices
import Derived.OpenShut
import Derived.Test.YtjkihngihbnpoaaProg
import Derived.KernelRfl
set_option linter.unusedSimpArgs false
set_option linter.unusedVariables false
namespace Go.Ev
open Go.RowKit (Below)

section
variable {P : Program} {w0 : World} {com0 : Com} {f : Frm} {nt : Nat} {G G' : Gh} {st : St} {a : Act} {w w' : World} {R : Type} {K : Eff → Option R} {r : R}

theorem Inv.drew (hI : Inv w0 com0 f nt G st a w) : Inv w0 com0 f nt G st a w.drew :=
  hI.ext ⟨fun _ _ h => h, fun _ _ _ => rfl, Nat.le_refl _, fun _ _ => ⟨rfl, rfl, rfl⟩, fun _ _ => ⟨rfl, fun _ _ h => ⟨h, rfl⟩, fun _ _ => rfl⟩, fun _ _ _ => ⟨rfl, rfl, fun _ h => h⟩⟩ (Below.refl _ _).drew rfl hI.wrhi (fun _ _ _ => Iff.rfl) hI.comlt

theorem OwnV.drew {p : GP} {e : Ty} {xs : List e.den} {v : Value} (h : OwnV G w p e xs v) : OwnV G w.drew p e xs v := by
  have hx : Ext (fun _ => True) G w G w.drew := ⟨fun _ _ h => h, fun _ _ _ => rfl, Nat.le_refl _, fun _ _ => ⟨rfl, rfl, rfl⟩, fun _ _ => ⟨rfl, fun _ _ h => ⟨h, rfl⟩, fun _ _ => rfl⟩, fun _ _ _ => ⟨rfl, rfl, fun _ h => h⟩⟩
  exact h.ext hx trivial

/-- A new variable in a box. -/
theorem does_box (hI : Inv w0 com0 f nt G st a w) {o : Oper} (hd : ∀ d, o.dst = some d → d < nt) {cs : Array Value} {t : TypeId} {ls : List AV}
    (hrun : (execOp a.eval o).run P w = .ok (.value (.pointer (some ⟨w.heap.size, 0, none⟩))) (w.alloc (.cells cs t)))
    (hlay : ∀ G' w', Ext (fun _ => True) G w G' w' → (∀ g, G'.wr g = .spare (.leaf G.nb 0) ↔ G.wr g = .spare (.leaf G.nb 0)) → Lay G' w' G.nb 0 ls cs.toList) :
    Does P w0 com0 f nt o a w (({ val := .ptr st.bl.length 0, bnew := some (.box ls) } : Eff).on o.dst st) := by
  intro next Q hn
  unfold Oper.wp
  rw [hrun, Oper.upon_value]
  have hx := hI.grow_ext (.cells cs t) 0 0
  have hloc : (G.grow w.heap.size 0 0).loc G.nb = w.heap.size := by simp [Gh.grow, upd]
  have hI' := hI.alloc (b := .box ls) (len := 0) (wd := 0) (cur := cs) (t := t) ⟨cs, t, by rw [hloc]; exact heap_alloc_new w _, by rw [hloc]; simp [Gh.grow, upd], fun o ho => by
    rw [hloc] at ho
    exact absurd (hI.comlt _ _ ho) (Nat.lt_irrefl _), hlay _ _ hx (fun g => by
      simp only [Gh.grow, upd]
      by_cases hg : g = w.heap.size
      · subst hg
        have : G.wr w.heap.size = .none := by
          cases h : G.wr w.heap.size with
          | none => rfl
          | _ => exact absurd (hI.wrhi w.heap.size (by rw [h]; simp)).2 (Nat.lt_irrefl _)
        simp [this]
      · simp [hg])⟩
  cases ho : o.dst with
  | none =>
    rw [ho] at hn
    exact hn _ _ _ hI'
  | some d =>
    rw [ho] at hn
    refine hn _ _ _ (hI'.put (hd d ho) (av := .ptr st.bl.length 0) (al := none) rfl ?_ (fun q hq => by cases hq))
    simp only [VA]
    rw [← hI.nb, hloc]
    exact ⟨Nat.lt_succ_self _, rfl⟩

theorem alloc_sound (hI : Inv w0 com0 f nt G st a w) {o : Oper} (hd : ∀ d, o.dst = some d → d < nt) {t : TypeId} (ho : o.op = .alloc t) {τ : Ty} (hok : okTy P τ t = true) {ls : List AV} (hs : settle τ (zeroLeaves τ) = some (ls, [])) (hw : wide ls = true) :
    Does P w0 com0 f nt o a w (({ val := .ptr st.bl.length 0, bnew := some (.box ls) } : Eff).on o.dst st) := by
  obtain ⟨i, z, h1, h2, h3, h4, h5⟩ := okTy_info hok
  refine does_box hI hd (cs := z.cells) (t := t) ?_ (fun G' w' _ _ => ?_)
  · simp [execOp, ho, Instr.alloc, zeroValue, typeInfo, h1, h3, newVar, newRow]
  · obtain ⟨c, k1, k2, k3⟩ := zc_leaves (G := G') (w := w') h5
    rw [List.append_nil] at k1
    rw [k1]
    obtain ⟨c1, c2, q1, q2, q3, q4⟩ := settle_sound (r := G.nb) hs k2
    simp only [LL] at q4
    subst q4
    rw [q1, List.append_nil]
    exact q3 hw 0

theorem box_sound (hI : Inv w0 com0 f nt G st a w) {o : Oper} (hd : ∀ d, o.dst = some d → d < nt) {t : TypeId} {x : Operand} (ho : o.op = .box t x) {ls : List AV} {τ : Ty} (hs : (opv st x).leaves τ = some ls) (hw : wide ls = true) :
    Does P w0 com0 f nt o a w (({ val := .ptr st.bl.length 0, bnew := some (.box ls) } : Eff).on o.dst st) := by
  obtain ⟨q, hy⟩ := opv_sound hI x
  refine does_box hI hd (cs := (a.eval x).cells) (t := t) ?_ (fun G' w' hx _ => ?_)
  · simp [execOp, ho, Instr.box, newVar, newRow]
  · exact (leaves_sound (r := G.nb) (hy.ext hx (fun _ => trivial)) hs hw).2 0

theorem boxOwn_sound (hI : Inv w0 com0 f nt G st a w) {o : Oper} (hd : ∀ d, o.dst = some d → d < nt) {t : TypeId} {k : Nat} (ho : o.op = .box t (.tmp k)) {e : Ty} {xs : List e.den} (hk : (st.fr k).1 = .own e xs) :
    Does P w0 com0 f nt o a w (({ val := .ptr st.bl.length 0, bnew := some (.box [.own e xs]), dem := some k } : Eff).on o.dst st) := by
  have hown := hI.slots k
  rw [hk] at hown
  simp only [VA] at hown
  have hna : isAggV (a.tmps.getD k undef) = false := hown.val.2
  have hI1 := hI.dem k
  have hI2 := hI1.rel (q := .slot f k) (q' := .leaf G.nb 0) rfl trivial (by
    rintro ⟨_, hu⟩
    simp [upd, AV.dem_isOwn] at hu) (by
    rintro ⟨ls', h1, _⟩
    have := hI.lt h1
    exact absurd this (Nat.lt_irrefl _))
  have hown' := hown.rel (q := .leaf G.nb 0)
  have := does_box hI2 hd (P := P) (o := o) (cs := (a.tmps.getD k undef).cells) (t := t) (ls := [.own e xs]) (by
    simp only [execOp, ho, Instr.box, newVar, newRow, Act.eval]
    simp) (fun G' w' hx _ => by
      rw [cells_of_not_agg hna]
      exact Lay.single ⟨_, rfl, hown'.ext hx trivial, by
        have := hown.val.1.one (a.tmps.getD k undef) (by rw [cells_of_not_agg hna]; simp)
        exact this⟩ Nat.one_pos)
  intro next Q hn
  refine this next Q (fun G' a' w' h => hn G' a' w' ?_)
  cases hdst : o.dst with
  | none => rw [hdst] at h; simpa [Eff.on] using h
  | some d => rw [hdst] at h; simpa [Eff.on] using h

/-! ### A slice in a new block -/

def Gh.fresh (G : Gh) (g m : Nat) : Gh := { G with com := fun b o => G.com b o ∨ (b = g ∧ o < m), wr := upd G.wr g (.spare (.leaf G.nb 0)) }

theorem Inv.wr_none (hI : Inv w0 com0 f nt G st a w) {g : Nat} (hg : w.heap.size ≤ g) : G.wr g = .none := by
  cases h : G.wr g with
  | none => rfl
  | _ => exact absurd (hI.wrhi g (by rw [h]; simp)).2 (by omega)

theorem Inv.fresh_ext (hI : Inv w0 com0 f nt G st a w) (o : Obj) (m : Nat) : Ext (fun _ => True) G w (G.fresh w.heap.size m) (w.alloc o) := by
  refine ⟨fun _ _ h => .inl h, fun b o' h => World.cell?_alloc_lt w o _ (hI.comlt b o' h), Nat.le_refl _, fun r _ => ⟨rfl, rfl, rfl⟩, fun _ _ => ⟨rfl, fun _ _ h => ⟨h, rfl⟩, fun _ _ => rfl⟩, fun g _ hg => ?_⟩
  have hl := (hI.wrhi g hg).2
  have : g ≠ w.heap.size := Nat.ne_of_lt hl
  exact ⟨by simp [Gh.fresh, upd, this], Below.heap_alloc w o g hl, fun o' h => h.resolve_right (fun h => this h.1)⟩

/-- A slice of its own in a new block: a literal, a make, an append that grows. -/
theorem Inv.fresh (hI : Inv w0 com0 f nt G st a w) {cur : Array Value} {t : TypeId} {e : Ty} {xs : List e.den} {ds : List Value} {cap : Nat} (hw : 0 < e.width) (hp : Parts (Cells G.com w e) ds xs) (hle : xs.length ≤ cap) (hm : cap ≤ maxLen)
    (hsz : cur.size = cap * e.width) (htk : cur.toList.take ds.length = ds) :
    Inv w0 com0 f nt (G.fresh w.heap.size ds.length) st a (w.alloc (.cells cur t)) ∧ OwnV (G.fresh w.heap.size ds.length) (w.alloc (.cells cur t)) (.leaf G.nb 0) e xs (.slice (some ⟨w.heap.size, 0, none⟩) xs.length cap) ∧
      ¬ Used st f (.leaf G.nb 0) := by
  have hx := hI.fresh_ext (.cells cur t) ds.length
  refine ⟨hI.ext hx ((Below.refl _ _).alloc hI.below.size _) rfl (fun g hg => ?_) (fun b o hb => ⟨fun h => ?_, .inl⟩) (fun b o h => ?_), ?_, ?_⟩
  · rw [World.size_alloc]
    by_cases h : g = w.heap.size
    · subst h; exact ⟨hI.below.size, Nat.lt_succ_self _⟩
    · simp only [Gh.fresh, upd, h, if_false] at hg
      have := hI.wrhi g hg
      exact ⟨this.1, by omega⟩
  · rcases h with h | ⟨rfl, _⟩
    · exact h
    · exact absurd hI.below.size (by omega)
  · rw [World.size_alloc]
    rcases h with h | ⟨rfl, _⟩
    · have := hI.comlt b o h; omega
    · omega
  · refine ⟨ds, hp.mono (fun _ _ h => h.mono hx.com hx.cell), hw, .inr ⟨_, cap, cur, t, rfl, by simp [Gh.fresh, upd], heap_alloc_new w _, hle, hm, hsz, htk, fun o => ⟨fun h => ?_, fun h => .inr ⟨rfl, h⟩⟩⟩⟩
    rcases h with h | h
    · exact absurd (hI.comlt _ _ h) (Nat.lt_irrefl _)
    · exact h.2
  · rintro ⟨ls', h1, _⟩
    exact absurd (hI.lt h1) (Nat.lt_irrefl _)

/-! ### append -/

theorem Gh.more_ext {g : Nat} {cur' : Array Value} {q : GP} (hq : G.wr g = .spare q) {n m : Nat} (hcom : ∀ o, G.com g o → o < n) {cur : Array Value} {t : TypeId} (hg : w.heap[g]? = some (.cells cur t (0, 0)))
    (hsame : ∀ o, o < n → cur'[o]? = cur[o]?) : Ext (fun t => t ≠ .spare q) G w { G with com := fun b o => G.com b o ∨ (b = g ∧ o < m) } (w.setRow g cur') := by
  refine ⟨fun _ _ h => .inl h, fun b o h => ?_, Nat.le_refl _, fun _ _ => ⟨rfl, rfl, rfl⟩, fun _ _ => ⟨rfl, fun _ _ h => ⟨h, rfl⟩, fun _ _ => rfl⟩, fun g' hg' _ => ?_⟩
  · by_cases hb : b = g
    · subst hb
      rw [cell_of_row _ _ _ cur' t (0, 0) (setRow_heap w b cur cur' t (0, 0) hg), cell_of_row w b o cur t (0, 0) hg]
      exact hsame o (hcom o h)
    · exact World.cell?_of_block (w := w) (setRow_other w g b cur' hb)
  · have : g' ≠ g := fun e => by subst e; exact hg' hq
    exact ⟨rfl, setRow_other w g g' cur' this, fun o h => h.resolve_right (fun h => this h.1)⟩

theorem Cells.drew {com : Com} {τ : Ty} {cs : List Value} {x : τ.den} (h : Cells com w τ cs x) : Cells com w.drew τ cs x := Cells.mono (w := w) (w' := w.drew) (fun _ _ h => h) (fun _ _ _ => rfl) h

theorem src_of_val {com : Com} {e : Ty} (hw : 0 < e.width) {v : Value} {ys : List e.den} (hv : Val com w (.slice e) v ys) {tx u : TypeId} (hu : P.underlying tx = some (.slice u)) :
    ∃ es, Parts (Cells com w e) es ys ∧ Src P e.width tx v ys.length es w := by
  obtain ⟨base, cap, es, rfl, hle, hp, hl⟩ := val_slice hv
  have hlen := hp.len (fun _ _ hx => hx.len)
  have hone : ∀ v ∈ es, v.oneCell' = true := hp.all (fun _ _ hx => hx.one)
  refine ⟨es, hp, ?_⟩
  cases base with
  | none =>
    have : es = [] := by
      rcases hl with h | ⟨a, h, _⟩
      · exact h
      · cases h
    subst this
    have h0 : ys.length = 0 := by
      have : ys.length * e.width = 0 := by rw [← hlen]; rfl
      rcases Nat.mul_eq_zero.1 this with h | h
      · exact h
      · omega
    rw [h0]
    exact Src.ofNil w hu cap
  | some b =>
    refine Src.ofSlice w hu b ys.length cap es hlen (fun j u hj => ?_) hone
    rcases hl with h | ⟨a, h, hs, hat⟩
    · subst h; cases hj
    · cases h
      rw [addr_add hs]
      exact (hat j u hj).2

theorem append_core (hI : Inv w0 com0 f nt G st a w) {e : Ty} {t tx ty : TypeId} (hok : okTy P (.slice e) t = true) (hokx : okTy P (.slice e) tx = true) {u : TypeId} {i : TypeInfo} (hu : P.underlying t = some (.slice u)) (hi : P.info? u = some i)
    {xs ys : List e.den} {v vy : Value} {q : GP} (hown : OwnV G w q e xs v) (lq : Loc f q) (hq : ¬ Used st f q) (hy : Val G.com w (.slice e) vy ys) (hb : (xs.length + ys.length) * (i.bytes + 1) ≤ appendMost) :
    ∃ G' w' v' q', (Builtin.append_ #[t, tx] ty #[v, vy]).run P w = .ok v' w' ∧ Inv w0 com0 f nt G' st a w' ∧ OwnV G' w' q' e (xs ++ ys) v' ∧ Loc f q' ∧ ¬ Used st f q' := by
  obtain ⟨u', hu', he, hw⟩ := okTy_slice hok
  have : u' = u := by rw [hu] at hu'; injection hu' with h; injection h with h; exact h.symm
  subst this
  obtain ⟨ux, hux, hex, _⟩ := okTy_slice hokx
  obtain ⟨i', z, hi', hsz, hz, hagz, hzc⟩ := okTy_info he
  have : i' = i := by rw [hi] at hi'; injection hi' with h; exact h.symm
  subst this
  obtain ⟨es, hpe, hsrc⟩ := src_of_val (P := P) hw hy hux
  have hesl := hpe.len (fun _ _ hx => hx.len)
  have hzl : z.cells.size = e.width := by
    have h1 : z.cells.toList.length = z.cells.size := Array.length_toList
    have h2 := zc_len hzc
    rw [h1] at h2
    simpa using h2
  have hmost : (xs.length + ys.length) * i'.bytes ≤ 140737488355328 := by
    rw [Nat.mul_add] at hb; simp only [appendMost] at hb; omega
  have hlen : xs.length + ys.length ≤ maxLen := by
    rw [Nat.mul_add] at hb; simp only [appendMost] at hb; simp only [maxLen]; omega
  obtain ⟨ds, hp, _, hv⟩ := hown
  have hdl := hp.len (fun _ _ hx => hx.len)
  have hlen63 : ((xs.length + ys.length : Nat) : Int) ≤ 9223372036854775807 := by simp only [maxLen] at hlen; omega
  -- the arm that grows
  have grow : ∀ (base : Option Addr) (cap : Nat), v = .slice base xs.length cap → cap < xs.length + ys.length → (Builtin.firstCells i'.size xs.length (.slice base xs.length cap)).run P w.drew = .ok ds.toArray w.drew →
      ∃ G' w' v' q', (Builtin.append_ #[t, tx] ty #[v, vy]).run P w = .ok v' w' ∧ Inv w0 com0 f nt G' st a w' ∧ OwnV G' w' q' e (xs ++ ys) v' ∧ Loc f q' ∧ ¬ Used st f q' := by
    intro base cap hvb hcap hfc
    have hr := run_append_grow_src (P := P) w t tx ty u' i' z hu hi hz base xs.length cap ds hfc vy ys.length es (by rw [hsz]; exact hsrc) hcap hlen63 (growslice_fits hcap hmost)
    have hge := grownCap_ge w (xs.length + ys.length) cap u'
    have hcm := grownCap_le_maxLen w (xs.length + ys.length) cap u' hlen
    have hall : (ds ++ es).length = (xs.length + ys.length) * e.width := by rw [List.length_append, hdl, hesl, Nat.add_mul]
    obtain ⟨k1, k2, k3⟩ := hI.drew.fresh (t := u') (e := e) (xs := xs ++ ys) (ds := ds ++ es) (cap := grownCap w (xs.length + ys.length) cap u')
      (cur := (ds ++ es).toArray ++ Builtin.zeroCells z.cells (grownCap w (xs.length + ys.length) cap u' - (xs.length + ys.length))) hw (Parts.mono (fun _ _ h => Cells.drew h) (hp.append hpe)) (by rw [List.length_append]; exact hge) hcm
      (by rw [Array.size_append, size_zeroCells, hzl, List.size_toArray, hall, ← Nat.add_mul]; congr 1; omega)
      (by rw [Array.toList_append]; exact List.take_left)
    rw [hvb]
    have e2 : (xs ++ ys).length = xs.length + ys.length := List.length_append
    rw [e2] at k2
    exact ⟨_, _, _, _, hr, k1, k2, trivial, k3⟩
  rcases hv with ⟨rfl, rfl⟩ | ⟨g, cap, cur, t', rfl, h3, h4, h5, h6, h7, h8, h9⟩
  · have hd0 : ds = [] := List.eq_nil_of_length_eq_zero (by simpa using hdl)
    by_cases hy0 : ys.length = 0
    · have hys : ys = [] := List.eq_nil_of_length_eq_zero hy0
      subst hys
      refine ⟨G, w, .slice none 0 0, q, ?_, hI, ⟨ds, by simpa using hp, hw, .inl ⟨rfl, by simp⟩⟩, lq, hq⟩
      have hes : es = [] := List.eq_nil_of_length_eq_zero (by simpa using hesl)
      subst hes
      have hl0 := hsrc.len
      have hc0 := hsrc.cells
      simp only [List.length_nil] at hl0 hc0
      simp [Builtin.append_, run_underlying hu, run_underlying hux, sizeOf, typeInfo, hi, hl0, hsz, hc0]
    · refine grow none 0 rfl (by simp; omega) ?_
      rw [hd0]
      exact run_firstCells_none _ _ _ _ _
  · by_cases hroom : xs.length + ys.length ≤ cap
    · have hcap : xs.length * e.width + es.length ≤ cur.size := by rw [hesl, h7, ← Nat.add_mul]; exact Nat.mul_le_mul_right _ hroom
      have hst := run_storeCells_at P g (xs.length * e.width) t' es 0 cur w h4 (by simpa using hcap) hsrc.one
      simp only [Nat.add_zero] at hst
      have hrun : (Builtin.append_ #[t, tx] ty #[.slice (some ⟨g, 0, none⟩) xs.length cap, vy]).run P w = .ok (.slice (some ⟨g, 0, none⟩) (xs.length + ys.length) cap)
          (w.setRow g (cur.toList.take (xs.length * e.width) ++ es ++ cur.toList.drop (xs.length * e.width + es.length)).toArray) := by
        rcases hsrc.kind with ⟨e', hk⟩ | hk
        · simp [Builtin.append_, run_underlying hu, run_underlying hk, sizeOf, typeInfo, hi, hsrc.len, hroom, hsz, hsrc.cells, Addr.add_lit, hst]
        · rw [hux] at hk; cases hk
      have htk : cur.toList.take (xs.length * e.width) = ds := by rw [← hdl]; exact h8
      rw [htk] at hrun
      have hsame : ∀ o, o < ds.length → (ds ++ es ++ cur.toList.drop (xs.length * e.width + es.length)).toArray[o]? = cur[o]? := by
        intro o ho
        have h1 : cur.toList[o]? = ds[o]? := by
          rw [← h8, List.getElem?_take, if_pos ho]
        have h2 : (ds ++ es ++ cur.toList.drop (xs.length * e.width + es.length))[o]? = ds[o]? := by
          rw [List.append_assoc, List.getElem?_append_left ho]
        rw [List.getElem?_toArray, h2, ← h1]
        simp
      have hx := Gh.more_ext (G := G) (w := w) (m := (ds ++ es).length) (cur' := (ds ++ es ++ cur.toList.drop (xs.length * e.width + es.length)).toArray) h3 (fun o ho => (h9 o).1 ho) h4 hsame
      have hghi := hI.wrhi g (by rw [h3]; simp)
      refine ⟨{ G with com := fun b o => G.com b o ∨ (b = g ∧ o < (ds ++ es).length) }, _, _, q, hrun, ?_, ?_, lq, hq⟩
      · refine ⟨hI.below.trans ⟨rfl, rfl, rfl, by rw [setRow_size]; exact Nat.le_refl _, fun k hk => setRow_other w _ k _ (by omega)⟩, f.st (hx.less (foreign_ne lq)) hI.foreign, hI.defers, hI.size, hI.nb, fun g hg => by rw [setRow_size]; exact hI.wrhi g hg,
          fun b o hb => ⟨fun h => (hI.comlo b o hb).1 (h.resolve_right (fun h => by have := h.1; omega)), fun h => .inl ((hI.comlo b o hb).2 h)⟩, fun b o h => ?_, fun k => (hI.slots k).ext hx (fun ho => ?_), fun k p hp' => ?_, fun r b hr => ?_⟩
        · rw [setRow_size]
          rcases h with h | h
          · exact hI.comlt b o h
          · rw [h.1]; exact hghi.2
        · intro h
          injection h with h
          exact hq (h ▸ ⟨rfl, ho⟩)
        · have ha := hI.alias k p hp'
          cases p with
          | slot j => exact ha
          | leaf r off =>
            exact ⟨ha.1, fun b hr => (ha.2 b hr).ext hx (hI.lt hr) (by simp) (hI.blocks r b hr)⟩
        · refine (hI.blocks r b hr).ext hx (hI.lt hr) (by simp) (fun off ho h => ?_)
          injection h with h
          exact hq (h ▸ ⟨b, hr, ho⟩)
      · refine ⟨ds ++ es, ?_, hw, .inr ⟨g, cap, _, t', by rw [List.length_append], h3, setRow_heap w g cur _ t' (0, 0) h4, by rw [List.length_append]; exact hroom, h6, ?_, ?_, fun o => ⟨fun h => ?_, fun h => .inr ⟨rfl, h⟩⟩⟩⟩
        · exact (hp.append hpe).mono (fun _ _ h => h.mono hx.com hx.cell)
        · simp only [List.size_toArray, List.length_append, List.length_drop, Array.length_toList]
          omega
        · show (ds ++ es ++ cur.toList.drop (xs.length * e.width + es.length)).take (ds ++ es).length = ds ++ es
          exact List.take_left
        · rcases h with h | h
          · have := (h9 o).1 h
            rw [List.length_append]; omega
          · exact h.2
    · refine grow (some ⟨g, 0, none⟩) cap rfl (by omega) ?_
      refine run_firstCells_some _ _ _ _ _ _ _ (by rw [hdl, hsz]) (fun j u hj => ?_)
      rw [addr_add rfl, Nat.zero_add, World.cell?_drew, cell_of_row w g j cur t' (0, 0) h4]
      have hlt := getElem?_lt hj
      rw [← h8, List.getElem?_take, if_pos hlt] at hj
      simpa using hj

end
end Go.Ev

/-
  FUNCTIONS ON TYPED DATA, AS OTHERS SEE THEM: what a call leaves; append as an operation; slices; literals.
-/
namespace Go.Ev
open Go.RowKit (Below)

def ArgsV (com : Com) (w : World) : (τ : Ty) → τ.den → List Value → Prop
  | .unit, _, vs => vs = []
  | .cons a b, x, vs => ∃ v vs', vs = v :: vs' ∧ Val com w a v x.1 ∧ ArgsV com w b x.2 vs'
  | _, _, _ => False

/-- A slice that the caller gets for its own. -/
def OwnRes (com : Com) (w : World) (lo : Nat) (e : Ty) (xs : List e.den) (v : Value) : Prop :=
  ∃ ds, Parts (Cells com w e) ds xs ∧ 0 < e.width ∧ ((v = .slice none 0 0 ∧ xs = []) ∨
    ∃ g cap cur t, v = .slice (some ⟨g, 0, none⟩) xs.length cap ∧ lo ≤ g ∧ w.heap[g]? = some (.cells cur t (0, 0)) ∧ xs.length ≤ cap ∧ cap ≤ maxLen ∧ cur.size = cap * e.width ∧
      cur.toList.take ds.length = ds ∧ ∀ o, com g o ↔ o < ds.length)

def ResV (com : Com) (w : World) (lo : Nat) : (t : RT) → t.den → Value → Prop
  | .d τ, x, v => Val com w τ v x
  | .own e, x, v => OwnRes com w lo e x v

def ResL (com : Com) (w : World) (lo : Nat) : (rs : List RT) → RTs.den rs → List Value → Prop
  | [], _, vs => vs = []
  | t :: rs, x, vs => ∃ v vs', vs = v :: vs' ∧ ResV com w lo t x.1 v ∧ ResL com w lo rs x.2 vs'

def valOf (vs : List Value) : Value := match vs with
  | [v] => v
  | vs => .tuple vs.toArray

/-! ### Reading by shapes -/

section
variable {f : Frm} {G : Gh} {w : World} {st : St}
section
variable {n : Nat}

theorem isPtrs_sound {p : GP} : ∀ {ps : List Nat} {cs : List AV} {vs : List Value}, isPtrs n ps cs = true → TA G w p cs vs → TA { G with nb := n } w p (ps.map fun r => .ptr r 0) vs
  | [], [], _, _, h => by simpa only [TA, List.map_nil] using h
  | [], _ :: _, _, hp, _ => by simp [isPtrs] at hp
  | _ :: _, [], _, hp, _ => by simp [isPtrs] at hp
  | r :: l, a :: aas, vs, hp, h => by
    simp only [TA] at h
    obtain ⟨v, vs', rfl, h1, h2, h3⟩ := h
    unfold isPtrs at hp
    split at hp
    · rename_i h0; cases h0
    · rename_i r1 l1 r2 as1 e1 e2
      cases e1
      cases e2
      simp only [Bool.and_eq_true, beq_iff_eq, decide_eq_true_eq] at hp
      obtain ⟨⟨rfl, hr⟩, hp⟩ := hp
      simp only [List.map_cons, TA]
      simp only [VA] at h2
      exact ⟨v, vs', rfl, rfl, by simp only [VA]; exact ⟨hr, h2.2⟩, isPtrs_sound hp h3⟩
    · cases hp

theorem Sh.read_sound {p : GP} {s : Sh} {av : AV} {x : s.den} {v : Value} (h : VA G w p av v) (hx : s.read n av = some x) : VA { G with nb := n } w p (s.av x) v := by
  cases s with
  | d τ => simp only [Sh.read] at hx; simp only [Sh.av, VA]; exact to_sound h hx
  | own e =>
    simp only [Sh.read] at hx
    split at hx
    · split at hx
      · rename_i e1; subst e1; cases hx; simp only [Sh.av, VA] at h ⊢; exact h
      · cases hx
    · cases hx
  | ptr r o =>
    simp only [Sh.read] at hx
    split at hx
    · split at hx
      · rename_i e1; obtain ⟨rfl, rfl, h3⟩ := e1; simp only [Sh.av, VA] at h ⊢; exact ⟨h3, h.2⟩
      · cases hx
    · cases hx
  | msl r =>
    simp only [Sh.read] at hx
    split at hx
    · split at hx
      · rename_i e1; obtain ⟨rfl, h3⟩ := e1; simp only [Sh.av, VA] at h ⊢; exact ⟨h3, h.2⟩
      · cases hx
    · cases hx
  | fn g =>
    simp only [Sh.read] at hx
    split at hx
    · split at hx
      · rename_i e1; subst e1; simp only [Sh.av, VA, TA] at h ⊢; exact h
      · cases hx
    · cases hx
  | uptr r off =>
    simp only [Sh.read] at hx
    split at hx
    · split at hx
      · rename_i e1; obtain ⟨rfl, rfl, h3⟩ := e1; cases hx; simp only [Sh.av, VA] at h ⊢; exact ⟨h3, h.2⟩
      · cases hx
    · cases hx
  | fnc g ps =>
    simp only [Sh.read] at hx
    split at hx
    · split at hx
      · rename_i cs e1
        obtain ⟨rfl, h3⟩ := e1
        simp only [Sh.av, VA] at h ⊢
        obtain ⟨vs, h1, h2⟩ := h
        exact ⟨vs, h1, isPtrs_sound h3 h2⟩
      · cases hx
    · cases hx

theorem Sh.leaf_sound {p : GP} {s : Sh} {av : AV} {x : s.den} {c : List Value} (h : LeafV G w p av c) (hx : s.leaf n av = some x) : LeafV { G with nb := n } w p (s.av x) c := by
  have other : ∀ {s : Sh} {x : s.den}, s.read n av = some x → (∀ τ, s ≠ .d τ) → LeafV { G with nb := n } w p (s.av x) c := by
    intro s x hx hs
    have : ∃ v, c = [v] ∧ VA G w p av v ∧ v.oneCell' = true := by
      cases av with
      | d τ y => cases s <;> simp [Sh.read] at hx; exact absurd rfl (hs _)
      | _ => simpa only [LeafV] using h
    obtain ⟨v, h1, h2, h3⟩ := this
    have h4 := Sh.read_sound h2 hx
    cases s with
    | d τ => exact absurd rfl (hs τ)
    | _ => exact ⟨v, h1, h4, h3⟩
  cases s with
  | d τ => simp only [Sh.leaf] at hx; simp only [Sh.av, LeafV]; exact to1_sound h hx
  | _ => exact other hx (by simp)

theorem LS.read_sound {r : Nat} : ∀ {ls : List Sh} {aas : List AV} {off : Nat} {cs : List Value} {x : LS.den ls}, Lay G w r off aas cs → LS.read n ls aas = some x → Lay { G with nb := n } w r off (LS.mk ls x) cs
  | [], [], off, cs, x, h, _ => by simpa only [LS.mk, Lay] using h
  | [], _ :: _, _, _, _, _, hx => by cases hx
  | _ :: _, [], _, _, _, _, hx => by cases hx
  | s :: ls, a :: aas, off, cs, x, h, hx => by
    simp only [LS.read] at hx
    split at hx
    · cases hx
    · rename_i y hy
      split at hx
      · cases hx
      · rename_i z hz
        cases hx
        simp only [Lay] at h
        obtain ⟨c, cs', h1, h2, h3, h4, h5⟩ := h
        have k1 := Sh.leaf_sound h4 hy
        have k2 := k1.len
        simp only [LS.mk, Lay]
        refine ⟨c, cs', h1, k2, by omega, k1, ?_⟩
        have : (s.av y).w = a.w := by omega
        rw [this]
        exact LS.read_sound h5 hz

theorem BL.read_sound : ∀ {l : List BSh} {bs : List Blk} {x : BL.den l} {k : Nat}, (∀ r b, bs[r]? = some b → BlkOK G w (k + r) b) → BL.read n l bs = some x → ∀ r b, (BL.mk l x)[r]? = some b → BlkOK { G with nb := n } w (k + r) b
  | [], _, _, _, _, _, r, b, hr => by simp [BL.mk] at hr
  | _ :: _, [], _, _, _, hx, _, _, _ => by cases hx
  | s :: l, b0 :: bs, x, k, h, hx, r, b, hr => by
    simp only [BL.read] at hx
    split at hx
    · cases hx
    · rename_i y hy
      split at hx
      · cases hx
      · rename_i z hz
        cases hx
        cases r with
        | zero =>
          simp only [BL.mk, List.getElem?_cons_zero, Option.some.injEq] at hr
          subst hr
          have hb := h 0 b0 rfl
          cases s with
          | gone => trivial
          | box ls =>
            simp only [BSh.read] at hy
            split at hy
            · obtain ⟨cur, t, k1, k2, k3, k4⟩ := hb
              exact ⟨cur, t, k1, k2, k3, LS.read_sound k4 hy⟩
            · cases hy
          | arr e =>
            simp only [BSh.read] at hy
            split at hy
            · split at hy
              · rename_i e1; subst e1; cases hy; exact hb
              · cases hy
            · cases hy
          | vec e ls =>
            simp only [BSh.read] at hy
            split at hy
            · split at hy
              · rename_i e1
                subst e1
                split at hy
                · rename_i y' hy'
                  cases hy
                  obtain ⟨v, t, k1, k2, k3, k4, k5, k6⟩ := hb
                  refine ⟨v, t, k1, k2, k3, k4, k5, ?_⟩
                  rcases k6 with k6 | ⟨q1, g, cap, cur, tg, ds, c, rest, q2, q3, q4, q5, q6, q7, q8, q9, q10, q11, q12, q13, q14, q15⟩
                  · exact .inl k6
                  · exact .inr ⟨q1, g, cap, cur, tg, ds, c, rest, q2, q3, q4, q5, q6, q7, q8, q9, q10, q11, q12, LS.read_sound q13 hy', q14, q15⟩
                · cases hy
              · cases hy
            · cases hy
          | mat e =>
            simp only [BSh.read] at hy
            split at hy
            · split at hy
              · rename_i e1; subst e1; cases hy; exact hb
              · cases hy
            · cases hy
        | succ r =>
          simp only [BL.mk, List.getElem?_cons_succ] at hr
          have := BL.read_sound (k := k + 1) (fun r b hb => by have := h (r + 1) b (by simpa using hb); rw [show k + 1 + r = k + (r + 1) by omega]; exact this) hz r b hr
          rw [show k + (r + 1) = k + 1 + r by omega]
          exact this

theorem SL.read_sound {l : List (Nat × Sh)} {fr : Nat → AV × Option Place} {x : SL.den l} {tm : Array Value} (h : ∀ k, VA G w (.slot f k) (fr k).1 (tm.getD k undef)) : SL.read n l fr = some x →
    ∀ k, VA { G with nb := n } w (.slot f k) (SL.mk l x k).1 (tm.getD k undef) ∧ (SL.mk l x k).2 = none := by
  induction l with
  | nil => intro _ k; simp only [SL.mk, VA, and_self]
  | cons p l ih =>
    obtain ⟨j, s⟩ := p
    intro hx k
    simp only [SL.read] at hx
    split at hx
    · cases hx
    · rename_i y hy
      split at hx
      · cases hx
      · rename_i z hz
        cases hx
        simp only [SL.mk]
        split
        · rename_i e; subst e; exact ⟨Sh.read_sound (h k) hy, rfl⟩
        · exact ih hz k
theorem AL.read_sound {p : GP} : ∀ {l : List Sh} {aas : List AV} {vs : List Value} {x : LS.den l}, TA G w p aas vs → AL.read n l aas = some x → TA { G with nb := n } w p (LS.mk l x) vs
  | [], [], _, _, h, _ => by simpa only [LS.mk, TA] using h
  | [], _ :: _, _, _, _, hx => by cases hx
  | _ :: _, [], _, _, _, hx => by cases hx
  | s :: l, a :: aas, vs, x, h, hx => by
    simp only [TA] at h
    obtain ⟨v, vs', rfl, h1, h2, h3⟩ := h
    simp only [AL.read] at hx
    split at hx
    · cases hx
    · rename_i y hy
      split at hx
      · cases hx
      · rename_i z hz
        cases hx
        simp only [LS.mk, TA]
        refine ⟨v, vs', rfl, ?_, Sh.read_sound h2 hy, AL.read_sound h3 hz⟩
        cases s with
        | own e =>
          simp only [Sh.read] at hy
          split at hy
          · cases h1
          · cases hy
        | _ => rfl
end

theorem BL.mk_length : ∀ {l : List BSh} {x : BL.den l}, (BL.mk l x).length = l.length
  | [], _ => rfl
  | s :: l, x => by simp [BL.mk, BL.mk_length (l := l)]

end

theorem Inv.readB {w0 : World} {com0 : Com} {f : Frm} {nt : Nat} {G : Gh} {st : St} {a : Act} {w : World} (hI : Inv w0 com0 f nt G st a w) {l : List BSh} (hl : l.length = st.bl.length) {y : BL.den l} (hy : BL.read st.bl.length l st.bl = some y) :
    Inv w0 com0 f nt G { fr := fun k => ((st.fr k).1, none), bl := BL.mk l y } a w := by
  have e : ({ G with nb := st.bl.length } : Gh) = G := by rw [← hI.nb]
  have hb := BL.read_sound (k := 0) (fun r b hr => by rw [Nat.zero_add]; exact hI.blocks r b hr) hy
  rw [e] at hb
  exact ⟨hI.below, hI.foreign, hI.defers, hI.size, by rw [BL.mk_length, hl]; exact hI.nb, hI.wrhi, hI.comlo, hI.comlt, hI.slots, fun k p hp => (by cases hp), fun r b hr => by have := hb r b hr; rw [Nat.zero_add] at this; exact this⟩

/-- WHAT IS SAID OF A FUNCTION THAT SEES ITS CALLER's BLOCKS: from data in arguments and blocks to data in results and blocks. -/
structure InlOK (P : Program) (fid : FuncId) (S O : ISh) (g : S.den → Option O.den) : Prop where
  known : ∃ F, P.funcs[fid]? = some F ∧ F.body.isSome = true ∧ F.name ≠ "runtime.NumGoroutine"
  calls : ∀ x o, g x = some o → ∀ {w0 : World} {com0 : Com} {f : Frm} {nt : Nat} {G : Gh} {fr : Nat → AV × Option Place} {a : Act} {w : World} {p : GP} {vs : List Value}, Inv w0 com0 f nt G { fr := fr, bl := BL.mk S.bl x.2 } a w → (∀ k, (fr k).2 = none) → TA G w p (LS.mk S.args x.1) vs →
    Calls P fid vs.toArray w fun e w' => ∃ vals G', e = .returned (valOf vals) ∧ Inv w0 com0 f nt G' { fr := fr, bl := BL.mk O.bl o.2 } a w' ∧ TA G' w' p (LS.mk O.args o.1) vals

/-- WHAT IS SAID OF A FUNCTION: on data of these types it answers what g says, and leaves all that was there as it was. -/
structure PureOK (P : Program) (fid : FuncId) (τ : Ty) (rs : List RT) (g : τ.den → Option (RTs.den rs)) : Prop where
  known : ∃ F, P.funcs[fid]? = some F ∧ F.body.isSome = true ∧ F.name ≠ "runtime.NumGoroutine"
  calls : ∀ x r, g x = some r → ∀ (com : Com) (w : World) (vs : List Value), (∀ b o, com b o → b < w.heap.size) → ArgsV com w τ x vs → Calls P fid vs.toArray w fun e w' =>
    ∃ vals com', e = .returned (valOf vals) ∧ Below w.heap.size w w' ∧ (∀ b o, b < w.heap.size → (com' b o ↔ com b o)) ∧ (∀ b o, com' b o → b < w'.heap.size) ∧ ResL com' w' w.heap.size rs r vals

section
variable {P : Program} {w0 : World} {com0 : Com} {f : Frm} {nt : Nat} {G G' : Gh} {st : St} {a : Act} {w w' : World} {R : Type} {K : Eff → Option R} {r : R}

theorem OwnRes.val {com : Com} {lo : Nat} {e : Ty} {xs : List e.den} {v : Value} (h : OwnRes com w lo e xs v) : Val com w (.slice e) v xs := by
  obtain ⟨ds, h1, hw, h2⟩ := h
  let G : Gh := { com := com, wr := fun _ => .spare (.slot 0 0), loc := fun _ => 0, nb := 0, len := fun _ => 0, wd := fun _ => 0 }
  have : OwnV G w (.slot 0 0) e xs v := by
    refine ⟨ds, h1, hw, ?_⟩
    rcases h2 with h2 | ⟨g, cap, cur, t, k1, k2, k3⟩
    · exact .inl h2
    · exact .inr ⟨g, cap, cur, t, k1, rfl, k3⟩
  exact this.val

theorem ResV.val {com : Com} {lo : Nat} : ∀ {t : RT} {x : t.den} {v : Value}, ResV com w lo t x v → ∃ τ y, Val com w τ v y ∧ (match t, x with
    | .d τ, x => AV.d τ x
    | .own e, x => .d (.slice e) x) = AV.d τ y
  | .d τ, x, v, h => ⟨τ, x, h, rfl⟩
  | .own e, x, v, h => ⟨.slice e, x, OwnRes.val h, rfl⟩

theorem resL_ta {p : GP} {lo : Nat} : ∀ {rs : List RT} {x : RTs.den rs} {vs : List Value}, ResL G.com w lo rs x vs → TA G w p (RTs.avd rs x) vs
  | [], _, _, h => by simpa only [ResL, RTs.avd, TA] using h
  | .d τ :: rs, x, _, h => by
    obtain ⟨v, vs', rfl, h1, h2⟩ := h
    simp only [RTs.avd, TA]
    exact ⟨v, vs', rfl, rfl, by simp only [VA]; exact h1, resL_ta h2⟩
  | .own e :: rs, x, _, h => by
    obtain ⟨v, vs', rfl, h1, h2⟩ := h
    simp only [RTs.avd, TA]
    exact ⟨v, vs', rfl, rfl, by simp only [VA]; exact OwnRes.val h1, resL_ta h2⟩

theorem toArgs_sound (hI : Inv w0 com0 f nt G st a w) : ∀ {τ : Ty} {l : List Operand} {x : τ.den}, toArgs τ (l.map (opv st)) = some x → ArgsV G.com w τ x (l.map a.eval)
  | .unit, [], x, h => rfl
  | .unit, o :: l, x, h => by simp [toArgs] at h
  | .cons b c, [], x, h => by simp [toArgs] at h
  | .cons b c, o :: l, x, h => by
    simp only [List.map_cons, toArgs] at h
    split at h
    · cases h
    · rename_i v hv
      split at h
      · cases h
      · rename_i y hy
        cases h
        obtain ⟨p, hp⟩ := opv_sound hI o
        exact ⟨_, _, rfl, to_sound hp hv, toArgs_sound hI hy⟩
  | .int _, _, _, h => by simp [toArgs] at h
  | .bool, _, _, h => by simp [toArgs] at h
  | .str, _, _, h => by simp [toArgs] at h
  | .slice _, _, _, h => by simp [toArgs] at h
  | .arr _ _, _, _, h => by simp [toArgs] at h
  | .agg _, _, _, h => by simp [toArgs] at h
  | .raw, _, _, h => by simp [toArgs] at h

/-- After a call the invariant holds over what it left. -/
theorem Inv.called (hI : Inv w0 com0 f nt G st a w) {com' : Com} (hb : Below w.heap.size w w') (hc : ∀ b o, b < w.heap.size → (com' b o ↔ G.com b o)) (hlt : ∀ b o, com' b o → b < w'.heap.size) :
    Inv w0 com0 f nt { G with com := com' } st a w' := by
  refine hI.ext ⟨fun b o h => (hc b o (hI.comlt b o h)).2 h, fun b o h => hb.cell (hI.comlt b o h), Nat.le_refl _, fun _ _ => ⟨rfl, rfl, rfl⟩, fun _ _ => ⟨rfl, fun _ _ h => ⟨h, rfl⟩, fun _ _ => rfl⟩, fun g _ hg => ?_⟩ (hb.mono hI.below.size) rfl
    (fun g hg => ⟨(hI.wrhi g hg).1, Nat.lt_of_lt_of_le (hI.wrhi g hg).2 hb.size⟩) (fun b o h => hc b o (Nat.lt_of_lt_of_le h hI.below.size)) hlt
  have := (hI.wrhi g hg).2
  exact ⟨rfl, hb.block g this, fun o h => (hc g o this).1 h⟩

/-- And a result that is the caller's own is laid at a place that nobody uses. -/
theorem Inv.calledOwn (hI : Inv w0 com0 f nt G st a w) {com' : Com} (hb : Below w.heap.size w w') (hc : ∀ b o, b < w.heap.size → (com' b o ↔ G.com b o)) (hlt : ∀ b o, com' b o → b < w'.heap.size)
    {e : Ty} {xs : List e.den} {v : Value} (hr : OwnRes com' w' w.heap.size e xs v) : ∃ G', Inv w0 com0 f nt G' st a w' ∧ OwnV G' w' (.leaf G.nb 0) e xs v ∧ ¬ Used st f (.leaf G.nb 0) := by
  have hI' := hI.called hb hc hlt
  have hnu : ¬ Used st f (.leaf G.nb 0) := by
    rintro ⟨ls', h1, _⟩
    exact absurd (hI.lt h1) (Nat.lt_irrefl _)
  obtain ⟨ds, h1, hw, h2⟩ := hr
  rcases h2 with h2 | ⟨g, cap, cur, t, k1, k2, k3, k4⟩
  · exact ⟨_, hI', ⟨ds, h1, hw, .inl h2⟩, hnu⟩
  · have hgl : g < w'.heap.size := (Array.getElem?_eq_some_iff.1 k3).1
    refine ⟨{ G with com := com', wr := upd G.wr g (.spare (.leaf G.nb 0)) }, ?_, ⟨ds, h1, hw, .inr ⟨g, cap, cur, t, k1, by simp [upd], k3, k4⟩⟩, hnu⟩
    refine hI'.ext ⟨fun b o h => h, fun _ _ _ => rfl, Nat.le_refl _, fun _ _ => ⟨rfl, rfl, rfl⟩, fun _ _ => ⟨rfl, fun _ _ h => ⟨h, rfl⟩, fun _ _ => rfl⟩, fun g' _ hg' => ?_⟩ (Below.refl _ _) rfl (fun g' hg' => ?_) (fun _ _ _ => Iff.rfl) hlt
    · have : g' ≠ g := fun e0 => by
        subst e0
        have := (hI.wrhi g' hg').2
        omega
      exact ⟨by simp [upd, this], rfl, fun _ h => h⟩
    · by_cases e0 : g' = g
      · subst e0
        exact ⟨Nat.le_trans hI.below.size k2, hgl⟩
      · simp only [upd, e0, if_false] at hg'
        exact hI'.wrhi g' hg'

theorem fnOf_sound {p : GP} {av : AV} {v : Value} {fid : Nat} {caps : List AV} (h : VA G w p av v) (hf : fnOf av = some (fid, caps)) : ∃ vs : List Value, v = .func (.func fid) #[] vs.toArray ∧ TA G w p caps vs := by
  unfold fnOf at hf
  split at hf
  · cases hf
    simp only [VA] at h
    exact h
  · rename_i g x y
    split at hf
    · rename_i e
      cases hf
      simp only [VA] at h
      have h1 := h.1
      rw [cells_of_not_agg h.2] at h1
      simp only [Cells] at h1
      have h2 := h1.1
      simp at h2
      exact ⟨[], by rw [h2, Array.eq_empty_of_size_eq_zero e.1, Array.eq_empty_of_size_eq_zero e.2], rfl⟩
    · cases hf
  · cases hf

theorem pure_sound (hI : Inv w0 com0 f nt G st a w) {o : Oper} (hd : ∀ d, o.dst = some d → d < nt) {c : Call} (ho : o.op = .call c) {x : Operand} (hc : c.callee = .value x) {fid : Nat} (hf : fnOf (opv st x) = some (fid, []))
    {τ : Ty} {rs : List RT} {g : τ.den → Option (RTs.den rs)} (hg : PureOK P fid τ rs g) {y : τ.den} (hy : toArgs τ (c.args.toList.map (opv st)) = some y) {z : RTs.den rs} (hz : g y = some z) :
    Does P w0 com0 f nt o a w (({ val := RTs.av rs z } : Eff).on o.dst st) := by
  intro next Q hn
  have hx : a.eval x = .func (.func fid) #[] #[] := by
    obtain ⟨p, hp⟩ := opv_sound hI x
    obtain ⟨vs, h1, h2⟩ := fnOf_sound hp hf
    simp only [TA] at h2
    subst h2
    exact h1
  obtain ⟨F, hF, hbody, hname⟩ := hg.known
  have hargs := toArgs_sound hI hy
  have hcalls := hg.calls y z hz G.com w _ hI.comlt hargs
  have hrun : (execOp a.eval o).run P w = .ok (.enter fid (c.args.toList.map a.eval).toArray) w := by
    have hb' : ¬ F.body = none := by intro h; rw [h] at hbody; cases hbody
    have e1 : (c.args.toList.map a.eval).toArray = c.args.map a.eval := by
      apply Array.ext'
      simp
    rw [e1]
    simp [execOp, ho, resolve, hc, hx, Deferred.ofValue, invoke, callFunc, hF, hname, hb']
  unfold Oper.wp
  rw [hrun, Oper.upon_enter]
  refine hcalls.mono ?_
  rintro e w' ⟨vals, com', rfl, hb, hcm, hlt, hres⟩
  simp only
  have hI' := hI.called hb hcm hlt
  match rs, z, hres, hn with
  | [], z, hres, hn =>
    simp only [ResL] at hres
    subst hres
    have hv : VA { G with com := com' } w' (.slot f 0) (.tup []) (.tuple #[]) := by simp only [VA, TA]; exact ⟨[], rfl, rfl⟩
    simp only [RTs.av] at hn
    rw [on_val (by rfl)] at hn
    cases hdst : o.dst with
    | none => rw [hdst] at hn; exact hn _ _ _ hI'
    | some d => rw [hdst] at hn; exact hn _ _ _ (hI'.put (hd d hdst) rfl (hv.place _ rfl) (fun q hq => by cases hq))
  | [.d τ'], z, hres, hn =>
    obtain ⟨v, vs', rfl, h1, h2⟩ := hres
    simp only [ResL] at h2
    subst h2
    have hv : VA { G with com := com' } w' (.slot f 0) (.d τ' z.1) v := by simp only [VA]; exact h1
    simp only [RTs.av, RT.av] at hn
    rw [on_val (by rfl)] at hn
    cases hdst : o.dst with
    | none => rw [hdst] at hn; exact hn _ _ _ hI'
    | some d => rw [hdst] at hn; exact hn _ _ _ (hI'.put (hd d hdst) rfl (hv.place _ rfl) (fun q hq => by cases hq))
  | [.own e], z, hres, hn =>
    obtain ⟨v, vs', rfl, h1, h2⟩ := hres
    simp only [ResL] at h2
    subst h2
    obtain ⟨G', k1, k2, k3⟩ := hI.calledOwn hb hcm hlt h1
    simp only [RTs.av, RT.av] at hn
    rw [on_own] at hn
    cases hdst : o.dst with
    | none => rw [hdst] at hn; exact hn _ _ _ k1
    | some d => rw [hdst] at hn; exact hn _ _ _ (k1.putOwn (hd d hdst) k2 trivial k3)
  | t1 :: t2 :: rs, z, hres, hn =>
    have hv : VA { G with com := com' } w' (.slot f 0) (.tup (RTs.avd (t1 :: t2 :: rs) z)) (valOf vals) := by
      simp only [VA]
      refine ⟨vals, ?_, resL_ta (G := { G with com := com' }) hres⟩
      obtain ⟨v, vs', rfl, _, h2⟩ := hres
      obtain ⟨v2, vs2, rfl, _, _⟩ := h2
      rfl
    simp only [RTs.av] at hn
    rw [on_val (by rfl)] at hn
    cases hdst : o.dst with
    | none => rw [hdst] at hn; exact hn _ _ _ hI'
    | some d => rw [hdst] at hn; exact hn _ _ _ (hI'.put (hd d hdst) rfl (hv.place _ rfl) (fun q hq => by cases hq))

end
end Go.Ev

/-
  LITERALS, MAKE, APPEND, SLICES OF SLICES, as operations.
-/
namespace Go.Ev
open Go.RowKit (Below)

section
variable {P : Program} {w0 : World} {com0 : Com} {f : Frm} {nt : Nat} {G G' : Gh} {st : St} {a : Act} {w w' : World} {R : Type} {K : Eff → Option R} {r : R}

/-- A new block that is written. -/
theorem does_arr (hI : Inv w0 com0 f nt G st a w) {o : Oper} (hd : ∀ d, o.dst = some d → d < nt) {cs : Array Value} {t : TypeId} {e : Ty} {xs : List e.den} (hw : 0 < e.width)
    (hrun : (execOp a.eval o).run P w = .ok (.value (.slice (some ⟨w.heap.size, 0, none⟩) xs.length xs.length)) (w.alloc (.cells cs t))) (hp : Parts (Cells G.com w e) cs.toList xs) (hm : xs.length ≤ maxLen) :
    Does P w0 com0 f nt o a w (({ val := .msl st.bl.length, bnew := some (.arr e xs) } : Eff).on o.dst st) := by
  intro next Q hn
  unfold Oper.wp
  rw [hrun, Oper.upon_value]
  have hx := hI.grow_ext (.cells cs t) xs.length e.width
  have hloc : (G.grow w.heap.size xs.length e.width).loc G.nb = w.heap.size := by simp [Gh.grow, upd]
  have hI' := hI.alloc (b := .arr e xs) (len := xs.length) (wd := e.width) (cur := cs) (t := t) ⟨cs, t, by rw [hloc]; exact heap_alloc_new w _, by rw [hloc]; simp [Gh.grow, upd], fun o ho => by
    rw [hloc] at ho
    exact absurd (hI.comlt _ _ ho) (Nat.lt_irrefl _), by simp [Gh.grow, upd], by simp [Gh.grow, upd], hw, hm, hp.mono (fun _ _ h => h.mono hx.com hx.cell)⟩
  cases ho : o.dst with
  | none =>
    rw [ho] at hn
    exact hn _ _ _ hI'
  | some d =>
    rw [ho] at hn
    refine hn _ _ _ (hI'.put (hd d ho) (av := .msl st.bl.length) (al := none) rfl ?_ (fun q hq => by cases hq))
    simp only [VA]
    rw [← hI.nb, hloc]
    exact ⟨Nat.lt_succ_self _, by simp [Gh.grow, upd]⟩

/-- A new table, its rows nil. -/
theorem does_mat (hI : Inv w0 com0 f nt G st a w) {o : Oper} (hd : ∀ d, o.dst = some d → d < nt) {cs : Array Value} {t : TypeId} {e : Ty} {n : Nat} (hw : 0 < e.width)
    (hrun : (execOp a.eval o).run P w = .ok (.value (.slice (some ⟨w.heap.size, 0, none⟩) n n)) (w.alloc (.cells cs t))) (hs : cs.size = n) (hp : ∀ (i : Nat) (v : Value), cs[i]? = some v → v = Value.slice none 0 0) (hm : n ≤ maxLen) :
    Does P w0 com0 f nt o a w (({ val := .msl st.bl.length, bnew := some (.mat e (List.replicate n none)) } : Eff).on o.dst st) := by
  intro next Q hn
  unfold Oper.wp
  rw [hrun, Oper.upon_value]
  have hx := hI.grow_ext (.cells cs t) n 1 e.width
  have hloc : (G.grow w.heap.size n 1 e.width).loc G.nb = w.heap.size := by simp [Gh.grow, upd]
  have hrow : ∀ i, (G.grow w.heap.size n 1 e.width).row G.nb i = none := fun i => by simp [Gh.grow, upd]
  have hI' := hI.alloc (b := .mat e (List.replicate n none)) (len := n) (wd := 1) (rw := e.width) (cur := cs) (t := t) ⟨cs, t, by rw [hloc]; exact heap_alloc_new w _, by rw [hloc]; simp [Gh.grow, upd], fun o ho => by
    rw [hloc] at ho
    exact absurd (hI.comlt _ _ ho) (Nat.lt_irrefl _), by simp [Gh.grow, upd], by simp [Gh.grow, upd], by simp [Gh.grow, upd], hw, by simpa using hm, by simpa using hs, (fun i x v hx' hv => by
      rw [List.getElem?_replicate] at hx'
      split at hx'
      · cases hx'
        exact ⟨hp i v hv, hrow i⟩
      · cases hx'), fun i i' g h1 => (by rw [hrow] at h1; cases h1), fun i => (by rw [hrow]; simp), fun i _ => hrow i⟩
  cases ho : o.dst with
  | none =>
    rw [ho] at hn
    exact hn _ _ _ hI'
  | some d =>
    rw [ho] at hn
    refine hn _ _ _ (hI'.put (hd d ho) (av := .msl st.bl.length) (al := none) rfl ?_ (fun q hq => by cases hq))
    simp only [VA]
    rw [← hI.nb, hloc]
    exact ⟨Nat.lt_succ_self _, by simp [Gh.grow, upd]⟩

/-- A slice of its own in a new block, as an operation's value. -/
theorem does_fresh (hI : Inv w0 com0 f nt G st a w) {o : Oper} (hd : ∀ d, o.dst = some d → d < nt) {cs : Array Value} {t : TypeId} {e : Ty} {xs : List e.den} {ds : List Value} {cap : Nat} (hw : 0 < e.width)
    (hrun : (execOp a.eval o).run P w = .ok (.value (.slice (some ⟨w.heap.size, 0, none⟩) xs.length cap)) (w.alloc (.cells cs t))) (hp : Parts (Cells G.com w e) ds xs) (hle : xs.length ≤ cap) (hm : cap ≤ maxLen)
    (hsz : cs.size = cap * e.width) (htk : cs.toList.take ds.length = ds) : Does P w0 com0 f nt o a w (({ val := .own e xs } : Eff).on o.dst st) := by
  obtain ⟨k1, k2, k3⟩ := hI.fresh (t := t) hw hp hle hm hsz htk
  exact does_own k1 hd hrun k2 trivial k3

theorem fill_list (hI : Inv w0 com0 f nt G st a w) {e : Ty} : ∀ (l : List (Nat × Operand)) (k : Nat) (xs : List e.den) (cells : Array Value), parts e st k l = some xs → cells.size = (k + l.length) * e.width →
    ∃ cells' es, Instr.fill (fun i => some (i * e.width, e.width)) cells (l.map fun x => (x.1, a.eval x.2)) = some cells' ∧ cells'.toList = cells.toList.take (k * e.width) ++ es ∧ Parts (Cells G.com w e) es xs ∧ xs.length = l.length
  | [], k, xs, cells, h, hs => by
    simp only [parts, Option.some.injEq] at h
    subst h
    refine ⟨cells, [], rfl, ?_, .nil, rfl⟩
    rw [List.take_of_length_le (by rw [Array.length_toList, hs]; simp)]
    simp
  | (i, o) :: l, k, xs, cells, h, hs => by
    simp only [parts] at h
    split at h
    · rename_i hik
      subst hik
      split at h
      · rename_i x hx
        split at h
        · rename_i ys hys
          simp only [Option.some.injEq] at h
          subst h
          obtain ⟨p, hp⟩ := opv_sound hI o
          have hv := to_sound hp hx
          have hl : (a.eval o).cells.size = e.width := by
            have := hv.1.len
            rw [Array.length_toList] at this
            exact this
          have hlt : i * e.width + e.width ≤ cells.size := by
            rw [hs, ← Nat.succ_mul]
            exact Nat.mul_le_mul_right _ (by simp)
          have hfold := foldl_set (i * e.width) (a.eval o).cells.toList 0 cells (by rw [Array.length_toList, hl]; omega)
          simp only [Nat.add_zero] at hfold
          obtain ⟨cells', es, h1, h2, h3, h4⟩ := fill_list hI l (i + 1) ys ((a.eval o).cells.toList.zipIdx.foldl (fun cs (x : Value × Nat) => cs.setIfInBounds (i * e.width + x.2) x.1) cells) hys (by
            rw [← Array.length_toList, hfold]
            simp only [List.length_append, List.length_take, List.length_drop, Array.length_toList, hl]
            rw [show i + 1 + l.length = i + (l.length + 1) by omega, ← List.length_cons (a := (i, o)), ← hs]
            omega)
          refine ⟨cells', (a.eval o).cells.toList ++ es, ?_, ?_, .cons hv.1 h3, by simp [h4]⟩
          · rw [List.map_cons, Instr.fill]
            simp only [hl, ne_eq, not_true_eq_false, decide_false, Bool.false_or]
            rw [if_neg (by simp; omega)]
            rw [← h1]
            congr 1
            rw [← Array.foldl_toList, Array.toList_zipIdx]
          · rw [h2, hfold, Nat.succ_mul]
            have hlen : (cells.toList.take (i * e.width) ++ (a.eval o).cells.toList).length = i * e.width + e.width := by
              rw [List.length_append, List.length_take, Array.length_toList, Array.length_toList, hl]
              omega
            rw [List.take_left' hlen, List.append_assoc]
        · cases h
      · cases h
    · cases h

theorem buildSlice_run (hI : Inv w0 com0 f nt G st a w) {e : Ty} {t u : TypeId} (hu : P.underlying t = some (.slice u)) (he : okTy P e u = true) {n : Nat} {ps : Array (Nat × Operand)} (hn : ps.size = n) (hm : n * e.width ≤ 16777216)
    {xs : List e.den} (hx : parts e st 0 ps.toList = some xs) :
    ∃ cs es, (Instr.buildSlice t n (ps.map fun x => (x.1, a.eval x.2))).run P w = .ok (.slice (some ⟨w.heap.size, 0, none⟩) n n) (w.alloc (.cells cs u)) ∧ cs.toList = es ∧ Parts (Cells G.com w e) es xs ∧ xs.length = n := by
  obtain ⟨i, z, h1, h2, h3, h4, h5⟩ := okTy_info he
  have hsz := okTy_size he
  have hzv : ∀ w, (zeroValue u).run P w = .ok z w := fun w => by simp [zeroValue, typeInfo, h1, h3]
  let zero : Array Value := if n * e.width = 0 then #[] else z.cells
  obtain ⟨cs, es, k1, k2, k3, k4⟩ := fill_list hI ps.toList 0 xs ((Array.range (n * e.width)).map (zero[· % zero.size]!)) hx (by simp [hn])
  refine ⟨cs, es, ?_, by simpa using k2, k3, by rw [k4, Array.length_toList, hn]⟩
  have hpl : (ps.map fun x => (x.1, a.eval x.2)).toList = ps.toList.map fun x => (x.1, a.eval x.2) := by simp
  simp only [Instr.buildSlice, Sem.run_bind, run_underlying hu, Result.andThen_ok, hsz]
  rw [if_neg (by omega)]
  by_cases h0 : n * e.width = 0
  · have hz0 : zero = #[] := if_pos h0
    rw [hz0] at k1
    simp only [h0, if_true, hpl] at k1 ⊢
    simp only [Sem.run_bind, Sem.run_pure, Result.andThen_ok, k1]
    simp [newRow]
  · have hz0 : zero = z.cells := if_neg h0
    rw [hz0] at k1
    simp only [h0, if_false, hpl]
    simp only [Sem.run_bind, Sem.run_pure, Result.andThen_ok, hzv, k1]
    simp [newRow]

theorem buildSlice_sound (hI : Inv w0 com0 f nt G st a w) {o : Oper} (hd : ∀ d, o.dst = some d → d < nt) {e : Ty} {t u : TypeId} (hu : P.underlying t = some (.slice u)) (he : okTy P e u = true) (hw : 0 < e.width) {n : Nat} {ps : Array (Nat × Operand)}
    (ho : o.op = .buildSlice t n ps) (hn : ps.size = n) (hm : n * e.width ≤ 16777216) {xs : List e.den} (hx : parts e st 0 ps.toList = some xs) :
    Does P w0 com0 f nt o a w (({ val := .own e xs } : Eff).on o.dst st) ∧ Does P w0 com0 f nt o a w (({ val := .msl st.bl.length, bnew := some (.arr e xs) } : Eff).on o.dst st) := by
  obtain ⟨cs, es, k1, k2, k3, k4⟩ := buildSlice_run hI hu he hn hm hx
  have hrun : (execOp a.eval o).run P w = .ok (.value (.slice (some ⟨w.heap.size, 0, none⟩) xs.length xs.length)) (w.alloc (.cells cs u)) := by
    rw [k4]
    simp only [execOp, ho, Sem.run_bind, k1, Result.andThen_ok, Sem.run_pure]
  have hml : xs.length ≤ maxLen := by
    have : n ≤ n * e.width := Nat.le_mul_of_pos_right n hw
    simp only [maxLen]
    omega
  have hel := k3.len (fun _ _ hx => hx.len)
  have hcs : cs.size = xs.length * e.width := by rw [← hel, ← k2, Array.length_toList]
  exact ⟨does_fresh hI hd hw hrun k3 (Nat.le_refl _) hml hcs (by rw [k2, List.take_length]), does_arr hI hd hw hrun (by rw [k2]; exact k3) hml⟩

theorem zeros_list (z : Array Value) (hz : 0 < z.size) : ∀ m : Nat, (List.range (m * z.size)).map (fun i => z[i % z.size]!) = (List.replicate m z.toList).flatten
  | 0 => by simp
  | m + 1 => by
    rw [Nat.succ_mul, List.range_add, List.map_append, zeros_list z hz m, List.map_map, List.replicate_succ', List.flatten_append]
    congr 1
    rw [List.flatten_singleton]
    apply List.ext_getElem?
    intro i
    by_cases hi : i < z.size
    · simp [hi, Nat.mod_eq_of_lt hi, Nat.add_mod]
    · simp [hi]

theorem wrap64_id {n : Int} (h1 : -9223372036854775808 ≤ n) (h2 : n ≤ 9223372036854775807) : IntKind.i64.wrap n = n := by
  have e1 : (2 : Int) ^ 64 = 18446744073709551616 := by decide
  have e2 : (2 : Int) ^ (64 - 1) = 9223372036854775808 := by decide
  simp only [IntKind.wrap, IntKind.bits, IntKind.signed, Bool.true_and, e1, e2, ge_iff_le, decide_eq_true_eq]
  split <;> omega

theorem makeSlice_run {e : Ty} {t u : TypeId} {i : TypeInfo} (hu : P.underlying t = some (.slice u)) (hi : P.info? u = some i) (he : okTy P e u = true) (hw : 0 < e.width) (hr : e.noRaw = true) {kn km : IntKind} {n m : Int}
    (h0 : 0 ≤ n) (h1 : n ≤ m) (hm : m * (i.bytes + 1) ≤ (appendMost : Nat)) (com : Com) :
    ∃ cs es, (Instr.makeSlice t (.int kn n) (.int km m)).run P w = .ok (.slice (some ⟨w.heap.size, 0, none⟩) n.toNat m.toNat) (w.alloc (.cells cs u)) ∧ cs.size = m.toNat * e.width ∧ cs.toList.take (n.toNat * e.width) = es ∧
      es.length = n.toNat * e.width ∧ Parts (Cells com w e) es (List.replicate n.toNat e.zero) ∧ ∃ c, zc e c = some [] ∧ es = (List.replicate n.toNat c).flatten := by
  obtain ⟨i', z, k1, k2, k3, k4, k5⟩ := okTy_info he
  have : i' = i := by rw [hi] at k1; injection k1 with h; exact h.symm
  subst this
  obtain ⟨c, q1, q2⟩ := zc_cells (com := com) (w := w) hr k5
  rw [List.append_nil] at q1
  subst q1
  have hzl : z.cells.size = e.width := by rw [← Array.length_toList]; exact q2.len
  have hm0 : 0 ≤ m := Int.le_trans h0 h1
  obtain ⟨M, rfl⟩ := Int.eq_ofNat_of_zero_le hm0
  obtain ⟨N, rfl⟩ := Int.eq_ofNat_of_zero_le h0
  have hNM : N ≤ M := by omega
  have hm' : M * (i'.bytes + 1) ≤ appendMost := by
    have : ((M * (i'.bytes + 1) : Nat) : Int) ≤ (appendMost : Nat) := by push_cast; exact hm
    omega
  rw [Nat.mul_add] at hm'
  simp only [appendMost] at hm'
  have hwN : IntKind.i64.wrap (N : Int) = N := wrap64_id (by omega) (by omega)
  have hwM : IntKind.i64.wrap (M : Int) = M := wrap64_id (by omega) (by omega)
  have hbytes : ((i'.bytes : Int) * (M : Int)) ≤ 281474976710656 := by
    have : ((i'.bytes * M : Nat) : Int) ≤ 281474976710656 := by rw [Nat.mul_comm]; omega
    simpa using this
  have hzs := zeros_list z.cells (by rw [hzl]; exact hw) M
  refine ⟨(Array.range (M * e.width)).map fun i => z.cells[i % z.cells.size]!, (List.replicate N z.cells.toList).flatten, ?_, by simp, ?_, ?_, Parts.replicate q2 N, _, k5, rfl⟩
  · have hcond : ¬ (decide ((M : Int) < 0) || decide ((i'.bytes : Int) * M > 281474976710656) || decide ((N : Int) < 0) || decide ((N : Int) > M)) = true := by
      simp; omega
    by_cases hM0 : M * e.width = 0
    · have hM : M = 0 := by
        rcases Nat.mul_eq_zero.1 hM0 with h | h
        · exact h
        · omega
      subst hM
      have hN : N = 0 := by omega
      subst hN
      simp [Instr.makeSlice, run_underlying hu, asInt, asIntOf, typeInfo, hi, sizeOf, newRow, IntKind.wrap, IntKind.bits, IntKind.signed]
      have hr0 : Array.range 0 = #[] := Array.ext' (by simp)
      have hm : ∀ f : Nat → Value, Array.map f #[] = #[] := fun f => by simp
      rw [hr0, hm, hm]
    · simp only [Instr.makeSlice, Sem.run_bind, run_underlying hu, Result.andThen_ok, asInt, asIntOf, Sem.run_pure, typeInfo, run_program, hi, hwN, hwM]
      rw [if_neg (by simpa using hcond)]
      simp only [Sem.run_bind, run_askRoom, Result.andThen_ok, okTy_size he, Int.toNat_natCast, hM0, if_false]
      simp [zeroValue, typeInfo, hi, k3, newRow]
  · simp only [Int.toNat_natCast, Array.toList_map, Array.toList_range]
    rw [← hzl, hzs, hzl]
    rw [show List.replicate M z.cells.toList = List.replicate N z.cells.toList ++ List.replicate (M - N) z.cells.toList by rw [List.replicate_append_replicate]; congr 1; omega]
    rw [List.flatten_append]
    exact List.take_left' (by simp [hzl])
  · simp [hzl]

end
end Go.Ev

/-
  SLICES OF SLICES AND OF STRINGS; STRUCT LITERALS; append, as operations.
-/
namespace Go.Ev
open Go.RowKit (Below)

section
variable {P : Program} {w0 : World} {com0 : Com} {f : Frm} {nt : Nat} {G G' : Gh} {st : St} {a : Act} {w w' : World} {R : Type} {K : Eff → Option R} {r : R}

theorem loOf_sound (hI : Inv w0 com0 f nt G st a w) {lo : Option Operand} {l : Int} (h : loOf (lo.map (opv st)) = some l) : (lo.map a.eval = none ∧ l = 0) ∨ ∃ k, lo.map a.eval = some (.int k l) := by
  cases lo with
  | none => simp only [Option.map_none, loOf, Option.some.injEq] at h; exact .inl ⟨rfl, h.symm⟩
  | some o =>
    simp only [Option.map_some, loOf] at h
    split at h
    · rename_i he; cases he
    · rename_i k n he
      injection he with he
      cases h
      exact .inr ⟨k, congrArg some (val_int (opv_d hI he))⟩
    · cases h

theorem hiOf_sound (hI : Inv w0 com0 f nt G st a w) {lo : Option Operand} {l : Option Int} (h : hiOf (lo.map (opv st)) = some l) : (lo.map a.eval = none ∧ l = none) ∨ ∃ k n, lo.map a.eval = some (.int k n) ∧ l = some n := by
  cases lo with
  | none => simp only [Option.map_none, hiOf, Option.some.injEq] at h; exact .inl ⟨rfl, h.symm⟩
  | some o =>
    simp only [Option.map_some, hiOf] at h
    split at h
    · rename_i he; cases he
    · rename_i k n he
      injection he with he
      cases h
      exact .inr ⟨k, n, congrArg some (val_int (opv_d hI he)), rfl⟩
    · cases h

theorem run_bounds (b : Bool) {len cap : Nat} {lv hv : Option Value} {l h : Int} (hl : (lv = none ∧ l = 0) ∨ ∃ k, lv = some (.int k l)) (hh : (hv = none ∧ h = len) ∨ ∃ k, hv = some (.int k h)) (h0 : 0 ≤ l) (h1 : l ≤ h) (h2 : h ≤ cap) (w : World) :
    (Instr.sliceBounds b len cap lv hv none).run P w = .ok (l.toNat, h.toNat, cap) w := by
  have q1 : ∀ k c, (Instr.sliceBound (.int k h) cap c).run P w = .ok h.toNat w := fun k c => run_sliceBound w k h cap c (by omega) h2
  have q2 : ∀ k c, (Instr.sliceBound (.int k l) h.toNat c).run P w = .ok l.toNat w := fun k c => run_sliceBound w k l h.toNat c h0 (by omega)
  rcases hh with ⟨rfl, rfl⟩ | ⟨k, rfl⟩ <;> rcases hl with ⟨rfl, rfl⟩ | ⟨k', rfl⟩ <;> (try simp only [Int.toNat_natCast] at q2) <;>
    simp [Instr.sliceBounds, q1, q2]

theorem slice_val {com : Com} {e : Ty} {xs : List e.den} {base : Option Addr} {cap : Nat} {ds : List Value} (hw : 0 < e.width) (h1 : xs.length ≤ cap) (h2 : Parts (Cells com w e) ds xs) (h3 : Lies com w base ds) {l h : Nat} (hl : l ≤ h) (hh : h ≤ xs.length) :
    Val com w (.slice e) (.slice (if cap = l then base else base.map (·.add (l * e.width))) (h - l) (cap - l)) ((xs.take h).drop l) := by
  have hlen : ((xs.take h).drop l).length = h - l := by simp; omega
  have hR : ∀ c x, Cells com w e c x → c.length = e.width := fun _ _ hx => hx.len
  refine ⟨⟨_, _, _, (ds.take (h * e.width)).drop (l * e.width), rfl, hlen.symm, by omega, (h2.take hR h).drop hR l, ?_⟩, rfl⟩
  have hdl := h2.len hR
  by_cases hc : cap = l
  · left
    have : h = l := by omega
    subst this
    simp
  · simp only [hc, if_false]
    rcases h3 with h3 | ⟨b, rfl, hs, hat⟩
    · left; rw [h3]; simp
    · right
      refine ⟨_, rfl, by show (b.add _).spot = none; rw [addr_add hs], ?_⟩
      show At com w (b.add _) _
      rw [addr_add hs]
      have := hat.sub (l * e.width) (h * e.width - l * e.width)
      rw [List.drop_take]
      exact this

theorem evSlice_sound (hI : Inv w0 com0 f nt G st a w) {τ : Ty} {t : TypeId} (hok : okTy P τ t = true) {x : AV} {v : Value} {p : GP} (hx : VA G w p x v) {lo hi : Option Operand}
    (h : evSlice τ x (lo.map (opv st)) (hi.map (opv st)) K = some r) : Yields P G w (Instr.sliceAt t v (lo.map a.eval) (hi.map a.eval) none) K r := by
  unfold evSlice at h
  split at h
  · rename_i l hh hlo hhi
    have hl := loOf_sound hI hlo
    have hh' := hiOf_sound hI hhi
    split at h
    · rename_i s
      simp only [VA] at hx
      have hv := val_str hx
      subst hv
      split at h
      · rename_i n
        split at h
        · rename_i e1; subst e1
          have hu := okTy_str hok
          split at h
          · rename_i hb
            have hb' := run_bounds (P := P) false (len := s.size) hl (by
              rcases hh' with ⟨_, h1⟩ | ⟨k, m, h1, h2⟩
              · cases h1
              · cases h2; exact .inr ⟨k, h1⟩) hb.1 hb.2.1 hb.2.2 w
            exact .d h (by rw [run_sliceAt_string _ _ _ _ _ _ hu]; simp [Instr.slice, run_underlying hu, hb']) Val.str
          · cases h
        · cases h
      · split at h
        · rename_i e1; subst e1
          have hu := okTy_str hok
          split at h
          · rename_i hb
            have hb' := run_bounds (P := P) false (len := s.size) (cap := s.size) (h := (s.size : Int)) hl (by
              rcases hh' with ⟨h0, h1⟩ | ⟨k, m, h1, h2⟩
              · exact .inl ⟨h0, rfl⟩
              · cases h2) hb.1 hb.2 (Int.le_refl _) w
            exact .d h (by rw [run_sliceAt_string _ _ _ _ _ _ hu]; simp [Instr.slice, run_underlying hu, hb']) Val.str
          · cases h
        · cases h
    · rename_i e xs
      simp only [VA] at hx
      obtain ⟨base, cap, ds, rfl, k1, k2, k3⟩ := val_slice hx
      split at h
      · rename_i n
        split at h
        · rename_i e1; subst e1
          obtain ⟨u, hu, he, hw⟩ := okTy_slice hok
          split at h
          · rename_i hb
            have hb' := run_bounds (P := P) true (len := xs.length) (cap := cap) hl (by
              rcases hh' with ⟨_, h1⟩ | ⟨k, m, h1, h2⟩
              · cases h1
              · cases h2; exact .inr ⟨k, h1⟩) hb.1 hb.2.1 (by omega) w
            refine .d h ?_ (slice_val hw k1 k2 k3 (l := l.toNat) (h := n.toNat) (by omega) (by omega))
            rw [run_sliceAt_slice]
            · simp [Instr.slice, run_underlying hu, hb', okTy_size he]
            · simp [Program.elem, hu]
          · cases h
        · cases h
      · split at h
        · rename_i e1; subst e1
          obtain ⟨u, hu, he, hw⟩ := okTy_slice hok
          split at h
          · rename_i hb
            have hb' := run_bounds (P := P) true (len := xs.length) (cap := cap) (h := (xs.length : Int)) hl (by
              rcases hh' with ⟨h0, h1⟩ | ⟨k, m, h1, h2⟩
              · exact .inl ⟨h0, rfl⟩
              · cases h2) hb.1 hb.2 (by omega) w
            have hsv := slice_val hw k1 k2 k3 (l := l.toNat) (h := xs.length) (by omega) (Nat.le_refl _)
            rw [List.take_length] at hsv
            refine .d h ?_ hsv
            rw [run_sliceAt_slice]
            · simp [Instr.slice, run_underlying hu, hb', okTy_size he]
            · simp [Program.elem, hu]
          · cases h
        · cases h
    · cases h
  · cases h

/-! ### Struct literals -/

theorem newLeaves_sound {p : GP} {τ : Ty} {x : AV} {ls : List AV} {v : Value} (h : VA G w p x v) (hx : newLeaves τ x = some ls) : v.cells.toList.length = τ.width ∧ LL G w ls v.cells.toList ∧ ∀ b ∈ ls, b.isOwn = false := by
  have data : ∀ (b : AV), VA G w p b v → (b.to1 τ).map (explode τ) = some ls → v.cells.toList.length = τ.width ∧ LL G w ls v.cells.toList ∧ ∀ b ∈ ls, b.isOwn = false := by
    intro b hb hm
    cases hy : b.to1 τ with
    | none => rw [hy] at hm; cases hm
    | some y =>
      rw [hy] at hm
      cases hm
      have h1 := (to1_agg hb hy).1
      exact ⟨h1.len, explode_ll h1⟩
  cases x <;> simp only [newLeaves] at hx
  case agl m =>
    split at hx
    · rename_i y h1
      cases hx
      simp only [VA] at h
      obtain ⟨c1, c2, h2, h3, h4, h5⟩ := settle_sound (r := 0) h1 h.2.ll
      simp only [LL] at h5
      subst h5
      rw [List.append_nil] at h2
      exact ⟨by rw [h2]; exact h3, h.2.ll, h.2.noOwn⟩
    · cases hx
  case nils =>
    split at hx
    · rename_i e
      cases hx
      simp only [VA] at h
      subst h
      exact ⟨rfl, ⟨[_], [], p, rfl, ⟨_, rfl, rfl, rfl⟩, rfl⟩, by simp [AV.isOwn]⟩
    · cases hx
  case fn g caps =>
    split at hx
    · rename_i e1
      subst e1
      cases hx
      have h0 := h
      simp only [VA] at h0
      obtain ⟨vs, rfl, _⟩ := h0
      exact ⟨rfl, ⟨[_], [], p, rfl, ⟨_, rfl, h, rfl⟩, rfl⟩, by simp [AV.isOwn]⟩
    · cases hx
  case ptr r' o =>
    split at hx
    · rename_i e1
      subst e1
      cases hx
      have h0 := h
      simp only [VA] at h0
      obtain ⟨_, rfl⟩ := h0
      exact ⟨rfl, ⟨[_], [], p, rfl, ⟨_, rfl, h, rfl⟩, rfl⟩, by simp [AV.isOwn]⟩
    · cases hx
  all_goals exact data _ h hx

theorem fillParts_sound (hI : Inv w0 com0 f nt G st a w) {τ : Ty} {place : Nat → Option (Nat × Nat)} (hpl : ∀ i τ' off, partOf τ i = some (τ', off) → place i = some (off, τ'.width)) :
    ∀ (l : List (Nat × Operand)) (ls ls' : List AV) (cells : Array Value), fillParts τ st l ls = some ls' → LL G w ls cells.toList → (∀ b ∈ ls, b.isOwn = false) →
      ∃ cells', Instr.fill place cells (l.map fun x => (x.1, a.eval x.2)) = some cells' ∧ LL G w ls' cells'.toList ∧ ∀ b ∈ ls', b.isOwn = false
  | [], ls, ls', cells, h, hl, ho => by
    simp only [fillParts, Option.some.injEq] at h
    subst h
    exact ⟨cells, rfl, hl, ho⟩
  | (i, o) :: l, ls, ls', cells, h, hl, ho => by
    simp only [fillParts] at h
    split at h
    · cases h
    · rename_i τ' off hpart
      split at h
      · rename_i pre rest hcut
        split at h
        · rename_i post hst
          split at h
          · rename_i new hnew
            obtain ⟨p, hp⟩ := opv_sound hI o
            obtain ⟨n1, n2, n3⟩ := newLeaves_sound hp hnew
            obtain ⟨rfl, c1, c2, q1, q2, q3, q4⟩ := hl.cut hcut
            unfold strike at hst
            cases hs' : cut τ'.width rest with
            | none => rw [hs'] at hst; cases hst
            | some y =>
              rw [hs'] at hst
              obtain ⟨mid, post'⟩ := y
              simp only [Option.map_some, Option.some.injEq] at hst
              subst hst
              obtain ⟨rfl, d1, d2, rfl, l1, l2, l3⟩ := q4.cut hs'
              have hsz : cells.size = off + (τ'.width + d2.length) := by
                rw [← Array.length_toList, q1]; simp [q2, l1]
              have hfold := foldl_set off (a.eval o).cells.toList 0 cells (by rw [n1]; omega)
              simp only [Nat.add_zero] at hfold
              have e1 : cells.toList.take off = c1 := by rw [q1, List.take_left' q2]
              have e3 : cells.toList.drop (off + (a.eval o).cells.toList.length) = d2 := by
                rw [q1, n1, List.drop_append, q2, List.drop_eq_nil_of_le (by omega), List.nil_append, Nat.add_sub_cancel_left, List.drop_left' l1]
              rw [e1, e3] at hfold
              obtain ⟨cells', h1, h2, h3⟩ := fillParts_sound hI hpl l (pre ++ new ++ post') ls' _ h (by
                rw [hfold]
                exact (q3.append n2).append l3) (by
                intro b hb
                rcases List.mem_append.1 hb with hb | hb
                · rcases List.mem_append.1 hb with hb | hb
                  · exact ho b (by simp [hb])
                  · exact n3 b hb
                · exact ho b (by simp [hb]))
              refine ⟨cells', ?_, h2, h3⟩
              rw [List.map_cons, Instr.fill]
              simp only [hpl i τ' off hpart]
              have n1' : (a.eval o).cells.size = τ'.width := by rw [← Array.length_toList]; exact n1
              rw [if_neg (by simp [n1']; omega), ← h1]
              congr 1
              rw [← Array.foldl_toList, Array.toList_zipIdx]
          · cases h
        · cases h
      · cases h

theorem okFs_places : ∀ {p : Ty} {fs : List Field} {off : Nat}, okFs P p fs off = true → ∃ places, fs.mapM (fun f => (P.info? f.type).map fun i => (f.offset, i.size)) = some places ∧
    ∀ i (s : Sub p), p.sub i = some s → places[i]? = some (off + s.off, s.τ.width)
  | .unit, [], off, _ => ⟨[], by simp, fun i s h => by cases i <;> simp [Ty.sub] at h⟩
  | .cons b c, [], off, h => by simp [okFs] at h
  | .cons b c, f :: fs, off, h => by
    simp only [okFs, Bool.and_eq_true, beq_iff_eq, decide_eq_true_eq] at h
    obtain ⟨⟨⟨h1, h2⟩, h3⟩, h4⟩ := h
    obtain ⟨places, k1, k2⟩ := okFs_places h4
    obtain ⟨i, z, i1, i2, _⟩ := okTy_info h3
    refine ⟨(f.offset, i.size) :: places, by simp [List.mapM_cons, i1, k1], fun j s hs => ?_⟩
    cases j with
    | zero =>
      simp only [Ty.sub, Option.some.injEq] at hs
      subst hs
      simp [h1, i2]
    | succ j =>
      simp only [Ty.sub] at hs
      split at hs
      · rename_i s' hs'
        simp only [Option.some.injEq] at hs
        subst hs
        have := k2 j s' hs'
        simp only [List.getElem?_cons_succ, this, Nat.add_assoc]
      · cases hs
  | .unit, _ :: _, _, h => by simp [okFs] at h
  | .int _, _, _, h => by simp [okFs] at h
  | .bool, _, _, h => by simp [okFs] at h
  | .str, _, _, h => by simp [okFs] at h
  | .slice _, _, _, h => by simp [okFs] at h
  | .arr _ _, _, _, h => by simp [okFs] at h
  | .agg _, _, _, h => by simp [okFs] at h
  | .raw, _, _, h => by simp [okFs] at h

theorem build_sound (hI : Inv w0 com0 f nt G st a w) {τ : Ty} {t : TypeId} (hok : okTy P τ t = true) {ps : Array (Nat × Operand)} {ls : List AV} (h : fillParts τ st ps.toList (zeroLeaves τ) = some ls) (hag : τ.isAgg = true) :
    ∃ v, (Instr.build t (ps.map fun x => (x.1, a.eval x.2))).run P w = .ok v w ∧ VA G w (.slot f 0) (.agl ls) v := by
  obtain ⟨i, z, h1, h2, h3, h4, h5⟩ := okTy_info hok
  obtain ⟨c, k1, k2, k3⟩ := zc_leaves (G := G) (w := w) h5
  rw [List.append_nil] at k1
  rw [← k1] at k2
  have hpl : (ps.map fun x => (x.1, a.eval x.2)).toList = ps.toList.map fun x => (x.1, a.eval x.2) := by simp
  have fin : ∀ (place : Nat → Option (Nat × Nat)), (∀ i τ' off, partOf τ i = some (τ', off) → place i = some (off, τ'.width)) → (∀ c', Instr.fill place z.cells (ps.toList.map fun x => (x.1, a.eval x.2)) = some c' → P.built t (ps.map fun x => (x.1, a.eval x.2)).toList = some c') →
      ∃ v, (Instr.build t (ps.map fun x => (x.1, a.eval x.2))).run P w = .ok v w ∧ VA G w (.slot f 0) (.agl ls) v := by
    intro place hp hb
    obtain ⟨cells', q1, q2, q3⟩ := fillParts_sound hI hp ps.toList (zeroLeaves τ) ls z.cells h k2 k3
    refine ⟨.agg cells', run_build w t _ cells' (hb _ q1), ?_⟩
    simp only [VA, isAggV, Value.cells, true_and]
    exact q2.la _ q3
  cases τ <;> simp only [Ty.isAgg, Bool.false_eq_true] at hag
  case arr n e =>
    obtain ⟨u, hu, he⟩ := okTy_arr hok
    obtain ⟨iu, zu, j1, j2, _⟩ := okTy_info he
    refine fin (fun i => some (i * iu.size, iu.size)) (fun i τ' off hp => ?_) (fun c' hc => ?_)
    · simp only [partOf, Option.some.injEq, Prod.mk.injEq] at hp
      obtain ⟨rfl, rfl⟩ := hp
      rw [j2]
    · rw [hpl]
      simp only [Program.built, h1, hu, h3, j1]
      exact hc
  case agg p =>
    obtain ⟨fs, hu, hfs⟩ := okTy_agg' hok
    obtain ⟨places, j1, j2⟩ := okFs_places hfs
    refine fin (fun i => places.toArray[i]?) (fun i τ' off hp => ?_) (fun c' hc => ?_)
    · simp only [partOf] at hp
      split at hp
      · rename_i s hs
        simp only [Option.some.injEq, Prod.mk.injEq] at hp
        obtain ⟨rfl, rfl⟩ := hp
        have := j2 i s hs
        simpa using this
      · cases hp
    · rw [hpl]
      simp only [Program.built, h1, hu, h3, j1]
      exact hc

end
end Go.Ev

/-
  EVERY OPERATION: what the evaluator says of it holds.
-/
namespace Go.Ev
open Go.RowKit (Below)

structure FnOK (P : Program) (C : Ctx) : Prop where
  pure : ∀ fid τ rs g, C.fn fid = some (.pure τ rs g) → PureOK P fid τ rs g
  inl : ∀ fid S O g, C.fn fid = some (.inl S O g) → InlOK P fid S O g

section
variable {P : Program} {C : Ctx} {w0 : World} {com0 : Com} {f : Frm} {nt : Nat} {G G' : Gh} {st : St} {a : Act} {w w' : World} {R : Type} {K : Eff → Option R} {r : R}

theorem size2 {α : Type} {d : α} {x : Array α} (h : x.size = 2) : x = #[x.getD 0 d, x.getD 1 d] := by
  apply Array.ext
  · simp [h]
  · intro i h1 h2
    rcases i with _ | _ | i
    · simp [h]
    · simp [h]
    · simp at h2; omega

theorem size1 {α : Type} {d : α} {x : Array α} (h : x.size = 1) : x = #[x.getD 0 d] := by
  apply Array.ext
  · simp [h]
  · intro i h1 h2
    rcases i with _ | i
    · simp [h]
    · simp at h2

theorem evAppend_sound (hC : CtxOK P C) (hI : Inv w0 com0 f nt G st a w) {o : Oper} (hd : ∀ d, o.dst = some d → d < nt) {c : Call} (ho : o.op = .call c) (hc : c.callee = .builtin .append) {x y : Operand} (hargs : c.args.toList = [x, y])
    (hts : C.ty (c.argTypes.getD 0 0) = C.ty (c.argTypes.getD 1 0) ∧ c.argTypes.size = 2) (h : evAppend (C.ty (c.argTypes.getD 0 0)) (C.bytes (c.argTypes.getD 0 0)) st x y K = some r) :
    ∃ E, K E = some r ∧ Does P w0 com0 f nt o a w (E.on o.dst st) := by
  have hat := size2 (d := 0) hts.2
  have har : c.args = #[x, y] := by rw [← hargs]
  have fin : ∀ {st1 : St} {e : Ty} {xs ys : List e.den} {q : GP}, Inv w0 com0 f nt G st1 a w → C.ty (c.argTypes.getD 0 0) = .slice e → OwnV G w q e xs (a.eval x) → Loc f q → ¬ Used st1 f q → (opv st y).to1 (.slice e) = some ys →
      (xs.length + ys.length) * (C.bytes (c.argTypes.getD 0 0) + 1) ≤ appendMost → Does P w0 com0 f nt o a w (({ val := .own e (xs ++ ys) } : Eff).on o.dst st1) := by
    intro st1 e xs ys q hI1 hty hown lq hq hy hb
    obtain ⟨u, i, hu, hi, hbytes⟩ := hC.bytes _ e hty
    have hok := hC.ty (c.argTypes.getD 0 0) (by rw [hty]; simp)
    have hok2 := hC.ty (c.argTypes.getD 1 0) (by rw [← hts.1, hty]; simp)
    rw [← hts.1, hty] at hok2
    rw [hty] at hok
    obtain ⟨p, hp⟩ := opv_sound hI y
    have hyv := to1_agg hp hy
    rw [← hbytes] at hb
    obtain ⟨G', w', v', q', h1, h2, h3, l4, h4⟩ := append_core (P := P) (ty := o.type) hI1 hok hok2 hu hi hown lq hq hyv hb
    refine does_own h2 hd ?_ h3 l4 h4
    rw [← hat] at h1
    simp [execOp, ho, resolve, hc, har, invoke, builtin, h1]
  unfold evAppend at h
  split at h
  · rename_i k
    split at h
    · rename_i e xs al hk
      split at h
      · rename_i hty
        split at h
        · rename_i ys hy
          split at h
          · rename_i hb
            refine ⟨_, h, ?_⟩
            have hown := hI.slots k
            rw [hk] at hown
            simp only [VA] at hown
            exact fin (hI.dem k) hty hown rfl (by
              rintro ⟨_, hu⟩
              simp [upd, AV.dem_isOwn] at hu) hy hb
          · cases h
        · cases h
      · cases h
    · rename_i av j hno hk
      split at h
      · rename_i e xs hj
        split at h
        · rename_i hty
          split at h
          · rename_i ys hy
            split at h
            · rename_i hb
              refine ⟨_, h, ?_⟩
              have hown := hI.slots j
              rw [hj] at hown
              simp only [VA] at hown
              have hal := hI.alias k (.slot j) (by rw [hk]) ⟨e, xs, hj⟩
              exact fin (hI.dem j) hty (show OwnV G w (.slot f j) e xs (a.tmps.getD k undef) by rw [hal]; exact hown) rfl (by
                rintro ⟨_, hu⟩
                simp [upd, AV.dem_isOwn] at hu) hy hb
            · cases h
          · cases h
        · cases h
      · cases h
    · rename_i av rr off hno hk
      split at h
      · rename_i ls hb
        split at h
        · rename_i pre e xs post hcut
          split at h
          · rename_i hty
            split at h
            · rename_i ys hy
              split at h
              · rename_i hbd
                refine ⟨_, h, ?_⟩
                obtain ⟨hrl, hal⟩ := hI.alias k (.leaf rr off) (by rw [hk])
                have hcell := hal _ hb pre e xs post hcut
                obtain ⟨cur, t, c1, c2, k1, k2, k3, k4, k5, k6, k7, k8, k9⟩ := cells_of_box (hI.blocks rr _ hb) hcut
                simp only [Lay] at k8
                obtain ⟨cc, cs', e2, hcl, hcw, hleaf, hrest⟩ := k8
                obtain ⟨v, rfl, hva, hone⟩ := hleaf
                have hv : v = a.tmps.getD k undef := by
                  have := k9 0 v (by rw [e2]; rfl)
                  rw [Nat.add_zero, hcell] at this
                  injection this with this
                  exact this.symm
                subst hv
                simp only [VA] at hva
                have hself := setRow_self w (G.loc rr) cur t (0, 0) k1
                have hxx : Ext (fun t => t ≠ .blk rr) G w G (w.setRow (G.loc rr) cur) := setRow_ext (w := w) k2 k3 cur
                rw [hself] at hxx
                have hI1 := hI.write (b' := .box (pre ++ .d (.slice e) xs :: post)) hb k2 k3 (cur' := cur) (by
                  rw [hself]
                  refine ⟨cur, t, k1, k2, k3, ?_⟩
                  rw [k5, e2]
                  refine Lay.append k7 ?_
                  rw [Nat.zero_add, k6]
                  exact ⟨_, _, rfl, rfl, Nat.one_pos, by have hvv := hva.val; rw [show Val G.com w (.slice e) _ xs = (Cells G.com w (.slice e) _ xs ∧ _) from rfl, cells_of_not_agg hvv.2] at hvv; exact hvv.1, hrest⟩)
                rw [hself] at hI1
                have hrlt : rr < st.bl.length := hrl
                exact fin hI1 hty hva trivial (by
                  rintro ⟨ls', h1, pre', e', xs', post', h2⟩
                  simp only [List.getElem?_set_self hrlt] at h1
                  cases h1
                  simp only [Blk.lv] at h2
                  rw [cut_append pre _ off k7 k6] at h2
                  cases h2) hy hbd
              · cases h
            · cases h
          · cases h
        · cases h
      · rename_i e2 xs2 has ls hb
        split at h
        · rename_i pre e xs post hcut
          split at h
          · rename_i hty
            split at h
            · rename_i ys hy
              split at h
              · rename_i hbd
                obtain ⟨rfl, hbd⟩ := hbd
                refine ⟨_, h, ?_⟩
                obtain ⟨hrl, hal⟩ := hI.alias k (.leaf rr off) (by rw [hk])
                obtain ⟨g1, hg1, hcell⟩ := hal _ hb rfl pre e xs post hcut
                obtain ⟨g, cur, t, ds, c1, c2, rs, q1, q2, q3, q4, q5, q6, q7, q8, q9, q10, q11, q12, q13, q14⟩ := cells_of_vec (hI.blocks rr _ hb) hcut
                have hgg : g1 = g := by rw [hg1] at q1; injection q1
                subst hgg
                have k8 := q10
                simp only [Lay] at k8
                obtain ⟨cc, cs', e3, hcl, hcw, hleaf, hrest⟩ := k8
                obtain ⟨v, rfl, hva, hone⟩ := hleaf
                have hv : v = a.tmps.getD k undef := by
                  have := q11 0 v (by rw [e3]; rfl)
                  rw [Nat.add_zero, hcell] at this
                  injection this with this
                  exact this.symm
                subst hv
                simp only [VA] at hva
                have hI1 := hI.reblk (b' := .vec e2 xs2 true (pre ++ .d (.slice e) xs :: post)) hb (vec_relay (hI.blocks rr _ hb) hcut (fun c hc => by
                  simp only [Lay] at hc ⊢
                  obtain ⟨c, cs', h1, h2, h3, ⟨v, h4, h5, h6⟩, h7⟩ := hc
                  subst h4
                  simp only [VA] at h5
                  refine ⟨[v], cs', h1, rfl, Nat.one_pos, ?_, h7⟩
                  have hvv := h5.val
                  rw [show Val G.com w (.slice e) _ xs = (Cells G.com w (.slice e) _ xs ∧ _) from rfl, cells_of_not_agg hvv.2] at hvv
                  exact hvv.1))
                have hrlt : rr < st.bl.length := hrl
                exact fin hI1 hty hva trivial (by
                  rintro ⟨b', h1, pre', e', xs', post', h2⟩
                  simp only [List.getElem?_set_self hrlt] at h1
                  cases h1
                  simp only [Blk.lv] at h2
                  rw [cut_append pre _ off q9 q8] at h2
                  cases h2) hy hbd
              · cases h
            · cases h
          · cases h
        · cases h
      · cases h
    · cases h
  · cases h

theorem TA.get {p : GP} : ∀ {l : List AV} {vs : List Value} {i : Nat} {av : AV}, TA G w p l vs → l[i]? = some av → ∃ v, vs[i]? = some v ∧ av.isOwn = false ∧ VA G w p av v
  | [], _, _, _, _, h => by simp at h
  | b :: l, vs, 0, av, h, hi => by
    simp only [TA] at h
    obtain ⟨v, vs', rfl, h1, h2, h3⟩ := h
    simp at hi
    subst hi
    exact ⟨v, rfl, h1, h2⟩
  | b :: l, vs, i + 1, av, h, hi => by
    simp only [TA] at h
    obtain ⟨v, vs', rfl, h1, h2, h3⟩ := h
    simp only [List.getElem?_cons_succ] at hi ⊢
    exact h3.get hi

theorem opv_ta (hI : Inv w0 com0 f nt G st a w) (p : GP) : ∀ (l : List Operand), TA G w p (l.map fun x => (opv st x).dem) (l.map a.eval)
  | [] => rfl
  | x :: l => by
    obtain ⟨q, hq⟩ := opv_sound hI x
    simp only [List.map_cons, TA]
    exact ⟨_, _, rfl, AV.dem_isOwn _, hq.dem.place _ (AV.dem_isOwn _), opv_ta hI p l⟩

theorem resAV_sound {p : GP} {l : List AV} {vals : List Value} (h : TA G w p l vals) : (resAV l).isOwn = false ∧ VA G w p (resAV l) (valOf vals) := by
  match l, h with
  | [], h =>
    simp only [TA] at h
    subst h
    exact ⟨rfl, by simp only [resAV, VA]; exact ⟨[], rfl, rfl⟩⟩
  | [a], h =>
    simp only [TA] at h
    obtain ⟨v, vs', rfl, h1, h2, rfl⟩ := h
    exact ⟨h1, h2⟩
  | a :: b :: l, h =>
    have h' := h
    simp only [TA] at h
    obtain ⟨v, vs', rfl, h1, h2, v2, vs2, rfl, _⟩ := h
    exact ⟨rfl, by simp only [resAV, VA]; exact ⟨_, rfl, h'⟩⟩

theorem TA.append {p : GP} : ∀ {l1 l2 : List AV} {v1 v2 : List Value}, TA G w p l1 v1 → TA G w p l2 v2 → TA G w p (l1 ++ l2) (v1 ++ v2)
  | [], _, _, _, h1, h2 => by simp only [TA] at h1; subst h1; exact h2
  | a :: l, _, _, _, h1, h2 => by
    simp only [TA] at h1
    obtain ⟨v, vs', rfl, k1, k2, k3⟩ := h1
    simp only [List.cons_append, TA]
    exact ⟨v, vs' ++ _, rfl, k1, k2, k3.append h2⟩

theorem inl_sound (hI : Inv w0 com0 f nt G st a w) {o : Oper} (hd : ∀ d, o.dst = some d → d < nt) {c : Call} (ho : o.op = .call c) {x : Operand} (hc : c.callee = .value x) {fid : Nat} {caps : List AV} (hf : fnOf (opv st x) = some (fid, caps))
    {S O : ISh} {g : S.den → Option O.den} (hg : InlOK P fid S O g) (hl : S.bl.length = st.bl.length) {xa : LS.den S.args} (hxa : AL.read st.bl.length S.args (c.args.toList.map (fun x => (opv st x).dem) ++ caps) = some xa)
    {xb : BL.den S.bl} (hxb : BL.read st.bl.length S.bl st.bl = some xb) {z : O.den} (hz : g (xa, xb) = some z) :
    Does P w0 com0 f nt o a w (({ val := resAV (LS.mk O.args z.1), ball := some (BL.mk O.bl z.2) } : Eff).on o.dst st) := by
  intro next Q hn
  obtain ⟨p, hp⟩ := opv_sound hI x
  obtain ⟨vs, hx, hcaps⟩ := fnOf_sound hp hf
  obtain ⟨F, hF, hbody, hname⟩ := hg.known
  have e : ({ G with nb := st.bl.length } : Gh) = G := by rw [← hI.nb]
  have hta := AL.read_sound (TA.append (opv_ta hI p c.args.toList) hcaps) hxa
  rw [e] at hta
  have hcalls := hg.calls (xa, xb) z hz (hI.readB hl hxb) (fun _ => rfl) hta
  have hrun : (execOp a.eval o).run P w = .ok (.enter fid (c.args.toList.map a.eval ++ vs).toArray) w := by
    have hb' : ¬ F.body = none := by intro h; rw [h] at hbody; cases hbody
    have e1 : (c.args.toList.map a.eval ++ vs).toArray = c.args.map a.eval ++ vs.toArray := by
      apply Array.ext'
      simp
    rw [e1]
    simp [execOp, ho, resolve, hc, hx, Deferred.ofValue, invoke, callFunc, hF, hname, hb']
  unfold Oper.wp
  rw [hrun, Oper.upon_enter]
  refine hcalls.mono ?_
  rintro e w' ⟨vals, G', rfl, hI', hres⟩
  simp only
  obtain ⟨k1, k2⟩ := resAV_sound hres
  have hon : ∀ (dst : Option Nat), (({ val := resAV (LS.mk O.args z.1), ball := some (BL.mk O.bl z.2) } : Eff).on dst st) = (({ val := resAV (LS.mk O.args z.1) } : Eff).on dst { fr := fun k => ((st.fr k).1, none), bl := BL.mk O.bl z.2 }) := fun _ => rfl
  rw [hon, on_val k1] at hn
  cases hdst : o.dst with
  | none => rw [hdst] at hn; exact hn _ _ _ hI'
  | some d => rw [hdst] at hn; exact hn _ _ _ (hI'.put (hd d hdst) k1 (k2.place _ k1) (fun q hq => by cases hq))

/-- A new slice that grows. -/
theorem vec_sound (hI : Inv w0 com0 f nt G st a w) {o : Oper} (hd : ∀ d, o.dst = some d → d < nt) {t : TypeId} (ho : o.op = .alloc t) {e : Ty} (hok : okTy P (.slice e) t = true) (hw : 0 < e.width) {ls : List AV} :
    Does P w0 com0 f nt o a w (({ val := .ptr st.bl.length 0, bnew := some (.vec e [] false ls) } : Eff).on o.dst st) := by
  obtain ⟨i, z, h1, h2, h3, h4, h5⟩ := okTy_info hok
  have hz : z.cells = #[.slice none 0 0] := by
    simp only [zc] at h5
    split at h5
    · rename_i n c l hl
      split at h5
      · rename_i h0
        obtain ⟨rfl, rfl⟩ := h0
        cases h5
        apply Array.ext'
        rw [hl]
      · cases h5
    · cases h5
  intro next Q hn
  have hrun : (execOp a.eval o).run P w = .ok (.value (.pointer (some ⟨w.heap.size, 0, none⟩))) (w.alloc (.cells z.cells t)) := by
    simp [execOp, ho, Instr.alloc, zeroValue, typeInfo, h1, h3, newVar, newRow]
  unfold Oper.wp
  rw [hrun, Oper.upon_value]
  have hloc : (G.grow w.heap.size 0 0 e.width).loc G.nb = w.heap.size := by simp [Gh.grow, upd]
  have hI' := hI.alloc (b := .vec e [] false ls) (len := 0) (wd := 0) (rw := e.width) (cur := z.cells) (t := t) ⟨.slice none 0 0, t, by rw [hloc, hz]; exact heap_alloc_new w _, by rw [hloc]; simp [Gh.grow, upd], fun o ho => by
    rw [hloc] at ho
    exact absurd (hI.comlt _ _ ho) (Nat.lt_irrefl _), hw, by simp [Gh.grow, upd], .inl ⟨rfl, rfl, rfl, fun i => by simp [Gh.grow, upd]⟩⟩
  cases hdst : o.dst with
  | none =>
    rw [hdst] at hn
    exact hn _ _ _ hI'
  | some d =>
    rw [hdst] at hn
    refine hn _ _ _ (hI'.put (hd d hdst) (av := .ptr st.bl.length 0) (al := none) rfl ?_ (fun q hq => by cases hq))
    simp only [VA]
    rw [← hI.nb, hloc]
    exact ⟨Nat.lt_succ_self _, rfl⟩

/-- What a slice that grew comes to in the end. -/
theorem fin_sound (hI : Inv w0 com0 f nt G st a w) {t : TypeId} {e : Ty} (hok : okTy P (.slice e) t = true) {rr : Nat} {xs : List e.den} {has : Bool} {ls : List AV} (hb : st.bl[rr]? = some (.vec e xs has ls)) {y : e.den} (hy : fromLeaves e ls = some (y, [])) :
    ∃ G' cv, (Instr.loadAt t (.pointer (some ⟨G.loc rr, 0, none⟩))).run P w = .ok cv w ∧ Inv w0 com0 f nt G' { st with bl := st.bl.set rr .gone } a w ∧ Val G'.com w (.slice e) cv (if has = true then xs ++ [y] else xs) := by
  have hr := hI.lt hb
  obtain ⟨v, t0, h1, h2, h3, h4, h5, h6⟩ := hI.blocks rr _ hb
  have hcell : w.cell? ⟨G.loc rr, 0, none⟩ = some v := by
    rw [cell_of_row w _ _ #[v] t0 (0, 0) h1]
    rfl
  have hrun : (Instr.loadAt t (.pointer (some ⟨G.loc rr, 0, none⟩))).run P w = .ok v w := by
    simp [Instr.loadAt, Instr.sureAddr, loadVar, okTy_agg hok, Ty.isAgg, hcell]
  have gone : ∀ (com' : Com), (∀ b o, G.com b o → com' b o) → (∀ b o, com' b o → G.com b o ∨ G.wr b = .blk rr) → (∀ b o, com' b o → b < w.heap.size) → Inv w0 com0 f nt { G with com := com' } { st with bl := st.bl.set rr .gone } a w := by
    intro com' c1 c2 c3
    have hx : Ext (fun t => t ≠ .blk rr) G w { G with com := com' } w := ⟨c1, fun _ _ _ => rfl, Nat.le_refl _, fun _ _ => ⟨rfl, rfl, rfl⟩, fun _ _ => ⟨rfl, fun _ _ h => ⟨h, rfl⟩, fun _ _ => rfl⟩, fun g hg _ => ⟨rfl, rfl, fun o ho => (c2 g o ho).resolve_right hg⟩⟩
    refine ⟨hI.below, f.st (hx.less fun t ht => by obtain ⟨_, _, _, rfl⟩ := ht; simp) hI.foreign, hI.defers, hI.size, by simpa using hI.nb, hI.wrhi, fun b o hbo => ⟨fun h => ?_, fun h => c1 _ _ ((hI.comlo b o hbo).2 h)⟩, c3, fun k => (hI.slots k).ext hx (fun _ => by simp), fun k p hp => ?_, fun r' b hr' => ?_⟩
    · rcases c2 b o h with h | h
      · exact (hI.comlo b o hbo).1 h
      · have := (hI.wrhi b (by rw [h]; simp)).1
        omega
    · have ha := hI.alias k p hp
      cases p with
      | slot j => exact ha
      | leaf r off =>
        refine ⟨by simpa using ha.1, fun b hb' => ?_⟩
        by_cases e0 : r = rr
        · subst e0
          rw [List.getElem?_set_self ha.1] at hb'
          cases hb'
          trivial
        · rw [List.getElem?_set_ne (Ne.symm e0)] at hb'
          exact (ha.2 b hb').ext hx (hI.lt hb') (by simpa using e0) (hI.blocks r b hb')
    · by_cases e0 : r' = rr
      · subst e0
        rw [List.getElem?_set_self (by rw [← hI.nb]; exact hr)] at hr'
        cases hr'
        trivial
      · rw [List.getElem?_set_ne (Ne.symm e0)] at hr'
        exact (hI.blocks r' b hr').ext hx (hI.lt hr') (by simpa using e0) (fun _ _ => by simp)
  rcases h6 with ⟨rfl, rfl, rfl, _⟩ | ⟨rfl, g, cap, cur, tg, ds, c, rest, q2, q3, q4, q5, q6, q7, q8, q9, q10, q11, q12, q13, q14, q15⟩
  · refine ⟨_, _, hrun, gone G.com (fun _ _ h => h) (fun _ _ h => .inl h) hI.comlt, ?_⟩
    exact ⟨⟨none, 0, 0, [], rfl, rfl, Nat.le_refl _, .nil, .inl rfl⟩, rfl⟩
  · refine ⟨_, _, hrun, gone (fun b o => G.com b o ∨ (b = g ∧ o < (ds ++ c).length)) (fun _ _ h => .inl h) (fun b o h => ?_) (fun b o h => ?_), ?_⟩
    · rcases h with h | ⟨rfl, _⟩
      · exact .inl h
      · exact .inr q6
    · rcases h with h | ⟨rfl, _⟩
      · exact hI.comlt b o h
      · exact (hI.wrhi b (by rw [q6]; simp)).2
    · obtain ⟨c1, c2, k1, k2, k3⟩ := fromLeaves_sound hy q13.ll
      simp only [LL] at k3
      subst k3
      rw [List.append_nil] at k1
      subst k1
      simp only [if_true]
      have hp : Parts (Cells (fun b o => G.com b o ∨ (b = g ∧ o < (ds ++ c).length)) w e) (ds ++ c) (xs ++ [y]) := by
        refine Parts.mono (R := Cells G.com w e) (fun _ _ h => h.mono (fun _ _ h => .inl h) (fun _ _ _ => rfl)) (q11.append ?_)
        simpa using Parts.cons k2 .nil
      rw [q2]
      have e1 : xs.length + 1 = (xs ++ [y]).length := by simp
      rw [e1]
      refine Val.slice (by rw [← e1]; exact q7) hp (.inr ⟨_, rfl, rfl, fun j u hj => ⟨.inr ⟨rfl, ?_⟩, ?_⟩⟩)
      · have := getElem?_lt hj
        simpa using this
      · rw [Nat.zero_add, cell_of_row w _ _ cur tg (0, 0) q5]
        have hlt := getElem?_lt hj
        have : cur.toList[j]? = some u := by rw [q10, List.getElem?_append_left hlt]; exact hj
        simpa using this

theorem Yields.does (hI : Inv w0 com0 f nt G st a w) {o : Oper} (hd : ∀ d, o.dst = some d → d < nt) {s : Sem Value} (hrun : ∀ cv, s.run P w = .ok cv w → (execOp a.eval o).run P w = .ok (.value cv) w) (h : Yields P G w s K r) :
    ∃ E, K E = some r ∧ Does P w0 com0 f nt o a w (E.on o.dst st) := by
  obtain ⟨av, cv, h1, h2, h3, p, h4⟩ := h
  exact ⟨_, h1, does_val1 hI hd (hrun cv h3) h2 h4⟩

end
end Go.Ev

/-
  EVERY OPERATION: what the evaluator says of it holds.
-/
namespace Go.Ev
open Go.RowKit (Below)

section
variable {P : Program} {C : Ctx} {w0 : World} {com0 : Com} {f : Frm} {nt : Nat} {G G' : Gh} {st : St} {a : Act} {w w' : World} {R : Type} {K : Eff → Option R} {r : R}

theorem evMove_sound (hI : Inv w0 com0 f nt G st a w) {o : Oper} (hd : ∀ d, o.dst = some d → d < nt) {k : Nat} (ho : o.op = .move (.tmp k)) :
    (∀ e xs, (st.fr k).1 = .own e xs → Does P w0 com0 f nt o a w (({ val := .d (.slice e) xs, alias := some (.slot k) } : Eff).on o.dst st)) ∧
    ((st.fr k).1.isOwn = false → Does P w0 com0 f nt o a w (({ val := (st.fr k).1, alias := (st.fr k).2 } : Eff).on o.dst st)) := by
  have hrun : (execOp a.eval o).run P w = .ok (.value (a.tmps.getD k undef)) w := by simp [execOp, ho, Act.eval]
  refine ⟨fun e xs hk => ?_, fun hno => ?_⟩
  · have hown := hI.slots k
    rw [hk] at hown
    simp only [VA] at hown
    refine does_val hI hd hrun rfl (p := .slot 0 0) (by simp only [VA]; exact hown.val) (fun d q hdst hq => ?_)
    injection hq with hq
    subst hq
    rintro ⟨e', xs', _⟩
    rw [getD_set, getD_set, hI.size]
    simp only [hd d hdst, and_true, if_true]
    by_cases hkd : k = d <;> simp [hkd]
  · refine does_val hI hd hrun hno (hI.slots k) (fun d q hdst hq => ?_)
    have ha := hI.alias k q hq
    cases q with
    | slot j =>
      rintro ⟨e', xs', hj⟩
      rw [getD_set, getD_set, hI.size]
      simp only [hd d hdst, and_true, if_true]
      by_cases hjd : j = d
      · simp [hjd]
      · simp only [upd, hjd, if_false] at hj ⊢
        exact ha ⟨e', xs', hj⟩
    | leaf r off =>
      refine ⟨ha.1, fun b h1 => ?_⟩
      rw [getD_set, hI.size]
      simp only [hd d hdst, and_self, if_true]
      exact ha.2 b h1

theorem call_builtin {o : Oper} {c : Call} (ho : o.op = .call c) {b : Builtin} (hc : c.callee = .builtin b) : (execOp a.eval o).run P w = (builtin b c.argTypes o.type (c.args.map fun | .const _ => true | _ => false) (c.args.map a.eval)).run P w := by
  simp only [execOp, ho, resolve, hc, Sem.run_bind, Sem.run_pure, Result.andThen_ok, invoke]
  rfl

theorem mk_bounds {n m : Int} {b : Nat} (h0 : 0 ≤ n) (h1 : n ≤ m) (hm : m * ((b : Int) + 1) ≤ (appendMost : Nat)) : m.toNat ≤ maxLen ∧ n.toNat ≤ m.toNat := by
  have e1 : m ≤ m * ((b : Int) + 1) := by
    rw [Int.mul_add, Int.mul_one]
    have : 0 ≤ m * (b : Int) := Int.mul_nonneg (by omega) (by omega)
    omega
  have h2 : m ≤ (appendMost : Nat) := by omega
  simp only [appendMost] at h2
  simp only [maxLen]
  omega

theorem evOp_sound (hC : CtxOK P C) (hF : FnOK P C) (hI : Inv w0 com0 f nt G st a w) {o : Oper} (hd : ∀ d, o.dst = some d → d < nt) (h : evOp C o st K = some r) :
    ∃ E, K E = some r ∧ Does P w0 com0 f nt o a w (E.on o.dst st) := by
  unfold evOp at h
  split at h
  case h_1 x ho =>
    split at h
    · rename_i k
      have hm := evMove_sound (P := P) hI hd ho
      split at h
      · rename_i e xs hk
        exact ⟨_, h, hm.1 e xs hk⟩
      · rename_i av hno
        refine ⟨_, h, hm.2 ?_⟩
        cases hk : (st.fr k).1 <;> first | rfl | exact absurd hk (hno _ _)
    · rename_i x' hno
      obtain ⟨p, hp⟩ := opv_sound hI x
      refine ⟨_, h, does_val1 hI hd (cv := a.eval x) (by simp [execOp, ho]) ?_ hp⟩
      cases x <;> simp only [opv] <;> try rfl
      · exact absurd rfl (hno _)
      · rename_i v; unfold cval; split <;> rfl
  case h_2 x ho =>
    split at h
    · rename_i k
      split at h
      · rename_i e xs hk
        refine ⟨_, h, ?_⟩
        have hown := hI.slots k
        rw [hk] at hown
        simp only [VA] at hown
        exact does_own (hI.dem k) hd (cv := a.tmps.getD k undef) (by simp [execOp, ho, Act.eval]) hown rfl (by
          rintro ⟨_, hu⟩
          simp [upd, AV.dem_isOwn] at hu)
      · rename_i av hno
        refine ⟨_, h, does_val1 hI hd (cv := a.tmps.getD k undef) (by simp [execOp, ho, Act.eval]) ?_ (hI.slots k)⟩
        cases hk : (st.fr k).1 <;> first | rfl | exact absurd hk (hno _ _)
    · rename_i x' hno
      obtain ⟨p, hp⟩ := opv_sound hI x
      split at h
      · rename_i hx
        split at h
        · rename_i e hty
          rw [hx] at hp
          simp only [VA] at hp
          obtain ⟨_, _, _, hw⟩ := okTy_slice (by have := hC.ty o.type (by rw [hty]; simp); rw [hty] at this; exact this)
          exact ⟨_, h, does_own hI hd (cv := a.eval x) (by simp [execOp, ho]) (q := .leaf G.nb 0) ⟨[], .nil, hw, .inl ⟨hp, rfl⟩⟩ trivial (by
            rintro ⟨ls', h1, _⟩
            exact absurd (hI.lt h1) (Nat.lt_irrefl _))⟩
        · cases h
      · refine ⟨_, h, does_val1 hI hd (cv := a.eval x) (by simp [execOp, ho]) ?_ hp⟩
        cases x <;> simp only [opv] <;> try rfl
        · exact absurd rfl (hno _)
        · rename_i v; unfold cval; split <;> rfl
  case h_3 c x y ho =>
    split at h
    · rename_i b hc
      have hcv := val_bool (opv_d hI hc)
      split at h
      · obtain ⟨p, hp⟩ := opv_sound hI x
        exact ⟨_, h, does_val1 hI hd (cv := a.eval x) (by simp [execOp, ho, hcv, asBool]) (AV.dem_isOwn _) hp.dem⟩
      · obtain ⟨p, hp⟩ := opv_sound hI y
        exact ⟨_, h, does_val1 hI hd (cv := a.eval y) (by simp [execOp, ho, hcv, asBool]) (AV.dem_isOwn _) hp.dem⟩
    · cases h
  case h_4 t ho =>
    split at h
    · cases h
    rename_i hty
    split at h
    · split at h
      · rename_i e he
        split at h
        · rename_i ls hs
          split at h
          · rename_i hw
            have hok := hC.ty t hty
            rw [he] at hok
            exact ⟨_, h, vec_sound hI hd ho hok hw⟩
          · cases h
        · cases h
      · cases h
    · split at h
      · rename_i ls hs
        split at h
        · rename_i hw
          exact ⟨_, h, alloc_sound hI hd ho (hC.ty t hty) hs hw⟩
        · cases h
      · cases h
  case h_5 t x ho =>
    split at h
    · rename_i e xs hx
      split at h
      · rename_i k
        split at h
        · exact ⟨_, h, boxOwn_sound hI hd ho hx⟩
        · cases h
      · cases h
    · split at h
      · rename_i ls hls
        split at h
        · rename_i hw
          exact ⟨_, h, box_sound hI hd ho hls hw⟩
        · cases h
      · cases h
  case h_6 t ps ho =>
    split at h
    · rename_i hag
      split at h
      · rename_i ls hfp
        obtain ⟨v, h1, h2⟩ := build_sound hI (hC.ty t (by intro e; rw [e] at hag; cases hag)) hfp hag
        exact ⟨_, h, does_val1 hI hd (cv := v) (by simp [execOp, ho, h1]) rfl h2⟩
      · cases h
    · cases h
  case h_7 t n ps ho =>
    split at h
    · rename_i e hty
      split at h
      · rename_i hn
        split at h
        · rename_i xs hxs
          have hok := hC.ty t (by rw [hty]; simp)
          rw [hty] at hok
          obtain ⟨u, hu, he, hw⟩ := okTy_slice hok
          have hb := buildSlice_sound (P := P) hI hd hu he hw ho hn.1 hn.2 hxs
          split at h
          · exact ⟨_, h, hb.2⟩
          · exact ⟨_, h, hb.1⟩
        · cases h
      · cases h
    · cases h
  case h_8 t x ho =>
    split at h
    · cases h
    rename_i hty
    split at h
    · split at h
      · rename_i rr hx
        split at h
        · rename_i e xs has ls hb
          split at h
          · rename_i y hy
            split at h
            · rename_i he
              have hok := hC.ty t hty
              rw [he] at hok
              obtain ⟨p, hp⟩ := opv_sound hI x
              rw [hx] at hp
              simp only [VA] at hp
              obtain ⟨G', cv, k1, k2, k3⟩ := fin_sound (P := P) hI hok hb hy
              have hdo : Does P w0 com0 f nt o a w (({ val := .d (.slice e) (if has = true then xs ++ [y] else xs) } : Eff).on o.dst { st with bl := st.bl.set rr .gone }) :=
                does_more (w := w) (w' := w) hd (cv := cv) (by simp [execOp, ho, hp.2, k1]) k2 rfl (p := .slot 0 0) (by simp only [VA]; exact k3)
              exact ⟨_, h, hdo⟩
            · cases h
          · cases h
        · cases h
      · cases h
    · obtain ⟨p, hp⟩ := opv_sound hI x
      obtain ⟨av, al, cv, h1, h2, h3, ⟨q, h4⟩, h5⟩ := evLoad_sound (hC.ty t hty) hp hI.blocks (fun r b hb => hI.lt hb) h
      refine ⟨_, h1, does_val hI hd (cv := cv) (by simp [execOp, ho, h3]) h2 h4 (fun d pl hdst hpl => ?_)⟩
      rcases h5 with rfl | ⟨rr, off, rfl, k1, k2⟩
      · cases hpl
      · injection hpl with hpl
        subst hpl
        refine ⟨by rw [← hI.nb]; exact k1, fun b hb => ?_⟩
        rw [getD_set, hI.size]
        simp only [hd d hdst, and_self, if_true]
        exact k2 b hb
  case h_9 t x y ho =>
    split at h
    · cases h
    · rename_i hty
      obtain ⟨p, hp⟩ := opv_sound hI x
      obtain ⟨E, G', w', h1, h2, h3, h4, h5⟩ := evStore_sound hI (hC.ty t hty) hp h
      refine ⟨E, h1, fun next Q hn => ?_⟩
      unfold Oper.wp
      rw [show (execOp a.eval o).run P w = .ok .skip w' by simp [execOp, ho, h4], Oper.upon_skip]
      cases hdst : o.dst with
      | none => rw [hdst] at hn; exact hn _ _ _ h5
      | some d =>
        rw [hdst] at hn
        have := h5.put (hd d hdst) (av := .undef) (al := none) (cv := undef) rfl (by simp only [VA]) (fun q hq => by cases hq)
        refine hn G' _ _ ?_
        obtain ⟨val, al, dem, bupd, bnew⟩ := E
        simp only at h2 h3
        subst h2
        subst h3
        exact this
  case h_10 x ho =>
    obtain ⟨p, hp⟩ := opv_sound hI x
    split at h
    · rename_i r' off hx
      rw [hx] at hp
      have hp' := hp
      simp only [VA] at hp'
      exact ⟨_, h, does_val1 hI hd (cv := a.eval x) (by simp [execOp, ho, hp'.2]) rfl hp⟩
    · rename_i r' off i hx
      rw [hx] at hp
      have hp' := hp
      simp only [VA] at hp'
      exact ⟨_, h, does_val1 hI hd (cv := a.eval x) (by simp [execOp, ho, hp'.2.2]) rfl hp⟩
    · rename_i r' i hx
      rw [hx] at hp
      have hp' := hp
      simp only [VA] at hp'
      exact ⟨_, h, does_val1 hI hd (cv := a.eval x) (by simp [execOp, ho, hp'.2.2.2]) rfl hp⟩
    · rename_i τ y hx
      rw [hx] at hp
      have hp' := hp
      simp only [VA] at hp'
      obtain ⟨b, cs, hb, _⟩ := hp'
      exact ⟨_, h, does_val1 hI hd (cv := a.eval x) (by simp [execOp, ho, hb]) rfl hp⟩
    · rename_i g caps hx
      rw [hx] at hp
      have hp' := hp
      simp only [VA] at hp'
      obtain ⟨vs, hb, _⟩ := hp'
      exact ⟨_, h, does_val1 hI hd (cv := a.eval x) (by simp [execOp, ho, hb]) rfl hp⟩
    · rename_i rr n off hx
      rw [hx] at hp
      have hp' := hp
      simp only [VA] at hp'
      obtain ⟨_, _, g, _, hb⟩ := hp'
      exact ⟨_, h, does_val1 hI hd (cv := a.eval x) (by simp [execOp, ho, hb]) rfl hp⟩
    · cases h
  case h_11 op t x y _ ho =>
    obtain ⟨p, hp⟩ := opv_sound hI x
    obtain ⟨q, hq⟩ := opv_sound hI y
    exact (evBin_sound (hC.ty t) hp hq h x y).does hI hd (fun cv hr => by
      simp only [execOp, ho]
      simp only [Sem.run_bind] at hr ⊢
      rw [hr]
      rfl)
  case h_12 op t x ho =>
    obtain ⟨p, hp⟩ := opv_sound hI x
    exact (evUn_sound hp h).does hI hd (fun cv hr => by simp [execOp, ho, hr])
  case h_13 s t x ho =>
    obtain ⟨p, hp⟩ := opv_sound hI x
    split at h
    · rename_i ks kt k n hs ht hx
      rw [hx] at hp
      simp only [VA] at hp
      have hv := val_int hp
      have hus := okTy_int (by have := hC.ty s (by rw [hs]; simp); rw [hs] at this; exact this)
      have hut := okTy_int (by have := hC.ty t (by rw [ht]; simp); rw [ht] at this; exact this)
      refine ⟨_, h, does_val1 hI hd (cv := .int kt (kt.wrap n)) (p := .slot 0 0) ?_ rfl (by simp only [VA]; exact Val.int)⟩
      simp [execOp, ho, hv, convert, run_underlying hus, run_underlying hut, Conv.intToInt]
    · rename_i y hs ht hx
      rw [hx] at hp
      have hp' := hp
      simp only [VA] at hp
      have hv := val_str hp
      have hus := okTy_str (by have := hC.ty s (by rw [hs]; simp); rw [hs] at this; exact this)
      have hut := okTy_str (by have := hC.ty t (by rw [ht]; simp); rw [ht] at this; exact this)
      refine ⟨_, h, does_val1 hI hd (cv := a.eval x) ?_ rfl hp'⟩
      simp [execOp, ho, hv, convert, run_underlying hus, run_underlying hut]
    · cases h
  case h_14 t l c ho =>
    split at h
    · rename_i e hty
      split at h
      · rename_i kn n km m hn hm
        split at h
        · rename_i hr
          split at h
          · rename_i hb
            have hok := hC.ty t (by rw [hty]; simp)
            rw [hty] at hok
            obtain ⟨u, hu, he, hw⟩ := okTy_slice hok
            obtain ⟨u', i, hu', hi, hbytes⟩ := hC.bytes t e hty
            have : u' = u := by rw [hu] at hu'; injection hu' with h; injection h with h; exact h.symm
            subst this
            have hnv := val_int (opv_d hI hn)
            have hmv := val_int (opv_d hI hm)
            obtain ⟨hb1, hb2, hb3⟩ := hb
            rw [← hbytes] at hb3
            obtain ⟨cs, es, k1, k2, k3, k4, k5, zl, k6, k7⟩ := makeSlice_run (P := P) (w := w) (kn := kn) (km := km) hu hi he hw hr hb1 hb2 hb3 G.com
            obtain ⟨hml, hnm⟩ := mk_bounds hb1 hb2 hb3
            have hlen : (List.replicate n.toNat e.zero).length = n.toNat := by simp
            split at h
            · split at h
              · rename_i hnm'
                subst hnm'
                refine ⟨_, h, does_arr hI hd (t := u') (cs := cs) hw ?_ ?_ (by rw [hlen]; exact hml)⟩
                · rw [hlen]
                  simp only [execOp, ho, Sem.run_bind, hnv, hmv, k1, Result.andThen_ok, Sem.run_pure]
                · have : cs.toList = es := by
                    rw [← k3, List.take_of_length_le (by rw [Array.length_toList, k2]; exact Nat.le_refl _)]
                  rw [this]
                  exact k5
              · cases h
            split at h
            · split at h
              · rename_i e2
                split at h
                · rename_i hnm'
                  obtain ⟨hnm', hw2⟩ := hnm'
                  subst hnm'
                  have hes : cs.toList = es := by
                    rw [← k3, List.take_of_length_le (by rw [Array.length_toList, k2]; exact Nat.le_refl _)]
                  have hz1 : zl = [.slice none 0 0] := by
                    simp only [zc] at k6
                    split at k6
                    · split at k6
                      · rename_i h0; obtain ⟨rfl, rfl⟩ := h0; cases k6; rfl
                      · cases k6
                    · cases k6
                  have hcs : cs.toList = List.replicate n.toNat (.slice none 0 0) := by
                    rw [hes, k7, hz1]
                    induction n.toNat with
                    | zero => rfl
                    | succ m ih => rw [List.replicate_succ, List.replicate_succ, List.flatten_cons, ih]; rfl
                  refine ⟨_, h, does_mat hI hd (t := u') (cs := cs) hw2 ?_ (by rw [k2]; simp [Ty.width]) (fun i v hv => ?_) hml⟩
                  · simp only [execOp, ho, Sem.run_bind, hnv, hmv, k1, Result.andThen_ok, Sem.run_pure]
                  · have hv' : cs.toList[i]? = some v := by simpa using hv
                    rw [hcs, List.getElem?_replicate] at hv'
                    split at hv'
                    · cases hv'; rfl
                    · cases hv'
                · cases h
              · cases h
            · refine ⟨_, h, does_fresh hI hd (t := u') (cs := cs) (cap := m.toNat) hw ?_ k5 (by rw [hlen]; exact hnm) hml k2 (by rw [k4]; exact k3)⟩
              rw [hlen]
              simp only [execOp, ho, Sem.run_bind, hnv, hmv, k1, Result.andThen_ok, Sem.run_pure]
          · cases h
        · cases h
      · cases h
    · cases h
  case h_15 t x lo hi ho =>
    split at h
    · cases h
    · rename_i hty
      obtain ⟨p, hp⟩ := opv_sound hI x
      exact (evSlice_sound hI (hC.ty t hty) hp.dem h).does hI hd (fun cv hr => by simp [execOp, ho, hr])
  case h_16 t x i ho =>
    split at h
    · rename_i pt hty
      have hok := hC.ty t (by rw [hty]; simp)
      rw [hty] at hok
      split at h
      · rename_i s hs
        obtain ⟨p, hp⟩ := opv_sound hI x
        split at h
        · rename_i rr off hx
          rw [hx] at hp
          simp only [VA] at hp
          refine ⟨_, h, does_val1 hI hd (cv := .pointer (some ⟨G.loc rr, off + s.off, none⟩)) (p := .slot 0 0) ?_ rfl (by simp only [VA]; exact ⟨hp.1, trivial⟩)⟩
          have := run_fieldAt (P := P) hok hs (a := ⟨G.loc rr, off, none⟩) rfl w
          simp [execOp, ho, hp.2, this]
        · rename_i rr n off hx
          rw [hx] at hp
          simp only [VA] at hp
          obtain ⟨h1, h2, g, h3, h4⟩ := hp
          refine ⟨_, h, does_val1 hI hd (cv := .pointer (some ⟨g, n.toNat * G.rwd rr + (off + s.off), none⟩)) (p := .slot 0 0) ?_ rfl (by simp only [VA]; exact ⟨h1, h2, g, h3, rfl⟩)⟩
          have := run_fieldAt (P := P) hok hs (a := ⟨g, n.toNat * G.rwd rr + off, none⟩) rfl w
          rw [← Nat.add_assoc]
          simp [execOp, ho, h4, this]
        · rename_i τ v hx
          split at h
          · rename_i e1
            subst e1
            rw [hx] at hp
            simp only [VA] at hp
            obtain ⟨b, cs, h1, h2, h3, h4⟩ := hp
            have h3' : Cells G.com w pt cs v := by simpa only [Cells] using h3
            obtain ⟨h5, h6⟩ := sub_cells hs h3'
            refine ⟨_, h, does_val1 hI hd (cv := .pointer (some ⟨b.block, b.off + s.off, none⟩)) (p := .slot 0 0) ?_ rfl (by
              simp only [VA]
              exact ⟨_, _, rfl, rfl, h5, h4.sub s.off s.τ.width⟩)⟩
            have := run_fieldAt (P := P) hok hs (a := b) h2 w
            simp [execOp, ho, h1, this]
          · cases h
        · cases h
      · cases h
    · cases h
  case h_17 t x i ho =>
    split at h
    · rename_i pt hty
      have hok := hC.ty t (by rw [hty]; simp)
      rw [hty] at hok
      split at h
      · rename_i s hs
        split at h
        · rename_i v hv
          obtain ⟨p, hp⟩ := opv_sound hI x
          have hval := to_sound hp hv
          have hag := agg_of_isAgg hval.2
          obtain ⟨fs, hu, hf⟩ := okTy_agg' hok
          obtain ⟨fd, h1, h2, h3, h4⟩ := okFs_sub hf hs
          have h1' : fs[i]? = some fd := by simpa using h1
          have hc' : Cells G.com w pt (a.eval x).cells.toList v := by simpa only [Cells] using hval.1
          obtain ⟨h5, h6⟩ := sub_cells hs hc'
          rw [Array.length_toList] at h6
          obtain ⟨cv, k1, k2⟩ := run_part h4 h3 h6 h5
          rw [Nat.zero_add] at h2
          refine ⟨_, h, does_val1 hI hd (cv := cv) (p := .slot 0 0) ?_ rfl (by simp only [VA]; exact k2)⟩
          rw [← h2] at k1
          have hasg : (asAgg (a.eval x)).run P w = .ok (a.eval x).cells w := by rw [hag]; rfl
          simp [execOp, ho, Instr.field, run_underlying hu, h1', hasg, k1]
        · cases h
      · cases h
    · cases h
  case h_18 t x i ho =>
    obtain ⟨p, hp⟩ := opv_sound hI x
    obtain ⟨q, hq⟩ := opv_sound hI i
    exact (evIndexAddr_sound (hC.ty t) hp hq hI.blocks h).does hI hd (fun cv hr => by simp [execOp, ho, hr])
  case h_19 t x i ho =>
    obtain ⟨p, hp⟩ := opv_sound hI x
    obtain ⟨q, hq⟩ := opv_sound hI i
    exact (evIndex_sound (hC.ty t) hp hq h).does hI hd (fun cv hr => by simp [execOp, ho, hr])
  case h_20 x i ho =>
    split at h
    · rename_i l hx
      split at h
      · rename_i av hav
        obtain ⟨p, hp⟩ := opv_sound hI x
        rw [hx] at hp
        simp only [VA] at hp
        obtain ⟨vs, h1, h2⟩ := hp
        obtain ⟨v, k1, k2, k3⟩ := h2.get hav
        exact ⟨_, h, does_val1 hI hd (cv := v) (by simp [execOp, ho, h1, Instr.extract, k1]) k2 k3⟩
      · cases h
    · cases h
  case h_21 fid first caps ho =>
    split at h
    · rename_i hf
      have : first = #[] := Array.eq_empty_of_size_eq_zero hf
      subst this
      refine ⟨_, h, does_val1 hI hd (cv := .func (.func fid) #[] (caps.map a.eval)) (p := .slot 0 0) (by simp [execOp, ho, Instr.makeFunc]) rfl ?_⟩
      simp only [VA]
      exact ⟨caps.toList.map a.eval, by congr 1; apply Array.ext'; simp, opv_ta hI _ _⟩
    · cases h
  case h_22 c ho =>
    split at h
    · rename_i b hc
      split at h
      · rename_i x hargs
        split at h
        · rename_i hsz
          have hat := size1 (d := 0) hsz
          have har : c.args = #[x] := by rw [← hargs]
          obtain ⟨p, hp⟩ := opv_sound hI x
          exact (evLen_sound (ty := o.type) (hC.ty _) hp hI.blocks h).does hI hd (fun cv hr => by
            rw [← hat] at hr
            rw [call_builtin ho hc]
            simp [builtin, har, hr])
        · cases h
      · rename_i x y hargs
        split at h
        · rename_i hts
          exact evAppend_sound hC hI hd ho hc hargs hts h
        · cases h
      · rename_i x y hargs
        have har : c.args = #[x, y] := by rw [← hargs]
        split at h
        · rename_i k n k' m hx hy
          split at h
          · rename_i hk
            subst hk
            have h1 := val_int (opv_d hI hx)
            have h2 := val_int (opv_d hI hy)
            refine ⟨_, h, does_val1 hI hd (cv := .int k (if m < n then m else n)) (p := .slot 0 0) ?_ rfl (by simp only [VA]; exact Val.int)⟩
            rw [call_builtin ho hc]
            simp [builtin, har, Builtin.min_, h1, h2, Builtin.min2]
          · cases h
        · cases h
      · rename_i x y hargs
        have har : c.args = #[x, y] := by rw [← hargs]
        split at h
        · rename_i k n k' m hx hy
          split at h
          · rename_i hk
            subst hk
            have h1 := val_int (opv_d hI hx)
            have h2 := val_int (opv_d hI hy)
            refine ⟨_, h, does_val1 hI hd (cv := .int k (if n < m then m else n)) (p := .slot 0 0) ?_ rfl (by simp only [VA]; exact Val.int)⟩
            rw [call_builtin ho hc]
            simp [builtin, har, Builtin.max_, h1, h2, Builtin.max2]
          · cases h
        · cases h
      · cases h
    · rename_i x hc
      split at h
      · rename_i fid caps hf
        split at h
        · rename_i τ rs g hfn
          split at h
          · split at h
            · rename_i y hy
              cases hz : g y with
              | none => rw [hz] at h; cases h
              | some z =>
                rw [hz] at h
                exact ⟨_, h, pure_sound hI hd ho hc hf (hF.pure _ _ _ _ hfn) hy hz⟩
            · cases h
          · cases h
        · rename_i S O g hfn
          split at h
          · rename_i hl
            split at h
            · rename_i xa hxa
              split at h
              · rename_i xb hxb
                obtain ⟨z, hz, h⟩ := Option.bind_eq_some_iff.1 h
                exact ⟨_, h, inl_sound hI hd ho hc hf (hF.inl _ _ _ _ hfn) hl hxa hxb hz⟩
              · cases h
            · cases h
          · cases h
        · cases h
      · cases h
    · cases h
  case h_23 => cases h

end
end Go.Ev

/-
  WHAT AN OPERATION READS; and that what follows it changes nothing of it.
-/
namespace Go.Ev

section
variable {C : Ctx} {st st' : St} {R : Type} (K : Eff → Option R)

theorem evUn_bind (op : UnOp) (x : AV) : evUn op x K = (evUn op x some).bind K := by
  unfold evUn; split <;> rfl
theorem ite_bind {α β : Type} {c : Prop} [Decidable c] {x y : Option α} {f : α → Option β} : (if c then x else y).bind f = if c then x.bind f else y.bind f := by split <;> rfl
theorem evLen_bind (τ : Ty) (bl : List Blk) (x : AV) : evLen τ bl x K = (evLen τ bl x some).bind K := by
  unfold evLen
  repeat' (first | rfl | (rw [Option.bind_assoc]; rfl) | split)
theorem evIndexAddr_bind (τ : Ty) (bl : List Blk) (x i : AV) : evIndexAddr τ bl x i K = (evIndexAddr τ bl x i some).bind K := by
  unfold evIndexAddr
  repeat' (first | rfl | (rw [Option.bind_assoc]; congr 1; funext xs; rw [ite_bind]; rfl) | split)
theorem evIndex_bind (τ : Ty) (x i : AV) : evIndex τ x i K = (evIndex τ x i some).bind K := by
  unfold evIndex
  repeat' (first | rfl | split)
theorem evLoad_bind (τ : Ty) (bl : List Blk) (x : AV) : evLoad τ bl x K = (evLoad τ bl x some).bind K := by
  unfold evLoad
  repeat' (first | rfl | (rw [Option.bind_assoc]; rfl) | split)
theorem evStore_bind (τ : Ty) (bl : List Blk) (x y : AV) (o : Operand) : evStore τ bl x y o K = (evStore τ bl x y o some).bind K := by
  unfold evStore
  repeat' (first | rfl | (rw [Option.bind_assoc]; rfl) | split)
theorem evSlice_bind (τ : Ty) (x : AV) (lo hi : Option AV) : evSlice τ x lo hi K = (evSlice τ x lo hi some).bind K := by
  unfold evSlice
  repeat' (first | rfl | split)
theorem evAppend_bind (τ : Ty) (n : Nat) (x y : Operand) : evAppend τ n st x y K = (evAppend τ n st x y some).bind K := by
  unfold evAppend
  repeat' (first | rfl | split)
theorem evBin_bind (τ : Ty) (op : BinOp) (x y : AV) : evBin τ op x y K = (evBin τ op x y some).bind K := by
  unfold evBin
  split
  · cases op <;> simp only <;> repeat' (first | rfl | split)
  · cases op <;> simp only <;> repeat' (first | rfl | split)
  · cases op <;> simp only <;> repeat' (first | rfl | split)
  · rfl

theorem evOp_bind (o : Oper) : evOp C o st K = (evOp C o st some).bind K := by
  unfold evOp
  cases o.op <;> simp only
  case binOp => exact evBin_bind K _ _ _ _
  case unOp => exact evUn_bind K _ _
  case load => split; · rfl
               · repeat' (first | rfl | exact evLoad_bind K _ _ _ | split)
  case store => split; · rfl
                · exact evStore_bind K _ _ _ _ _
  case slice t x lo hi mx =>
    cases mx <;> simp only
    · split
      · rfl
      · exact evSlice_bind K _ _ _ _
    · rfl
  case indexAddr => exact evIndexAddr_bind K _ _ _ _
  case index => exact evIndex_bind K _ _ _
  case call c =>
    split
    · rename_i b _
      split
      · split
        · exact evLen_bind K _ _ _
        · rfl
      · split
        · exact evAppend_bind K _ _ _ _
        · rfl
      · repeat' (first | rfl | split)
      · repeat' (first | rfl | split)
      · rfl
    · repeat' (first | rfl | (rw [Option.bind_assoc]; rfl) | split)
    · rfl
  case makeFunc fn first caps => cases fn <;> simp only <;> repeat' (first | rfl | split)
  all_goals repeat' (first | rfl | split)

theorem onCalm_bind {R' : Type} (K : AV × Option Place → Option R') : onCalm K = fun E => (onCalm some E).bind K := by
  funext E
  unfold onCalm
  cases E.calm <;> rfl

/-! ### What is read -/

def Agree (L : List Nat) (st st' : St) : Prop := st.bl = st'.bl ∧ ∀ k ∈ L, st.fr k = st'.fr k

def tmpsOf (l : List Operand) : List Nat := l.filterMap fun
  | .tmp t => some t
  | _ => none

theorem opv_agree {l : List Operand} (h : Agree (tmpsOf l) st st') {x : Operand} (hx : x ∈ l) : opv st x = opv st' x := by
  cases x with
  | tmp k =>
    have : k ∈ tmpsOf l := List.mem_filterMap.2 ⟨_, hx, rfl⟩
    simp only [opv, h.2 k this]
  | _ => rfl

theorem fr_agree {l : List Operand} (h : Agree (tmpsOf l) st st') {k : Nat} (hx : Operand.tmp k ∈ l) : st.fr k = st'.fr k :=
  h.2 k (List.mem_filterMap.2 ⟨_, hx, rfl⟩)

theorem map_agree {α : Type} {g : AV → α} {l l' : List Operand} (h : Agree (tmpsOf l) st st') (hl : ∀ x ∈ l', x ∈ l) : l'.map (fun x => g (opv st x)) = l'.map (fun x => g (opv st' x)) :=
  List.map_congr_left fun x hx => by rw [opv_agree h (hl x hx)]

theorem parts_agree {e : Ty} {L : List Operand} (h : Agree (tmpsOf L) st st') : ∀ (l : List (Nat × Operand)) (n : Nat), (∀ x ∈ l, x.2 ∈ L) → parts e st n l = parts e st' n l
  | [], _, _ => rfl
  | (i, o) :: l, n, hl => by
    simp only [parts]
    rw [opv_agree h (hl (i, o) (by simp)), parts_agree h l (n + 1) (fun x hx => hl x (by simp [hx]))]

theorem fillParts_agree {τ : Ty} {L : List Operand} (h : Agree (tmpsOf L) st st') : ∀ (l : List (Nat × Operand)) (ls : List AV), (∀ x ∈ l, x.2 ∈ L) → fillParts τ st l ls = fillParts τ st' l ls
  | [], _, _ => rfl
  | (i, o) :: l, ls, hl => by
    have ih : fillParts τ st l = fillParts τ st' l := funext fun ls => fillParts_agree h l ls (fun x hx => hl x (by simp [hx]))
    simp only [fillParts]
    rw [opv_agree h (hl (i, o) (by simp)), ih]

theorem evAppend_calm {R' : Type} {K : AV × Option Place → Option R'} {τ : Ty} {n : Nat} {x y : Operand} : evAppend τ n st x y (onCalm K) = none := by
  unfold evAppend
  repeat' (first | rfl | split)

theorem evOp_agreeK {R' : Type} {K : Eff → Option R'} {o : Oper} (h : Agree (tmpsOf o.op.operands.toList) st st') (hA : ∀ c x y τ n, o.op = .call c → c.callee = .builtin .append → c.args.toList = [x, y] → evAppend τ n st x y K = evAppend τ n st' x y K) : evOp C o st K = evOp C o st' K := by
  have e := fun x (hx : x ∈ o.op.operands.toList) => opv_agree h hx
  have ek := fun k (hx : Operand.tmp k ∈ o.op.operands.toList) => fr_agree h hx
  have hbl := h.1
  unfold evOp
  cases hop : o.op <;> simp only [hop] at e ek h hA ⊢
  case move x =>
    cases x <;> simp only
    · rw [ek _ (by simp [Op.operands])]
    all_goals rw [e _ (by simp [Op.operands])]
  case assign x =>
    cases x <;> simp only
    · rw [ek _ (by simp [Op.operands])]
    all_goals rw [e _ (by simp [Op.operands])]
  case pick c x y => rw [e c (by simp [Op.operands]), e x (by simp [Op.operands]), e y (by simp [Op.operands])]
  case alloc t => rw [hbl]
  case box t x => rw [e x (by simp [Op.operands]), hbl]
  case build t ps => rw [fillParts_agree h _ _ (fun x hx => by simp [Op.operands]; exact ⟨x.1, by simpa using hx⟩)]
  case buildSlice t n ps =>
    rw [hbl]
    split
    · rw [parts_agree h _ _ (fun x hx => by simp [Op.operands]; exact ⟨x.1, by simpa using hx⟩)]
    · rfl
  case load t x => rw [e x (by simp [Op.operands]), hbl]
  case store t x y => rw [e x (by simp [Op.operands]), e y (by simp [Op.operands]), hbl]
  case nilCheck x => rw [e x (by simp [Op.operands])]
  case binOp op t x y _ => rw [e x (by simp [Op.operands]), e y (by simp [Op.operands])]
  case unOp op t x => rw [e x (by simp [Op.operands])]
  case convert s t x => rw [e x (by simp [Op.operands])]
  case makeSlice t x y => rw [e x (by simp [Op.operands]), e y (by simp [Op.operands]), hbl]
  case slice t x lo hi mx =>
    cases mx with
    | some _ => rfl
    | none =>
      simp only
      have e1 : lo.map (opv st) = lo.map (opv st') := by
        cases lo with
        | none => rfl
        | some y => simp only [Option.map_some]; rw [e y (by simp [Op.operands])]
      have e2 : hi.map (opv st) = hi.map (opv st') := by
        cases hi with
        | none => rfl
        | some y => simp only [Option.map_some]; rw [e y (by simp [Op.operands])]
      rw [e x (by simp [Op.operands]), e1, e2]
  case fieldAddr t x i => rw [e x (by simp [Op.operands])]
  case field t x i => rw [e x (by simp [Op.operands])]
  case indexAddr t x y => rw [e x (by simp [Op.operands]), e y (by simp [Op.operands]), hbl]
  case index t x y => rw [e x (by simp [Op.operands]), e y (by simp [Op.operands])]
  case extract x i => rw [e x (by simp [Op.operands])]
  case makeFunc fn first caps =>
    cases fn <;> simp only
    rw [map_agree (g := AV.dem) h (fun x hx => by simp [Op.operands]; exact .inr (by simpa using hx))]
  case call c =>
    split
    · rename_i b hc
      split
      · rename_i x hargs
        have : x ∈ (Op.call c).operands.toList := by
          simp [Op.operands, Call.operands, hc, hargs]
        rw [e x this, hbl]
      · rename_i x y hargs
        split
        · exact hA c x y _ _ rfl hc hargs
        · rfl
      · rename_i x y hargs
        rw [e x (by simp [Op.operands, Call.operands, hc, hargs]), e y (by simp [Op.operands, Call.operands, hc, hargs])]
      · rename_i x y hargs
        rw [e x (by simp [Op.operands, Call.operands, hc, hargs]), e y (by simp [Op.operands, Call.operands, hc, hargs])]
      · rfl
    · rename_i x hc
      rw [e x (by simp [Op.operands, Call.operands, hc])]
      have ea : ∀ y ∈ c.args.toList, opv st y = opv st' y := fun y hy => e y (by
        simp only [Op.operands, Call.operands, hc, Array.toList_append]
        exact List.mem_append.2 (.inr hy))
      have e2 : c.args.toList.map (opv st) = c.args.toList.map (opv st') := List.map_congr_left ea
      have e3 : c.args.toList.map (fun x => (opv st x).dem) = c.args.toList.map (fun x => (opv st' x).dem) := List.map_congr_left fun y hy => by rw [ea y hy]
      rw [e2, e3, hbl]
    · rfl

theorem evOp_agree {R' : Type} {K : AV × Option Place → Option R'} {o : Oper} (h : Agree (tmpsOf o.op.operands.toList) st st') : evOp C o st (onCalm K) = evOp C o st' (onCalm K) :=
  evOp_agreeK h fun _ _ _ _ _ _ _ _ => by rw [evAppend_calm, evAppend_calm]

end
end Go.Ev

/-
  A REGION'S OPERATIONS, IN WHATEVER ORDER.
-/
namespace Go.Ev
open Go.RowKit (Below)

def step (C : Ctx) (ops : Array Oper) (m i : Nat) (o : Oper) (st : St) : Option St := if still m i = true then evStepS o st some else if m.testBit i = true then evStepQ C ops o st some else evStep C ops o st some

/-- Does it yield a value alone? -/
def mild (m i : Nat) : Bool := still m i || m.testBit i

def resQ (C : Ctx) (ops : Array Oper) (o : Oper) (st : St) : Option (AV × Option Place) :=
  match o.guard with
  | none => evOp C o st (onCalm some)
  | some (j, want) => match (ops[j]?).bind (·.dst) with
    | none => none
    | some k => match st.fr k with
      | (.d .bool b, _) => if b = want then evOp C o st (onCalm some) else some (.tup [], none)
      | (.tup [], _) => some (.tup [], none)
      | _ => none

section
variable {C : Ctx} {ops : Array Oper} {st st' : St} {R : Type}

theorem upd_same {α : Type} {g : Nat → α} {k : Nat} {v : α} (h : g k = v) : upd g k v = g := by
  funext j
  unfold upd
  split
  · rename_i e; rw [e, h]
  · rfl

theorem evOp_onCalm (o : Oper) (K : AV × Option Place → Option R) : evOp C o st (onCalm K) = (evOp C o st (onCalm some)).bind K := by
  rw [evOp_bind (onCalm K), evOp_bind (onCalm some), onCalm_bind K, Option.bind_assoc]

theorem evStepQ_eq (o : Oper) (K : St → Option R) : evStepQ C ops o st K = (resQ C ops o st).bind fun x => K (st.put o.dst x) := by
  cases hg : o.guard with
  | none => simp only [evStepQ, resQ, hg]; rw [evOp_onCalm]
  | some p =>
    obtain ⟨j, want⟩ := p
    simp only [evStepQ, resQ, hg]
    cases hk : (ops[j]?).bind (·.dst) with
    | none => rfl
    | some k =>
      simp only
      rcases hb : st.fr k with ⟨av, al⟩
      cases av <;> try rfl
      case tup ls => cases ls <;> rfl
      rename_i τ b
      cases τ <;> try rfl
      simp only
      split
      · rename_i e
        subst e
        rw [evOp_onCalm, upd_same hb]
      · rename_i e
        have : (!want) = b := (Bool.eq_not.2 e).symm
        rw [this, upd_same hb]
        rfl

theorem evStep_bind (o : Oper) (K : St → Option R) : evStep C ops o st K = (evStep C ops o st some).bind K := by
  cases hg : o.guard with
  | none =>
    simp only [evStep, hg]
    rw [evOp_bind (fun E => K (E.on o.dst st)), evOp_bind (fun E => some (E.on o.dst st)), Option.bind_assoc]
    rfl
  | some p =>
    obtain ⟨j, want⟩ := p
    simp only [evStep, hg]
    cases hk : (ops[j]?).bind (·.dst) with
    | none => rfl
    | some k =>
      simp only
      rcases hb : st.fr k with ⟨av, al⟩
      cases av <;> try rfl
      case tup ls => cases ls <;> rfl
      rename_i τ b
      cases τ <;> try rfl
      simp only
      split
      · rw [evOp_bind (fun E => K (E.on o.dst { st with fr := upd st.fr k (.d .bool want, al) })), evOp_bind (fun E => some (E.on o.dst { st with fr := upd st.fr k (.d .bool want, al) })), Option.bind_assoc]
        rfl
      · rfl

theorem evOps_cons (m i : Nat) (o : Oper) (l : List Oper) (K : St → Option R) : evOps C ops m i (o :: l) st K = (step C ops m i o st).bind fun st => evOps C ops m (i + 1) l st K := by
  simp only [evOps, step]
  split
  · unfold evStepS
    split <;> rfl
  split
  · rw [evStepQ_eq, evStepQ_eq, Option.bind_assoc]
    rfl
  · rw [evStep_bind]

theorem looks_ops {o : Oper} {k : Nat} (h : k ∈ tmpsOf o.op.operands.toList) : k ∈ o.looksAt ops := by
  unfold Oper.looksAt
  refine List.mem_append.2 (.inl ?_)
  unfold tmpsOf at h
  exact h

theorem resQ_agree {o : Oper} (h : Agree (o.looksAt ops) st st') : resQ C ops o st = resQ C ops o st' := by
  have h1 : Agree (tmpsOf o.op.operands.toList) st st' := ⟨h.1, fun k hk => h.2 k (looks_ops hk)⟩
  unfold resQ
  split
  · rw [evOp_agree h1]
  · rename_i j want hg
    split
    · rfl
    · rename_i k hk
      have : k ∈ o.looksAt ops := by
        unfold Oper.looksAt
        refine List.mem_append.2 (.inr ?_)
        simp [hg, hk]
      rw [h.2 k this, evOp_agree h1]

theorem put_agree {L : List Nat} {dst : Option Nat} {x : AV × Option Place} (h : ∀ d, dst = some d → d ∉ L) : Agree L st (st.put dst x) := by
  cases dst with
  | none => exact ⟨rfl, fun _ _ => rfl⟩
  | some d =>
    refine ⟨rfl, fun k hk => ?_⟩
    have : k ≠ d := fun e => h d rfl (e ▸ hk)
    simp [St.put, upd, this]

theorem put_comm {d1 d2 : Option Nat} {x y : AV × Option Place} (h : ∀ d, d1 = some d → d2 ≠ some d) : (st.put d1 x).put d2 y = (st.put d2 y).put d1 x := by
  cases d1 <;> cases d2 <;> try rfl
  rename_i a b
  have hab : a ≠ b := fun e => h a rfl (by rw [e])
  simp only [St.put]
  congr 1
  funext j
  simp only [upd]
  by_cases h1 : j = a <;> by_cases h2 : j = b <;> simp [h1, h2]
  · subst h1; exact absurd h2 hab
  · subst h1; simp [hab]
  · subst h2; simp [Ne.symm hab]

def resZ (C : Ctx) (ops : Array Oper) (m i : Nat) (o : Oper) (st : St) : Option (AV × Option Place) := if still m i = true then resS o st else resQ C ops o st

theorem step_mild {m i : Nat} {o : Oper} (h : mild m i = true) : step C ops m i o st = (resZ C ops m i o st).bind fun x => some (st.put o.dst x) := by
  unfold step resZ
  split
  · unfold evStepS
    split
    · rename_i x hx; rw [hx]; rfl
    · rename_i hx; rw [hx]; rfl
  · rename_i hs
    have : m.testBit i = true := by
      unfold mild at h
      cases hm : m.testBit i with
      | true => rfl
      | false => rw [hm] at h; simp at h; exact absurd h hs
    rw [if_pos this, evStepQ_eq]

theorem resS_agree {o : Oper} (h : Agree (o.looksAt ops) st st') : resS o st = resS o st' := by
  unfold resS
  split
  · rename_i k hg hop
    rw [h.2 k (looks_ops (by rw [hop]; simp [Op.operands, tmpsOf]))]
  · rfl

theorem resZ_agree {m i : Nat} {o : Oper} (h : Agree (o.looksAt ops) st st') : resZ C ops m i o st = resZ C ops m i o st' := by
  unfold resZ
  split
  · exact resS_agree h
  · exact resQ_agree h

theorem evAppend_put {τ : Ty} {n : Nat} {x y : Operand} {di : Nat} {v : AV} (hv : v.isOwn = false) (hx : x ≠ .tmp di) (hy : y ≠ .tmp di) {E : Eff} (h : evAppend τ n (st.put (some di) (v, none)) x y some = some E) : evAppend τ n st x y some = some E := by
  have e1 : opv (st.put (some di) (v, none)) y = opv st y := by
    cases y with
    | tmp k =>
      have : k ≠ di := fun e => hy (by rw [e])
      simp [opv, St.put, upd, this]
    | _ => rfl
  cases x with
  | tmp k =>
    have hk : k ≠ di := fun e => hx (by rw [e])
    have e2 : (st.put (some di) (v, none)).fr k = st.fr k := by simp [St.put, upd, hk]
    have e3 : (st.put (some di) (v, none)).bl = st.bl := rfl
    unfold evAppend at h ⊢
    simp only [e1, e2, e3] at h ⊢
    split at h
    · exact h
    · rename_i av j hno hk'
      by_cases hj : j = di
      · subst hj
        have : ((st.put (some j) (v, none)).fr j).1 = v := by simp [St.put, upd]
        rw [this] at h
        cases v <;> first | cases h | cases hv
      · have : (st.put (some di) (v, none)).fr j = st.fr j := by simp [St.put, upd, hj]
        rw [this] at h
        exact h
    · exact h
    · cases h
  | _ => unfold evAppend at h; cases h

/-- What an operation does goes by nothing that it does not look at. -/
theorem evOp_put {o : Oper} {di : Nat} {v : AV} (hv : v.isOwn = false) (hr : di ∉ o.looksAt ops) {E : Eff} (h : evOp C o (st.put (some di) (v, none)) some = some E) : evOp C o st some = some E := by
  have hr' : di ∉ tmpsOf o.op.operands.toList := fun hk => hr (looks_ops hk)
  have hag : Agree (tmpsOf o.op.operands.toList) st (st.put (some di) (v, none)) := put_agree (dst := some di) (fun d hd hm => by cases hd; exact hr' hm)
  by_cases hap : ∃ c, o.op = .call c ∧ c.callee = .builtin .append
  · obtain ⟨c, hop, hc⟩ := hap
    unfold evOp at h ⊢
    rw [hop] at h ⊢
    simp only [hc] at h ⊢
    split at h
    · rename_i hb _; cases hb
    · rename_i x y hb hargs
      split at h
      · rename_i hts
        rw [if_pos hts]
        refine evAppend_put hv ?_ ?_ h
        · intro e
          refine hr' ?_
          rw [hop]
          refine List.mem_filterMap.2 ⟨.tmp di, ?_, rfl⟩
          simp [Op.operands, Call.operands, hc, hargs, e]
        · intro e
          refine hr' ?_
          rw [hop]
          refine List.mem_filterMap.2 ⟨.tmp di, ?_, rfl⟩
          simp [Op.operands, Call.operands, hc, hargs, e]
      · cases h
    · rename_i hb _; cases hb
    · rename_i hb _; cases hb
    · cases h
  · rw [evOp_agreeK hag (fun c x y τ n hop hc _ => absurd ⟨c, hop, hc⟩ hap)]
    exact h

theorem dem_dem (a : AV) : a.dem.dem = a.dem := by cases a <;> rfl

/-- A change of a frame with which a copy of slot k, laid in slot d, changes places. -/
def Com1 (d k : Nat) (M : (Nat → AV × Option Place) → Nat → AV × Option Place) : Prop := ∀ f, M (upd f d ((f k).1.dem, none)) = upd (M f) d (((M f) k).1.dem, none)

theorem Com1.comp {d k : Nat} {M M' : (Nat → AV × Option Place) → Nat → AV × Option Place} (h : Com1 d k M) (h' : Com1 d k M') : Com1 d k fun f => M' (M f) := fun f => by
  show M' (M (upd f d ((f k).1.dem, none))) = _
  rw [h f, h' (M f)]

theorem com1_id {d k : Nat} : Com1 d k fun f => f := fun _ => rfl

theorem com1_dem {d k q : Nat} : Com1 d k fun f => upd f q ((f q).1.dem, (f q).2) := fun f => by
  funext j
  simp only [upd]
  by_cases h1 : j = d
  · subst h1
    by_cases h2 : j = q
    · subst h2
      simp only [if_true]
      by_cases h3 : k = j
      · subst h3; simp only [if_true, dem_dem]
      · simp only [if_neg h3, dem_dem]
    · simp only [if_true, if_neg h2]
      by_cases h3 : k = q
      · subst h3; simp only [if_true, dem_dem]
      · simp only [if_neg h3]
  · simp only [if_neg h1]
    by_cases h2 : j = q
    · subst h2; simp only [if_true, if_neg h1]
    · simp only [if_neg h2]

theorem clrB_fst (r : Nat) (x : AV × Option Place) : (Ev.clrB r x).1 = x.1 := by unfold Ev.clrB; split <;> (try split) <;> rfl
theorem clr1_fst (p : Place) (x : AV × Option Place) : (clr1 p x).1 = x.1 := by unfold clr1; split <;> rfl

theorem com1_clrB {d k r : Nat} : Com1 d k fun f j => Ev.clrB r (f j) := fun f => by
  funext j
  simp only [upd]
  split
  · rw [clrB_fst]; rfl
  · rfl

theorem com1_clr1 {d k : Nat} {p : Place} : Com1 d k fun f j => clr1 p (f j) := fun f => by
  funext j
  simp only [upd]
  split
  · rw [clr1_fst]; simp [clr1]
  · rfl

theorem com1_set {d k e : Nat} {x : AV × Option Place} (h1 : e ≠ d) (h2 : e ≠ k) : Com1 d k fun f => upd f e x := fun f => by
  funext j
  simp only [upd]
  by_cases h3 : j = e
  · subst h3; simp [h1]
  · simp [h3, Ne.symm h2]

theorem com1_bare {d k : Nat} : Com1 d k fun f j => ((f j).1, none) := fun f => by
  funext j
  simp only [upd]
  split <;> rfl

/-- A copy made ahead or behind. -/
theorem on_put {E : Eff} {di k : Nat} {dst : Option Nat} (hd : dst ≠ some di) (hk : dst ≠ some k) : ((E.on dst st).put (some di) (((E.on dst st).fr k).1.dem, none)) = E.on dst (st.put (some di) ((st.fr k).1.dem, none)) := by
  obtain ⟨val, al, dem, bupd, bnew, bgone, ball⟩ := E
  have key : ∃ (M : (Nat → AV × Option Place) → Nat → AV × Option Place) (B : List Blk → List Blk), Com1 di k M ∧ ∀ s : St, ({ val := val, alias := al, dem := dem, bupd := bupd, bnew := bnew, bgone := bgone, ball := ball } : Eff).on dst s = { fr := M s.fr, bl := B s.bl } := by
    have m0 : ∃ (M : (Nat → AV × Option Place) → Nat → AV × Option Place), Com1 di k M ∧ ∀ s : St, (match ball with
      | some bl => ({ fr := fun k => ((s.fr k).1, none), bl := bl } : St)
      | none => s).fr = M s.fr := by
      cases ball with
      | none => exact ⟨_, com1_id, fun _ => rfl⟩
      | some bl => exact ⟨_, com1_bare, fun _ => rfl⟩
    have m1 : ∃ (M : (Nat → AV × Option Place) → Nat → AV × Option Place), Com1 di k M ∧ ∀ s, (match dem with
      | some q => upd s q ((s q).1.dem, (s q).2)
      | none => s) = M s := by
      cases dem with
      | none => exact ⟨_, com1_id, fun _ => rfl⟩
      | some q => exact ⟨_, com1_dem, fun _ => rfl⟩
    have m2 : ∃ (M : (Nat → AV × Option Place) → Nat → AV × Option Place), Com1 di k M ∧ ∀ s : Nat → AV × Option Place, (match bupd with
      | some (r, _) => fun j => Ev.clrB r (s j)
      | none => s) = M s := by
      cases bupd with
      | none => exact ⟨_, com1_id, fun _ => rfl⟩
      | some b => exact ⟨_, com1_clrB, fun _ => rfl⟩
    have m3 : ∀ dst : Option Nat, dst ≠ some di → dst ≠ some k → ∃ (M : (Nat → AV × Option Place) → Nat → AV × Option Place), Com1 di k M ∧ ∀ s : Nat → AV × Option Place, (match (motive := Option Nat → Nat → AV × Option Place) dst with
      | some d => (match val with
        | .own _ _ => upd (fun j => clr1 (.slot d) (s j)) d (val, al)
        | _ => upd s d (val, al))
      | none => s) = M s := by
      intro dst hd hk
      cases dst with
      | none => exact ⟨_, com1_id, fun _ => rfl⟩
      | some d =>
        have h1 : d ≠ di := fun e => hd (by rw [e])
        have h2 : d ≠ k := fun e => hk (by rw [e])
        cases val with
        | own e xs => exact ⟨_, com1_clr1.comp (com1_set h1 h2), fun _ => rfl⟩
        | _ => exact ⟨_, com1_set h1 h2, fun _ => rfl⟩
    obtain ⟨M0, c0, e0⟩ := m0
    obtain ⟨M1, c1, e1⟩ := m1
    obtain ⟨M2, c2, e2⟩ := m2
    obtain ⟨M3, c3, e3⟩ := m3 dst hd hk
    refine ⟨fun f => M3 (M2 (M1 (M0 f))), fun bl => (({ val := val, alias := al, dem := dem, bupd := bupd, bnew := bnew, bgone := bgone, ball := ball } : Eff).on dst { fr := fun _ => (.undef, none), bl := bl }).bl, ((c0.comp c1).comp c2).comp c3, fun s => ?_⟩
    simp only []
    rw [← e0 s, ← e1, ← e2, ← e3]
    cases ball <;> rfl
  obtain ⟨M, B, hM, he⟩ := key
  rw [he, he]
  simp only [St.put]
  rw [hM]

theorem comm_step {m i j : Nat} {oi oj : Oper} (hij : (mild m i = true ∧ mild m j = true) ∨ (still m i = true ∧ mild m j = false ∧ oj.guard = none)) (hap : oi.apart ops oj = true) {st1 st2 : St} (h1 : step C ops m i oi st = some st1) (h2 : step C ops m j oj st1 = some st2) :
    ∃ st1', step C ops m j oj st = some st1' ∧ step C ops m i oi st1' = some st2 := by
  obtain ⟨a1, a2, a3⟩ := Oper.apart_spec hap
  rcases hij with ⟨hi, hj⟩ | ⟨hi, hj, hg⟩
  · rw [step_mild hi] at h1
    rw [step_mild hj] at h2
    cases hx : resZ C ops m i oi st with
    | none => rw [hx] at h1; cases h1
    | some x =>
      rw [hx] at h1
      simp only [Option.bind_some, Option.some.injEq] at h1
      subst h1
      rw [← resZ_agree (put_agree a1)] at h2
      cases hy : resZ C ops m j oj st with
      | none => rw [hy] at h2; cases h2
      | some y =>
        rw [hy] at h2
        simp only [Option.bind_some, Option.some.injEq] at h2
        subst h2
        refine ⟨st.put oj.dst y, by rw [step_mild hj, hy]; rfl, ?_⟩
        rw [step_mild hi, ← resZ_agree (put_agree a3), hx]
        simp only [Option.bind_some]
        rw [put_comm a2]
  · have hs : still m j = false ∧ m.testBit j = false := by
      unfold mild at hj
      simpa using hj
    simp only [step, hi, if_true, evStepS] at h1
    have hjs : ∀ s, step C ops m j oj s = evStep C ops oj s some := fun s => by simp [step, hs.1, hs.2]
    rw [hjs] at h2
    split at h1
    · rename_i x hx
      simp only [Option.some.injEq] at h1
      subst h1
      unfold resS at hx
      split at hx
      · rename_i k hgi hop
        cases hx
        cases hdi : oi.dst with
        | none =>
          rw [hdi] at h2
          refine ⟨st2, by rw [hjs]; exact h2, ?_⟩
          simp only [step, hi, if_true, evStepS, resS, hgi, hop, hdi]
          rfl
        | some di =>
          rw [hdi] at h2
          have hdir : di ∉ oj.looksAt ops := a1 di hdi
          simp only [evStep, hg] at h2
          rw [evOp_bind] at h2
          obtain ⟨E, hE, h2⟩ := Option.bind_eq_some_iff.1 h2
          simp only [Option.some.injEq] at h2
          subst h2
          have hE' := evOp_put (ops := ops) (AV.dem_isOwn _) hdir hE
          refine ⟨E.on oj.dst st, by rw [hjs]; simp only [evStep, hg]; rw [evOp_bind, hE']; rfl, ?_⟩
          simp only [step, hi, if_true, evStepS, resS, hgi, hop, hdi]
          refine congrArg some (on_put ?_ ?_)
          · intro e; exact a2 di hdi e
          · intro e
            exact a3 k e (looks_ops (by rw [hop]; simp [Op.operands, tmpsOf]))
      · cases hx
    · cases h1

/-! ### Orders -/

def orderAt (ops : Array Oper) (A : List Nat) (m i : Nat) : Bool :=
  match ops[i]? with
  | none => true
  | some o => (o.after.toList.all fun e => !Region.binds .any e || decide (e.on < i)) &&
    (List.range ops.size).all fun j => (!(A.getD i 0).testBit j || o.after.toList.any fun e => Region.binds .any e && (e.on == j || (A.getD e.on 0).testBit j)) &&
      (!unord A i j || match ops[j]? with
        | some o' => o.apart ops o' && (mild m i && mild m j || (decide (i < j) && still m i && !mild m j && o'.guard.isNone) || (decide (j < i) && still m j && !mild m i && o.guard.isNone))
        | none => true)

def orderOK (ops : Array Oper) (m : Nat) : Bool :=
  let A := ancs ops
  (List.range ops.size).all fun i => orderAt ops A m i

structure Ordered (ops : Array Oper) (A : List Nat) (m : Nat) : Prop where
  less : ∀ i o, ops[i]? = some o → ∀ e ∈ o.after, Region.binds .any e = true → e.on < i
  anc : ∀ i j o, ops[i]? = some o → j < ops.size → (A.getD i 0).testBit j = true → ∃ e ∈ o.after, Region.binds .any e = true ∧ (e.on = j ∨ (A.getD e.on 0).testBit j = true)
  free : ∀ i j oi oj, ops[i]? = some oi → ops[j]? = some oj → unord A i j = true → i < j → oi.apart ops oj = true ∧ ((mild m i = true ∧ mild m j = true) ∨ (still m i = true ∧ mild m j = false ∧ oj.guard = none))

theorem orderOK_spec {m : Nat} (h : orderOK ops m = true) : Ordered ops (ancs ops) m := by
  have key : ∀ i o, ops[i]? = some o → orderAt ops (ancs ops) m i = true := fun i o ho => by
    unfold orderOK at h
    exact List.all_eq_true.1 h i (List.mem_range.2 (Array.getElem?_eq_some_iff.1 ho).1)
  refine ⟨fun i o ho e he hb => ?_, fun i j o ho hj ht => ?_, fun i j oi oj hi hj hu hlt => ?_⟩
  · have := key i o ho
    simp only [orderAt, ho, Bool.and_eq_true, List.all_eq_true] at this
    have := this.1 e (by simpa using he)
    simpa [hb] using this
  · have := key i o ho
    simp only [orderAt, ho, Bool.and_eq_true, List.all_eq_true] at this
    have := (this.2 j (List.mem_range.2 hj)).1
    rw [ht] at this
    simp only [Bool.not_true, Bool.false_or, List.any_eq_true] at this
    obtain ⟨e, he, h2⟩ := this
    simp only [Bool.and_eq_true, Bool.or_eq_true, beq_iff_eq] at h2
    exact ⟨e, by simpa using he, h2.1, h2.2⟩
  · have := key i oi hi
    simp only [orderAt, hi, Bool.and_eq_true, List.all_eq_true] at this
    have := (this.2 j (List.mem_range.2 (Array.getElem?_eq_some_iff.1 hj).1)).2
    rw [hu] at this
    simp only [hj, Bool.not_true, Bool.false_or, Bool.and_eq_true, Bool.or_eq_true, decide_eq_true_eq, Bool.not_eq_true', Option.isNone_iff_eq_none] at this
    obtain ⟨h1, (h2 | h2) | h2⟩ := this
    · exact ⟨h1, .inl h2⟩
    · exact ⟨h1, .inr ⟨h2.1.1.2, h2.1.2, h2.2⟩⟩
    · have := h2.1.1.1
      omega

def absAny (C : Ctx) (ops : Array Oper) (m : Nat) (sf : St) : Nat → Array Bool → St → Prop
  | 0, listed, st => Region.ready .any ops listed = [] ∧ st = sf
  | n + 1, listed, st => (Region.ready .any ops listed = [] → st = sf) ∧
    ∀ i ∈ Region.ready .any ops listed, ∀ o, ops[i]? = some o → ∃ st', step C ops m i o st = some st' ∧ absAny C ops m sf n (listed.setIfInBounds i true) st'

def Closed (ops : Array Oper) (listed : Array Bool) : Prop := ∀ k o, listed.getD k false = true → ops[k]? = some o → ∀ e ∈ o.after, Region.binds .any e = true → listed.getD e.on false = true

theorem getD_tf {listed : Array Bool} {i : Nat} (h : listed.getD i true = false) : listed.getD i false = false := by
  rcases Nat.lt_or_ge i listed.size with h' | h'
  · simp [h'] at h ⊢; exact h
  · simp [Array.getElem?_eq_none h'] at h

theorem Closed.set {listed : Array Bool} (h : Closed ops listed) {i : Nat} (hi : i ∈ Region.ready .any ops listed) : Closed ops (listed.setIfInBounds i true) := by
  intro k o hk ho e he hb
  by_cases hik : i = k
  · subst hik
    obtain ⟨_, o', ho', hall⟩ := mem_ready.1 hi
    rw [ho] at ho'
    cases ho'
    exact getD_set_true (hall e he hb)
  · rw [getD_set_ne false hik] at hk
    exact getD_set_true (h k o hk ho e he hb)

theorem anc_listed {A : List Nat} {m : Nat} (hO : Ordered ops A m) {listed : Array Bool} (hc : Closed ops listed) {i : Nat} (hi : i < ops.size) : ∀ (k : Nat), listed.getD k false = true → (A.getD k 0).testBit i = true → (∃ o, ops[k]? = some o) → listed.getD i false = true := by
  intro k
  induction k using Nat.strongRecOn with
  | _ k ih =>
    rintro hk ht ⟨o, ho⟩
    obtain ⟨e, he, hb, h2⟩ := hO.anc k i o ho hi ht
    have hl := hc k o hk ho e he hb
    rcases h2 with h2 | h2
    · rw [← h2]; exact hl
    · have hlt := hO.less k o ho e he hb
      have hk' := (Array.getElem?_eq_some_iff.1 ho).1
      exact ih e.on hlt hl h2 ⟨_, Array.getElem?_eq_getElem (by omega)⟩

theorem anc_ready {A : List Nat} {m : Nat} (hO : Ordered ops A m) {listed : Array Bool} (hc : Closed ops listed) {i j : Nat} (hi : i ∈ Region.ready .any ops listed) (hj : j ∈ Region.ready .any ops listed) : (A.getD j 0).testBit i = false := by
  obtain ⟨hiu, oi, hoi, _⟩ := mem_ready.1 hi
  obtain ⟨_, oj, hoj, hall⟩ := mem_ready.1 hj
  cases ht : (A.getD j 0).testBit i with
  | false => rfl
  | true =>
    have hil := (Array.getElem?_eq_some_iff.1 hoi).1
    obtain ⟨e, he, hb, h2⟩ := hO.anc j i oj hoj hil ht
    have hl := hall e he hb
    have h0 := getD_tf hiu
    rcases h2 with h2 | h2
    · rw [← h2, hl] at h0; cases h0
    · have hlt := hO.less j oj hoj e he hb
      have hjl := (Array.getElem?_eq_some_iff.1 hoj).1
      rw [anc_listed hO hc hil e.on hl h2 ⟨_, Array.getElem?_eq_getElem (by omega)⟩] at h0
      cases h0

theorem abs_first {A : List Nat} {m : Nat} (hO : Ordered ops A m) {i : Nat} {oi : Oper} (hi : ops[i]? = some oi) {sf : St} :
    ∀ (fuel : Nat) (listed : Array Bool) (st st1 : St), Closed ops listed → (∀ j, listed.getD j true = false → i ≤ j) → i ∈ Region.ready .any ops listed → step C ops m i oi st = some st1 → absAny C ops m sf fuel (listed.setIfInBounds i true) st1 → absAny C ops m sf (fuel + 1) listed st := by
  intro fuel
  induction fuel with
  | zero =>
    intro listed st st1 _ _ hr hs H
    refine ⟨fun h => (by rw [h] at hr; cases hr), fun j hj o ho => ?_⟩
    by_cases hji : j = i
    · subst hji
      rw [hi] at ho
      cases ho
      exact ⟨st1, hs, H⟩
    · have := ready_mono hj hji
      rw [H.1] at this
      cases this
  | succ fuel ih =>
    intro listed st st1 hc hmin hr hs H
    refine ⟨fun h => (by rw [h] at hr; cases hr), fun j hj o ho => ?_⟩
    by_cases hji : j = i
    · subst hji
      rw [hi] at ho
      cases ho
      exact ⟨st1, hs, H⟩
    · obtain ⟨st2, h2, h3⟩ := H.2 j (ready_mono hj hji) o ho
      have u1 := anc_ready hO hc hr hj
      have u2 := anc_ready hO hc hj hr
      have hu : unord A i j = true := by
        unfold unord
        rw [u1, u2]
        simp [Ne.symm hji]
      have hlt : i < j := by
        have := hmin j (mem_ready.1 hj).1
        omega
      obtain ⟨f2, f1⟩ := hO.free i j oi o hi ho hu hlt
      obtain ⟨st1', k1, k2⟩ := comm_step f1 f2 hs h2
      refine ⟨st1', k1, ih (listed.setIfInBounds j true) st1' st2 (hc.set hj) (fun j' hj' => hmin j' (by
        by_cases e : j = j'
        · subst e
          exact (mem_ready.1 hj).1
        · rw [getD_set_ne true e] at hj'; exact hj')) (ready_mono hr (Ne.symm hji)) k2 ?_⟩
      rw [Array.setIfInBounds_comm _ _ hji]
      exact h3

/-- The text's order stands for all. -/
theorem abs_lex {A : List Nat} {m : Nat} (hO : Ordered ops A m) {K : St → Option R} {r : R} : ∀ (l : List Oper) (k : Nat) (listed : Array Bool) (st : St), (∀ j, l[j]? = ops[k + j]?) → (∀ j, j < k → listed.getD j false = true) →
    (∀ j, k ≤ j → j < ops.size → listed.getD j true = false) → Closed ops listed → evOps C ops m k l st K = some r → ∃ sf, K sf = some r ∧ absAny C ops m sf l.length listed st
  | [], k, listed, st, hl, h1, h2, hc, h => by
    refine ⟨st, h, ?_, rfl⟩
    apply List.eq_nil_iff_forall_not_mem.2
    intro i hi
    obtain ⟨hu, o, ho, _⟩ := mem_ready.1 hi
    rcases Nat.lt_or_ge i k with hk | hk
    · have := h1 i hk
      rw [getD_tf hu] at this
      cases this
    · have := hl (i - k)
      rw [show k + (i - k) = i by omega, ho] at this
      simp at this
  | o :: l, k, listed, st, hl, h1, h2, hc, h => by
    have h0 : ops[k]? = some o := by simpa using (hl 0).symm
    have hkl := (Array.getElem?_eq_some_iff.1 h0).1
    rw [evOps_cons] at h
    cases hs : step C ops m k o st with
    | none => rw [hs] at h; cases h
    | some st1 =>
      rw [hs] at h
      simp only [Option.bind_some] at h
      have hr : k ∈ Region.ready .any ops listed := mem_ready.2 ⟨h2 k (Nat.le_refl _) hkl, o, h0, fun e he hb => h1 e.on (hO.less k o h0 e he hb)⟩
      obtain ⟨sf, q1, q2⟩ := abs_lex hO l (k + 1) (listed.setIfInBounds k true) st1 (fun j => by have := hl (j + 1); simpa [Nat.add_assoc, Nat.add_comm 1 j] using this)
        (fun j hj => by
          by_cases e : k = j
          · subst e
            have : k < listed.size := by
              rcases Nat.lt_or_ge k listed.size with h' | h'
              · exact h'
              · have := h2 k (Nat.le_refl _) hkl
                simp [Array.getElem?_eq_none h'] at this
            simp [this]
          · rw [getD_set_ne false e]; exact h1 j (by omega))
        (fun j hj hjs => by rw [getD_set_ne true (by omega)]; exact h2 j (by omega) hjs) (hc.set hr) h
      exact ⟨sf, q1, abs_first hO h0 l.length listed st st1 hc (fun j hj => by
        rcases Nat.lt_or_ge j k with h' | h'
        · have := h1 j h'
          rw [getD_tf hj] at this
          cases this
        · exact h') hr hs q2⟩

end
end Go.Ev

/-
  REGIONS AND CODE: what the evaluator says of them holds.
-/
namespace Go.Ev
open Go.RowKit (Below)

def okOps (nt : Nat) (ops : Array Oper) : Bool := ops.toList.all fun o => match o.dst with
  | some d => decide (d < nt)
  | none => true

section
variable {P : Program} {C : Ctx} {ops : Array Oper} {w0 : World} {com0 : Com} {f : Frm} {nt : Nat} {G G' : Gh} {st st' sf : St} {a : Act} {w w' : World} {R : Type} {r : R} {Q : Exit → Act → World → Prop}

theorem Inv.weak (hI : Inv w0 com0 f nt G st a w) (hb : st'.bl = st.bl)
    (hf : ∀ k, ((st'.fr k).1 = (st.fr k).1 ∨ (st'.fr k).1 = .undef) ∧ ∀ p, (st'.fr k).2 = some p → (st.fr k).2 = some p ∨ ∃ d, p = .slot d ∧ (st'.fr d).1.isOwn = false) : Inv w0 com0 f nt G st' a w := by
  refine ⟨hI.below, hI.foreign, hI.defers, hI.size, by rw [hb]; exact hI.nb, hI.wrhi, hI.comlo, hI.comlt, fun k => ?_, fun k p hp => ?_, fun r b hr => hI.blocks r b (by rw [← hb]; exact hr)⟩
  · rcases (hf k).1 with h | h
    · rw [h]; exact hI.slots k
    · rw [h]; simp only [VA]
  · rcases (hf k).2 p hp with h | ⟨d, rfl, hd⟩
    · have ha := hI.alias k p h
      cases p with
      | slot j =>
        rintro ⟨e, xs, hj⟩
        rcases (hf j).1 with h1 | h1
        · exact ha ⟨e, xs, by rw [← h1]; exact hj⟩
        · rw [hj] at h1; cases h1
      | leaf r off =>
        refine ⟨by rw [hb]; exact ha.1, fun b hr => ha.2 b (by rw [← hb]; exact hr)⟩
    · rintro ⟨e, xs, hj⟩
      rw [hj] at hd
      cases hd

theorem calm_inv {E : Eff} {x : AV × Option Place} (hc : E.calm = some x) {dst : Option Nat} (hI : Inv w0 com0 f nt G (E.on dst st) a w) : Inv w0 com0 f nt G (st.put dst x) a w := by
  obtain ⟨val, al, dem, bupd, bnew, bgone, ball⟩ := E
  unfold Eff.calm at hc
  cases dem <;> cases bupd <;> cases bnew <;> cases bgone <;> cases ball <;> simp only at hc <;> try (cases hc; done)
  cases hc
  cases dst with
  | none => exact hI
  | some d =>
    cases hv : val.isOwn with
    | false =>
      have h1 : val.dem = val := by cases val <;> first | rfl | cases hv
      rw [on_val hv] at hI
      rw [h1]
      exact hI
    | true =>
      cases val <;> simp only [AV.isOwn] at hv <;> try (cases hv; done)
      rename_i e xs
      refine (hI.dem d).weak rfl (fun k => ?_)
      by_cases hk : k = d
      · subst hk
        refine ⟨.inl ?_, fun p hp => .inl ?_⟩
        · simp [St.put, Eff.on, upd]
        · simpa [St.put, Eff.on, upd] using hp
      · simp only [St.put, Eff.on, upd, hk, if_false]
        refine ⟨.inl ?_, fun p hp => ?_⟩
        · unfold clr1; split <;> rfl
        · by_cases hpd : p = .slot d
          · exact .inr ⟨d, hpd, by simp [AV.dem, AV.isOwn]⟩
          · left
            unfold clr1
            rw [if_neg (by rw [hp]; simpa using hpd)]
            exact hp

theorem yielded_slot (hI : Inv w0 com0 f nt G st a w) {j k : Nat} (hk : (ops[j]?).bind (·.dst) = some k) {b : Bool} {al : Option Place} (hb : st.fr k = (.d .bool b, al)) : yielded ops a.tmps j = some b := by
  have hv := hI.slots k
  rw [hb] at hv
  simp only [VA] at hv
  have hv := val_bool hv
  unfold yielded
  rw [hk]
  have : a.tmps[k]? = some (.bool b) := by
    rcases Nat.lt_or_ge k a.tmps.size with h | h
    · simp [h] at hv ⊢; exact hv
    · simp [Array.getElem?_eq_none h] at hv
      cases hv
  simp [this]

theorem yielded_undef (hI : Inv w0 com0 f nt G st a w) {j k : Nat} (hk : (ops[j]?).bind (·.dst) = some k) {al : Option Place} (hb : st.fr k = (.tup [], al)) : yielded ops a.tmps j = none := by
  have hv := hI.slots k
  rw [hb] at hv
  simp only [VA, TA] at hv
  obtain ⟨vs, hv, rfl⟩ := hv
  unfold yielded
  rw [hk]
  rcases Nat.lt_or_ge k a.tmps.size with h | h
  · have : a.tmps[k]? = some (.tuple #[]) := by
      simp [h] at hv ⊢
      exact hv
    simp [this]
  · simp [Array.getElem?_eq_none h]

theorem step_sound (hC : CtxOK P C) (hF : FnOK P C) (hI : Inv w0 com0 f nt G st a w) {m i : Nat} {o : Oper} (hd : ∀ d, o.dst = some d → d < nt) (h : step C ops m i o st = some st') {next : Act → World → Prop}
    (hn : ∀ G' a' w', Inv w0 com0 f nt G' st' a' w' → next a' w') : if Region.wanted o (yielded ops a.tmps) = true then o.wp P a w next Q else next (a.put o.dst undef) w := by
  have skip : Inv w0 com0 f nt G (st.put o.dst (.tup [], none)) (a.put o.dst undef) w := by
    cases hdst : o.dst with
    | none => exact hI
    | some d => exact hI.put (hd d hdst) rfl (by simp only [VA, TA]; exact ⟨[], rfl, rfl⟩) (fun q hq => by cases hq)
  unfold step at h
  split at h
  · unfold evStepS at h
    split at h
    · rename_i x hx
      cases h
      unfold resS at hx
      split at hx
      · rename_i k hg hop
        cases hx
        simp only [Region.wanted, hg, if_true]
        have hm := evMove_sound (P := P) hI hd hop
        cases ho : (st.fr k).1.isOwn with
        | true =>
          cases hk : (st.fr k).1 <;> rw [hk] at ho <;> simp only [AV.isOwn] at ho <;> try (cases ho; done)
          rename_i e xs
          refine hm.1 e xs hk next Q (fun G' a' w' hI' => hn G' a' w' (hI'.weak ?_ (fun j => ?_)))
          · cases o.dst <;> rfl
          · cases o.dst with
            | none => exact ⟨.inl rfl, fun p hp => .inl hp⟩
            | some d =>
              simp only [St.put, Eff.on, upd, hk, AV.dem]
              split
              · exact ⟨.inl rfl, fun p hp => by cases hp⟩
              · exact ⟨.inl rfl, fun p hp => .inl hp⟩
        | false =>
          have hde : (st.fr k).1.dem = (st.fr k).1 := by cases hk : (st.fr k).1 <;> rw [hk] at ho <;> first | rfl | cases ho
          rw [hde] at hn
          refine hm.2 ho next Q (fun G' a' w' hI' => hn G' a' w' (hI'.weak ?_ (fun j => ?_)))
          · rw [on_val ho]; cases o.dst <;> rfl
          · rw [on_val ho]
            cases o.dst with
            | none => exact ⟨.inl rfl, fun p hp => .inl hp⟩
            | some d =>
              simp only [St.put, upd]
              split
              · exact ⟨.inl rfl, fun p hp => by cases hp⟩
              · exact ⟨.inl rfl, fun p hp => .inl hp⟩
      · cases hx
    · cases h
  split at h
  · rw [evStepQ_eq] at h
    have calm : ∀ x, evOp C o st (onCalm some) = some x → (∀ G' a' w', Inv w0 com0 f nt G' (st.put o.dst x) a' w' → next a' w') → o.wp P a w next Q := by
      intro x hx hn'
      obtain ⟨E, h1, h2⟩ := evOp_sound hC hF hI hd hx
      refine h2 next Q (fun G' a' w' hI' => hn' _ _ _ (calm_inv (x := x) ?_ hI'))
      unfold onCalm at h1
      cases hc : E.calm with
      | none => rw [hc] at h1; cases h1
      | some y => rw [hc] at h1; simpa using h1
    cases hx : resQ C ops o st with
    | none => rw [hx] at h; cases h
    | some x =>
      rw [hx] at h
      simp only [Option.bind_some, Option.some.injEq] at h
      subst h
      cases hg : o.guard with
      | none =>
        simp only [Region.wanted, hg, if_true]
        simp only [resQ, hg] at hx
        exact calm x hx hn
      | some p =>
        obtain ⟨j, want⟩ := p
        simp only [resQ, hg] at hx
        cases hk : (ops[j]?).bind (·.dst) with
        | none => rw [hk] at hx; cases hx
        | some k =>
          rw [hk] at hx
          simp only at hx
          split at hx
          · rename_i b al hb
            have hy := yielded_slot hI hk hb
            simp only [Region.wanted, hg, hy]
            split at hx
            · rename_i e
              subst e
              simp only [BEq.rfl, if_true]
              exact calm x hx hn
            · rename_i e
              cases hx
              have : (some b == some want) = false := by simpa using e
              simp only [this, Bool.false_eq_true, if_false]
              exact hn _ _ _ skip
          · rename_i al hb
            cases hx
            have hy := yielded_undef hI hk hb
            simp only [Region.wanted, hg, hy]
            have : ((none : Option Bool) == some want) = false := rfl
            simp only [this, Bool.false_eq_true, if_false]
            exact hn _ _ _ skip
          · cases hx
  · unfold evStep at h
    cases hg : o.guard with
    | none =>
      simp only [hg] at h
      simp only [Region.wanted, hg, if_true]
      obtain ⟨E, h1, h2⟩ := evOp_sound hC hF hI hd h
      cases h1
      exact h2 next Q hn
    | some p =>
      obtain ⟨j, want⟩ := p
      simp only [hg] at h
      cases hk : (ops[j]?).bind (·.dst) with
      | none => rw [hk] at h; cases h
      | some k =>
        rw [hk] at h
        simp only at h
        split at h
        · rename_i b al hb
          have hy := yielded_slot hI hk hb
          simp only [Region.wanted, hg, hy]
          split at h
          · rename_i e
            subst e
            rw [upd_same hb] at h
            simp only [BEq.rfl, if_true]
            obtain ⟨E, h1, h2⟩ := evOp_sound hC hF hI hd h
            cases h1
            exact h2 next Q hn
          · rename_i e
            have e2 : (!want) = b := (Bool.eq_not.2 e).symm
            rw [e2, upd_same hb] at h
            cases h
            have : (some b == some want) = false := by simpa using e
            simp only [this, Bool.false_eq_true, if_false]
            exact hn _ _ _ skip
        · rename_i al hb
          cases h
          have hy := yielded_undef hI hk hb
          simp only [Region.wanted, hg, hy]
          have : ((none : Option Bool) == some want) = false := rfl
          simp only [this, Bool.false_eq_true, if_false]
          exact hn _ _ _ skip
        · cases h

theorem wpOp_step (hC : CtxOK P C) (hF : FnOK P C) (hI : Inv w0 com0 f nt G st a w) {m i : Nat} {o : Oper} (ho : ops[i]? = some o) (hd : ∀ d, o.dst = some d → d < nt) (h : step C ops m i o st = some st') {next : Act → World → Prop}
    (hn : ∀ G' a' w', Inv w0 com0 f nt G' st' a' w' → next a' w') : wpOp P ops Q i next a w := by
  have := step_sound (Q := Q) hC hF hI hd h hn
  unfold wpOp
  simp only [ho]
  split
  · rename_i hw; rw [if_pos hw] at this; exact .inl this
  · rename_i hw; rw [if_neg hw] at this; exact this

theorem any_sound (hC : CtxOK P C) (hF : FnOK P C) {m : Nat} (hd : ∀ (i : Nat) (o : Oper) (d : Nat), ops[i]? = some o → o.dst = some d → d < nt) (hQ : ∀ G' a' w', Inv w0 com0 f nt G' sf a' w' → Q .normal a' w') :
    ∀ (n : Nat) (listed : Array Bool) (G : Gh) (st : St) (a : Act) (w : World), absAny C ops m sf n listed st → Inv w0 com0 f nt G st a w → wpAny P .any ops Q n listed a w
  | 0, _, _, st, _, _, h, hI => ⟨h.1, by have := h.2; subst this; exact hQ _ _ _ hI⟩
  | n + 1, listed, G, st, a, w, h, hI => by
    refine ⟨fun h0 => ?_, fun i hi => ?_⟩
    · have := h.1 h0
      subst this
      exact hQ _ _ _ hI
    · obtain ⟨_, o, ho, _⟩ := mem_ready.1 hi
      obtain ⟨st', h1, h2⟩ := h.2 i hi o ho
      exact wpOp_step hC hF hI ho (fun d hdst => hd i o d ho hdst) h1 (fun G' a' w' hI' => any_sound hC hF hd hQ n _ G' st' a' w' h2 hI')

theorem text_sound (hC : CtxOK P C) (hF : FnOK P C) {m : Nat} (hd : ∀ (i : Nat) (o : Oper) (d : Nat), ops[i]? = some o → o.dst = some d → d < nt) (hQ : ∀ G' a' w', Inv w0 com0 f nt G' sf a' w' → Q .normal a' w') :
    ∀ (l : List Oper) (k : Nat) (G : Gh) (st : St) (a : Act) (w : World), (∀ j, l[j]? = ops[k + j]?) → evOps C ops m k l st some = some sf → Inv w0 com0 f nt G st a w → wpOps P ops Q (List.range' k l.length) a w
  | [], k, G, st, a, w, hl, h, hI => by
    simp only [evOps, Option.some.injEq] at h
    subst h
    simpa [wpOps] using hQ _ _ _ hI
  | o :: l, k, G, st, a, w, hl, h, hI => by
    have h0 : ops[k]? = some o := by simpa using (hl 0).symm
    rw [evOps_cons] at h
    cases hs : step C ops m k o st with
    | none => rw [hs] at h; cases h
    | some st1 =>
      rw [hs] at h
      simp only [Option.bind_some] at h
      rw [List.length_cons, List.range'_succ, wpOps_cons]
      exact wpOp_step hC hF hI h0 (fun d hdst => hd k o d h0 hdst) hs (fun G' a' w' hI' => text_sound hC hF hd hQ l (k + 1) G' st1 a' w' (fun j => by have := hl (j + 1); simpa [Nat.add_assoc, Nat.add_comm 1 j] using this) h hI')

theorem evOps_bind {m : Nat} {K : St → Option R} : ∀ (l : List Oper) (k : Nat) (st : St), evOps C ops m k l st K = (evOps C ops m k l st some).bind K
  | [], _, _ => rfl
  | o :: l, k, st => by
    rw [evOps_cons, evOps_cons, Option.bind_assoc]
    congr 1
    funext s
    exact evOps_bind l (k + 1) s

theorem region_sound (hC : CtxOK P C) (hF : FnOK P C) {m : Nat} (hd : okOps nt ops = true) {id : Nat} {draw : Bool} (ho : draw = true → orderOK ops m = true) (h : evOps C ops m 0 ops.toList st some = some sf) (hI : Inv w0 com0 f nt G st a w)
    (hQ : ∀ G' a' w', Inv w0 com0 f nt G' sf a' w' → Q .normal a' w') : (Code.region id ops draw).wp P Q a w := by
  have hd' : ∀ (i : Nat) (o : Oper) (d : Nat), ops[i]? = some o → o.dst = some d → d < nt := fun i o d hi hdst => by
    unfold okOps at hd
    have := List.all_eq_true.1 hd o (by
      have := List.mem_of_getElem? (l := ops.toList) (i := i) (by simpa using hi)
      exact this)
    simpa [hdst] using this
  cases draw with
  | false =>
    refine wp_region ?_
    have := text_sound hC hF (m := m) hd' hQ ops.toList 0 G st a w (by simp) h hI
    simpa [List.range_eq_range'] using this
  | true =>
    refine wp_region_any hC.draws ?_
    have hO := orderOK_spec (ho rfl)
    obtain ⟨sf', h1, h2⟩ := abs_lex hO ops.toList 0 (Array.replicate ops.size false) st (by simp) (by intro j hj; omega)
      (fun j _ hj => by simp [hj]) (fun k o hk => by
        rcases Nat.lt_or_ge k ops.size with h' | h'
        · simp [h'] at hk
        · simp [h'] at hk) h
    cases h1
    have := any_sound hC hF hd' hQ ops.toList.length (Array.replicate ops.size false) G st a w.drew h2 hI.drew
    simpa using this

theorem calm_steps {m : Nat} : ∀ (l : List Oper) (k : Nat) (st : St), (∀ j, j < l.length → m.testBit (k + j) = true) → evOps C ops m k l st some = some sf →
    sf.bl = st.bl ∧ ∀ j, (∀ o ∈ l, o.dst ≠ some j) → sf.fr j = st.fr j
  | [], k, st, hm, h => by simp only [evOps, Option.some.injEq] at h; subst h; exact ⟨rfl, fun _ _ => rfl⟩
  | o :: l, k, st, hm, h => by
    rw [evOps_cons] at h
    have h0 : m.testBit k = true := by have := hm 0 (by simp); simpa using this
    rw [step_mild (by simp [mild, h0])] at h
    cases hx : resZ C ops m k o st with
    | none => rw [hx] at h; cases h
    | some x =>
      rw [hx] at h
      simp only [Option.bind_some] at h
      obtain ⟨h1, h2⟩ := calm_steps l (k + 1) _ (fun j hj => by have := hm (j + 1) (by simp; omega); rw [← this]; congr 1; omega) h
      refine ⟨?_, fun j hj => ?_⟩
      · rw [h1]; cases o.dst <;> rfl
      · rw [h2 j (fun o' ho' => hj o' (by simp [ho']))]
        have := hj o (by simp)
        cases hdst : o.dst with
        | none => rfl
        | some d =>
          rw [hdst] at this
          have : j ≠ d := fun e => this (by rw [e])
          simp [St.put, upd, this]

theorem joined_sound {d : Nat} {b : Bool} (h : evOps C ops (2 ^ ops.size - 1) 0 ops.toList st some = some sf) (hb : boolOf sf d = some b) (hI : Inv w0 com0 f nt G sf a w) : Inv w0 com0 f nt G (joined ops d st b) a w := by
  obtain ⟨h1, h2⟩ := calm_steps ops.toList 0 st (fun j hj => by simp at hj ⊢; exact hj) h
  have hbv : (sf.fr d).1 = .d .bool b := by
    unfold boolOf at hb
    split at hb
    · rename_i b' hb'; cases hb; exact hb'
    · cases hb
  refine hI.weak h1.symm (fun k => ?_)
  unfold joined
  by_cases hk : k = d
  · subst hk
    simp only [upd, if_true]
    exact ⟨.inl hbv.symm, fun p hp => by cases hp⟩
  · simp only [upd, hk, if_false]
    split
    · exact ⟨.inr rfl, fun p hp => by cases hp⟩
    · rename_i hno
      have := h2 k (fun o ho e => hno (by
        exact List.any_eq_true.2 ⟨o, ho, by simpa using e⟩))
      rw [this]
      exact ⟨.inl rfl, fun p hp => .inl hp⟩

end
end Go.Ev

/-
  CODE: loops and all; what the evaluator says of it holds.
-/
namespace Go.Ev
open Go.RowKit (Below)

def okCode (C : Ctx) (nt nb0 : Nat) : Code → Bool
  | .region _ ops draw => okOps nt ops && (!draw || orderOK ops (maskOf C ops draw))
  | .seq a b => okCode C nt nb0 a && okCode C nt nb0 b
  | .cond c a b => okCode C nt nb0 a && okCode C nt nb0 b && (match C.conds (condKey c) with
    | some O => decide (nb0 ≤ O.bl.length)
    | none => true)
  | .block _ b => okCode C nt nb0 b
  | .loop b => okCode C nt nb0 b && (match C.loops (firstReg b) with
    | some (S, O) => decide (nb0 ≤ S.bl.length) && decide (nb0 ≤ O.bl.length)
    | none => true)
  | .scope b => okCode C nt nb0 b
  | .rangeFunc _ _ a b => okCode C nt nb0 a && okCode C nt nb0 b
  | _ => true

def Ctl.out : Ctl → Exit
  | .normal => .normal
  | .exit id => .exit id
  | .goto l => .goto l
  | .ret => .ret

section
variable {P : Program} {C : Ctx} {w0 : World} {com0 : Com} {f : Frm} {nt : Nat} {G G' : Gh} {st st' sf : St} {a : Act} {w w' : World} {Q : Exit → Act → World → Prop}

/-! ### Where ways meet -/

theorem Inv.read (hI : Inv w0 com0 f nt G st a w) {S : Shape} (hn : f.nb0 ≤ S.bl.length) {x : S.den} (h : S.read st = some x) : Inv w0 com0 f nt { G with nb := S.bl.length } (S.mk' x) a w := by
  unfold Shape.read at h
  split at h
  · cases h
  · rename_i y hy
    split at h
    · cases h
    · rename_i z hz
      cases h
      have hs := SL.read_sound hI.slots hy
      have hb := BL.read_sound (k := 0) (fun r b hr => by rw [Nat.zero_add]; exact hI.blocks r b hr) hz
      refine ⟨hI.below, f.shrink hn hI.foreign, hI.defers, hI.size, by simp [Shape.mk', BL.mk_length], hI.wrhi, hI.comlo, hI.comlt, fun k => (hs k).1, fun k p hp => ?_, fun r b hr => ?_⟩
      · have := (hs k).2
        simp only [Shape.mk'] at hp
        rw [this] at hp
        cases hp
      · have := hb r b hr
        rw [Nat.zero_add] at this
        exact this

theorem least {p : Nat → Prop} (h : ∃ n, p n) : ∃ n, p n ∧ ∀ m, p m → n ≤ m := by
  obtain ⟨n, hn⟩ := h
  induction n using Nat.strongRecOn with
  | _ n ih =>
    by_cases hm : ∃ m, m < n ∧ p m
    · obtain ⟨m, h1, h2⟩ := hm
      exact ih m h1 h2
    · exact ⟨n, hn, fun m hp => by
        rcases Nat.lt_or_ge m n with h | h
        · exact absurd ⟨m, h, hp⟩ hm
        · exact h⟩

open Classical in
noncomputable def mu (J : Nat → Act → World → Prop) (a : Act) (w : World) : Nat := if h : ∃ n, J n a w then Classical.choose (least h) else 0

theorem mu_spec {J : Nat → Act → World → Prop} (h : ∃ n, J n a w) : J (mu J a w) a w := by
  unfold mu
  rw [dif_pos h]
  exact (Classical.choose_spec (least h)).1
theorem mu_le {J : Nat → Act → World → Prop} {n : Nat} (h : J n a w) : mu J a w ≤ n := by
  unfold mu
  rw [dif_pos ⟨n, h⟩]
  exact (Classical.choose_spec (least ⟨n, h⟩)).2 n h

theorem loop_sound {S O : Shape} (hnS : f.nb0 ≤ S.bl.length) (hnO : f.nb0 ≤ O.bl.length) {c : Code} {stp : St → (Ctl → St → Option (Ctl × O.den)) → Option (Ctl × O.den)}
    (body : ∀ {st : St} {K : Ctl → St → Option (Ctl × O.den)} {r : Ctl × O.den} {G : Gh} {a : Act} {w : World}, stp st K = some r → Inv w0 com0 f nt G st a w → ∀ {Q : Exit → Act → World → Prop},
      (∀ ctl st' G' a' w', K ctl st' = some r → Inv w0 com0 f nt G' st' a' w' → Q ctl.out a' w') → c.wp P Q a w)
    {N : Nat} {s : S.den} {r : Ctl × O.den} (h : loopD S O stp N s = some r) (hI : Inv w0 com0 f nt G (S.mk' s) a w) (hQ : ∀ G' a' w', Inv w0 com0 f nt G' (O.mk' r.2) a' w' → Q r.1.out a' w') : (Code.loop c).wp P Q a w := by
  let J : Nat → Act → World → Prop := fun n a w => ∃ s G, Inv w0 com0 f nt G (S.mk' s) a w ∧ loopD S O stp n s = some r
  refine wp_loop (fun a w => ∃ n, J n a w) (mu J) ⟨N, s, G, hI, h⟩ ?_
  rintro a w hJ
  have hm := mu_spec hJ
  generalize hn : mu J a w = n at hm
  obtain ⟨s, G, hI, hit⟩ := hm
  cases n with
  | zero => cases hit
  | succ n =>
    simp only [loopD] at hit
    refine body hit hI (fun ctl st' G' a' w' hk hI' => ?_)
    have out : ∀ (c' : Ctl), outK O c' st' = some r → Q c'.out a' w' := by
      intro c' hk
      unfold outK at hk
      cases hr : O.read st' with
      | none => rw [hr] at hk; cases hk
      | some o =>
        rw [hr] at hk
        simp only [Option.some.injEq] at hk
        subst hk
        exact hQ _ a' w' (hI'.read hnO hr)
    cases ctl with
    | normal =>
      simp only [Ctl.elim] at hk
      cases hks : S.read st' with
      | none => rw [hks] at hk; cases hk
      | some s2 =>
        rw [hks] at hk
        have hJ' : J n a' w' := ⟨s2, _, hI'.read hnS hks, hk⟩
        exact ⟨⟨n, hJ'⟩, by have := mu_le hJ'; omega⟩
    | exit id => exact out (.exit id) hk
    | goto l => exact out (.goto l) hk
    | ret => exact out .ret hk

theorem ev_sound (hC : CtxOK P C) (hF : FnOK P C) {N : Nat} : ∀ (c : Code) {st : St} {R : Type} {K : Ctl → St → Option R} {r : R} {G : Gh} {a : Act} {w : World}, okCode C nt f.nb0 c = true → ev C N c st R K = some r → Inv w0 com0 f nt G st a w →
    ∀ {Q : Exit → Act → World → Prop}, (∀ ctl st' G' a' w', K ctl st' = some r → Inv w0 com0 f nt G' st' a' w' → Q ctl.out a' w') → c.wp P Q a w := by
  intro c
  induction c with
  | skip => intro st R K r G a w _ h hI Q hQ; exact wp_skip (hQ .normal st G a w h hI)
  | region id ops draw =>
    intro st R K r G a w hok h hI Q hQ
    simp only [okCode, Bool.and_eq_true, Bool.or_eq_true, Bool.not_eq_true'] at hok
    have ho : draw = true → orderOK ops (maskOf C ops draw) = true := fun hd => by
      rcases hok.2 with h | h
      · rw [hd] at h; cases h
      · exact h
    simp only [ev] at h
    split at h
    · rename_i hj
      rw [evOps_bind] at h
      cases hs : evOps C ops (maskOf C ops draw) 0 ops.toList st some with
      | none => rw [hs] at h; cases h
      | some sf =>
        rw [hs] at h
        exact region_sound hC hF hok.1 ho hs hI (fun G' a' w' hI' => hQ .normal sf G' a' w' h hI')
    · rename_i d hj
      rw [evOps_bind] at h
      cases hs : evOps C ops (maskOf C ops draw) 0 ops.toList st some with
      | none => rw [hs] at h; cases h
      | some sf =>
        rw [hs] at h
        simp only [Option.bind_some] at h
        cases hb : boolOf sf d with
        | none => rw [hb] at h; cases h
        | some b =>
          rw [hb] at h
          simp only [Option.bind_some] at h
          have hm : maskOf C ops draw = 2 ^ ops.size - 1 := by simp [maskOf, hj]
          have hs' := hs
          rw [hm] at hs'
          exact region_sound hC hF hok.1 ho hs hI (fun G' a' w' hI' => hQ .normal _ G' a' w' h (joined_sound (C := C) hs' hb hI'))
  | seq x y ihx ihy =>
    intro st R K r G a w hok h hI Q hQ
    simp only [okCode, Bool.and_eq_true] at hok
    simp only [ev] at h
    refine wp_seq (ihx hok.1 h hI (fun ctl st' G' a' w' hk hI' => ?_))
    cases ctl with
    | normal => exact ihy hok.2 hk hI' hQ
    | exit id => exact hQ (.exit id) st' G' a' w' hk hI'
    | goto l => exact hQ (.goto l) st' G' a' w' hk hI'
    | ret => exact hQ .ret st' G' a' w' hk hI'
  | cond c x y ihx ihy =>
    intro st R K r G a w hok h hI Q hQ
    simp only [okCode, Bool.and_eq_true] at hok
    simp only [ev] at h
    split at h
    · rename_i t hc
      have hv := val_bool (opv_d hI hc)
      refine wp_cond hv ?_
      split at h
      · split at h
        · rename_i ht; simp only [ht, if_true]; exact ihx hok.1.1 h hI hQ
        · rename_i ht; rw [if_neg ht]; exact ihy hok.1.2 h hI hQ
      · rename_i O hO
        obtain ⟨q, hm, hk⟩ := Option.bind_eq_some_iff.1 h
        · have out : ∀ ctl st' G' a' w', outK O ctl st' = some q → Inv w0 com0 f nt G' st' a' w' → Q (Ctl.out ctl) a' w' := by
            intro ctl st' G' a' w' ho hI'
            unfold outK at ho
            cases hr : O.read st' with
            | none => rw [hr] at ho; cases ho
            | some o =>
              rw [hr] at ho
              simp only [Option.some.injEq] at ho
              subst ho
              exact hQ ctl _ _ a' w' hk (hI'.read (by have := hok.2; rw [hO] at this; simpa using this) hr)
          split at hm
          · rename_i ht; simp only [ht, if_true]; exact ihx hok.1.1 hm hI out
          · rename_i ht; rw [if_neg ht]; exact ihy hok.1.2 hm hI out
    · cases h
  | block id b ih =>
    intro st R K r G a w hok h hI Q hQ
    simp only [okCode] at hok
    simp only [ev] at h
    refine wp_block (ih hok h hI (fun ctl st' G' a' w' hk hI' => ?_))
    cases ctl with
    | normal => exact hQ .normal st' G' a' w' hk hI'
    | exit id' =>
      simp only [Ctl.elim] at hk
      simp only [Ctl.out, Exit.inBlock]
      split at hk
      · rename_i e; rw [if_pos e]; exact hQ .normal st' G' a' w' hk hI'
      · rename_i e; rw [if_neg e]; exact hQ (.exit id') st' G' a' w' hk hI'
    | goto l => exact hQ (.goto l) st' G' a' w' hk hI'
    | ret => exact hQ .ret st' G' a' w' hk hI'
  | loop b ih =>
    intro st R K r G a w hok h hI Q hQ
    simp only [okCode, Bool.and_eq_true] at hok
    simp only [ev] at h
    split at h
    · rename_i S O hs
      split at h
      · rename_i s hr
        obtain ⟨q, hm, hk⟩ := Option.bind_eq_some_iff.1 h
        obtain ⟨ctl, o⟩ := q
        have hn := hok.2
        rw [hs] at hn
        simp only [Bool.and_eq_true, decide_eq_true_eq] at hn
        refine loop_sound hn.1 hn.2 (stp := fun st K => ev C N b st (Ctl × O.den) K) (fun hs hI' Q' hQ' => ih hok.1 hs hI' hQ') hm (hI.read hn.1 hr) (fun G' a' w' hI' => ?_)
        cases ctl with
        | normal => cases hk
        | exit id => exact hQ (.exit id) _ G' a' w' hk hI'
        | goto l => exact hQ (.goto l) _ G' a' w' hk hI'
        | ret => exact hQ .ret _ G' a' w' hk hI'
      · cases h
    · cases h
  | exit id => intro st R K r G a w _ h hI Q hQ; exact wp_exit (hQ (.exit id) st G a w h hI)
  | label l => intro st R K r G a w _ h hI Q hQ; exact wp_label (hQ .normal st G a w h hI)
  | goto l => intro st R K r G a w _ h hI Q hQ; exact wp_goto (hQ (.goto l) st G a w h hI)
  | ret => intro st R K r G a w _ h hI Q hQ; exact wp_ret (hQ .ret st G a w h hI)
  | scope b ih =>
    intro st R K r G a w hok h hI Q hQ
    simp only [okCode] at hok
    simp only [ev] at h
    refine wp_scope_straight (ih hok h hI (fun ctl st' G' a' w' hk hI' => ?_))
    cases ctl with
    | normal => exact hQ .normal st' G' a' w' hk hI'
    | exit id => exact hQ (.exit id) st' G' a' w' hk hI'
    | goto l => cases hk
    | ret => exact hQ .ret st' G' a' w' hk hI'
  | rangeFunc x ps b c _ _ => intro st R K r G a w _ h hI Q hQ; cases h
  | refuse s => intro st R K r G a w _ h hI Q hQ; cases h

end
end Go.Ev

/-
  FUNCTIONS: from the evaluator's answer to what a call does.
-/
namespace Go.Ev
open Go.RowKit (Below)

def arity : Ty → Nat
  | .cons _ b => arity b + 1
  | _ => 0

section
variable {P : Program} {C : Ctx} {w0 : World} {com0 : Com} {f : Frm} {nt : Nat} {G G' : Gh} {st : St} {a : Act} {w w' : World}

def resOf (tmps : Array Value) : ResultVar → Sem Value
  | .tmp t => pure (tmps.getD t undef)
  | .cell p t => do loadVar t (← asAddr (tmps.getD p undef))

/-- What is read when the function ends: all that it wrote may be read. -/
def Gh.all (G : Gh) : Com := fun b o => G.com b o ∨ ∃ r, G.wr b = .blk r

theorem allRows_some {α : Type} : ∀ {l : List (Option α)} {xs : List α}, allRows l = some xs → l = xs.map some
  | [], xs, h => by simp only [allRows, Option.some.injEq] at h; subst h; rfl
  | none :: l, xs, h => by cases h
  | some x :: l, xs, h => by
    simp only [allRows] at h
    cases hl : allRows l with
    | none => rw [hl] at h; cases h
    | some ys => rw [hl] at h; simp only [Option.map_some, Option.some.injEq] at h; subst h; rw [allRows_some hl]; rfl

theorem collect_sound (hC : CtxOK P C) (hI : Inv w0 com0 f nt G st a w) : ∀ {rs : List RT} {l : List ResultVar} {x : RTs.den rs}, collect C rs l st = some x →
    ∃ vs, (l.mapM (resOf a.tmps)).run P w = .ok vs w ∧ ResL G.all w w0.heap.size rs x vs := by
  have hcom : ∀ b o, G.com b o → G.all b o := fun b o h => .inl h
  have up : ∀ {τ : Ty} {v : Value} {x : τ.den}, Val G.com w τ v x → Val G.all w τ v x := fun h => h.mono hcom (fun _ _ _ => rfl)
  intro rs
  induction rs with
  | nil =>
    intro l x h
    cases l with
    | nil => exact ⟨[], by simp, rfl⟩
    | cons v l => simp [collect] at h
  | cons t rs ih =>
    intro l x h
    cases l with
    | nil => cases t <;> simp [collect] at h
    | cons v l =>
      cases t with
      | d τ =>
        cases v with
        | tmp t =>
          simp only [collect] at h
          obtain ⟨y, hy, h⟩ := Option.bind_eq_some_iff.1 h
          obtain ⟨z, hz, h⟩ := Option.bind_eq_some_iff.1 h
          focus
              cases h
              obtain ⟨vs, h1, h2⟩ := ih hz
              have hv : Val G.all w τ (a.tmps.getD t undef) y := by
                have hs := hI.slots t
                split at hy
                · rename_i r hr
                  rw [hr] at hs
                  simp only [VA] at hs
                  obtain ⟨hlt, hv⟩ := hs
                  split at hy
                  · rename_i e xs hb
                    obtain ⟨cur, t', k1, k2, k3, k4, k5, k6, k7, k8⟩ := hI.blocks r _ hb
                    have hval : Val G.all w (.slice e) (a.tmps.getD t undef) xs := by
                      rw [hv, ← k4]
                      refine Val.slice (Nat.le_refl _) (k8.mono fun _ _ hx => hx.mono hcom (fun _ _ _ => rfl)) (.inr ⟨_, rfl, rfl, fun j u hj => ⟨.inr ⟨r, k2⟩, ?_⟩⟩)
                      rw [cell_of_row w _ _ cur t' (0, 0) k1]
                      simpa using hj
                    simp only [AV.to1] at hy
                    split at hy
                    · rename_i e1
                      subst e1
                      cases hy
                      exact hval
                    · cases hy
                  · rename_i e rows hb
                    obtain ⟨xs, hxs, hy⟩ := Option.bind_eq_some_iff.1 hy
                    have hrows := allRows_some hxs
                    obtain ⟨cur, t', k1, k2, k3, k4, k5, k5', k6, k7, k8, k9, k10, k11, k12⟩ := hI.blocks r _ hb
                    have hval : Val G.all w (.slice (.slice e)) (a.tmps.getD t undef) xs := by
                      have hlen : rows.length = xs.length := by rw [hrows, List.length_map]
                      rw [hv, ← k4, hlen]
                      have hparts : ∀ (xs : List (List e.den)) (cs : List Value) (i : Nat), cs.length = xs.length → (∀ j x v, xs[j]? = some x → cs[j]? = some v → RowOK G w r e (i + j) (some x) v) → Parts (Cells G.all w (.slice e)) cs xs := by
                        intro xs
                        induction xs with
                        | nil => intro cs i hl _; rw [List.eq_nil_of_length_eq_zero hl]; exact .nil
                        | cons x xs ih =>
                          intro cs i hl hr
                          cases cs with
                          | nil => cases hl
                          | cons v cs =>
                            obtain ⟨g, c, t3, q1, q2, q3, q4, q5, q6, q7, q8⟩ := hr 0 x v rfl rfl
                            refine Parts.cons (c := [v]) ?_ (ih cs (i + 1) (by simpa using hl) (fun j x v hx hv => by have := hr (j + 1) x v (by simpa using hx) (by simpa using hv); rw [show i + 1 + j = i + (j + 1) by omega]; exact this))
                            refine ⟨some ⟨g, 0, none⟩, x.length, x.length, c.toList, by rw [q1], rfl, Nat.le_refl _, q7.mono fun _ _ hx => hx.mono hcom (fun _ _ _ => rfl), .inr ⟨_, rfl, rfl, fun j u hj => ⟨.inr ⟨r, q5⟩, ?_⟩⟩⟩
                            rw [cell_of_row w _ _ c t3 (0, 0) q4]
                            simpa using hj
                      refine Val.slice (Nat.le_refl _) (hparts xs cur.toList 0 (by rw [Array.length_toList, k8, hlen]) (fun j x v hx hv => ?_)) (.inr ⟨_, rfl, rfl, fun j u hj => ⟨.inr ⟨r, k2⟩, ?_⟩⟩)
                      · rw [Nat.zero_add]
                        exact k9 j _ v (by rw [hrows, List.getElem?_map, hx]; rfl) (by simpa using hv)
                      · rw [cell_of_row w _ _ cur t' (0, 0) k1]
                        simpa using hj
                    simp only [AV.to1] at hy
                    split at hy
                    · rename_i e1
                      subst e1
                      cases hy
                      exact hval
                    · cases hy
                  · cases hy
                · exact up (to_sound hs hy)
              refine ⟨a.tmps.getD t undef :: vs, ?_, _, _, rfl, hv, h2⟩
              simp only [List.mapM_cons, resOf, Sem.run_bind, Sem.run_pure, Result.andThen_ok, h1]
        | cell t u =>
          simp only [collect] at h
          split at h
          · rename_i hty
            split at h
            · rename_i r off hr
              split at h
              · rename_i ls hb
                split at h
                · rename_i pre rest hcut
                  split at h
                  · rename_i y rest' hy
                    split at h
                    · rename_i z hz
                      cases h
                      obtain ⟨vs, h1, h2⟩ := ih hz
                      have hs := hI.slots t
                      rw [hr] at hs
                      simp only [VA] at hs
                      obtain ⟨cur, t', c1, c2, k1, k2, k3, k4, k5, k6, k7, k8, k9⟩ := cells_of_box (hI.blocks r _ hb) hcut
                      obtain ⟨d1, d2, e1, e2, e3⟩ := fromLeaves_sound hy k8.ll
                      have hok := hC.ty u (by rw [hty.1]; exact hty.2)
                      rw [hty.1] at hok
                      obtain ⟨cv, q1, q2⟩ := run_loadVar (P := P) hok (a := ⟨G.loc r, off, none⟩) rfl e2 (fun j v hj => k9 j v (by
                        rw [e1, List.getElem?_append_left (getElem?_lt hj)]
                        exact hj))
                      have hl : (loadVar u ⟨G.loc r, off, none⟩).run P w = .ok cv w := by
                        simpa [Instr.loadAt, Instr.sureAddr] using q1
                      refine ⟨cv :: vs, ?_, _, _, rfl, up q2, h2⟩
                      simp [List.mapM_cons, resOf, h1, hs.2, asAddr, hl]
                    · cases h
                  · cases h
                · cases h
              · cases h
            · cases h
          · cases h
      | own e =>
        cases v with
        | cell t u => simp [collect] at h
        | tmp t =>
          simp only [collect] at h
          split at h
          · rename_i y hy
            split at h
            · rename_i z hz
              cases h
              obtain ⟨vs, h1, h2⟩ := ih hz
              refine ⟨a.tmps.getD t undef :: vs, ?_, _, _, rfl, ?_, h2⟩
              · simp only [List.mapM_cons, resOf, Sem.run_bind, Sem.run_pure, Result.andThen_ok, h1]
              · split at hy
                · rename_i e' xs hr
                  split at hy
                  · rename_i e1
                    subst e1
                    cases hy
                    have hs := hI.slots t
                    rw [hr] at hs
                    simp only [VA] at hs
                    obtain ⟨ds, k1, k2, k3⟩ := hs
                    refine ⟨ds, k1.mono fun _ _ hx => hx.mono hcom (fun _ _ _ => rfl), k2, ?_⟩
                    rcases k3 with k3 | ⟨g, cap, cur, t', q1, q2, q3, q4, q5, q6, q7, q8⟩
                    · exact .inl k3
                    · refine .inr ⟨g, cap, cur, t', q1, (hI.wrhi g (by rw [q2]; simp)).1, q3, q4, q5, q6, q7, fun o => ⟨fun h => (q8 o).1 ?_, fun h => .inl ((q8 o).2 h)⟩⟩
                      rcases h with h | ⟨r, h4⟩
                      · exact h
                      · rw [q2] at h4; cases h4
                  · cases hy
                · cases hy
            · cases h
          · cases h

theorem args_slots {com : Com} {p : GP} : ∀ {τ : Ty} {x : τ.den} {vs : List Value}, ArgsV G.com w τ x vs → vs.length = arity τ ∧ ∀ k, VA G w p ((argAVs τ x).getD k .undef) (vs.getD k undef)
  | .unit, _, _, h => by simp only [ArgsV] at h; subst h; exact ⟨rfl, fun k => by simp [argAVs, VA]⟩
  | .cons a b, x, _, h => by
    obtain ⟨v, vs', rfl, h1, h2⟩ := h
    obtain ⟨k1, k2⟩ := args_slots (com := com) (p := p) h2
    refine ⟨by simp [arity, k1], fun k => ?_⟩
    cases k with
    | zero => simpa [argAVs, VA] using h1
    | succ k => simpa [argAVs] using k2 k
  | .int _, _, _, h => h.elim
  | .bool, _, _, h => h.elim
  | .str, _, _, h => h.elim
  | .slice _, _, _, h => h.elim
  | .arr _ _, _, _, h => h.elim
  | .agg _, _, _, h => h.elim
  | .raw, _, _, h => h.elim

def okFn (C : Ctx) (F : Func) (τ : Ty) : Bool := (match F.body with
  | some c => okCode C F.ntmps 0 c
  | none => false) && decide (arity τ ≤ F.ntmps) && decide (F.name ≠ "runtime.NumGoroutine")

/-- A FUNCTION IS WHAT THE EVALUATOR SAYS. -/
theorem pureOK (hC : CtxOK P C) (hF : FnOK P C) {fid : FuncId} {F : Func} (hf : P.funcs[fid]? = some F) {τ : Ty} {rs : List RT} {g : τ.den → Option (RTs.den rs)} {N : Nat} (hok : okFn C F τ = true) (hg : ∀ x, run C N F τ rs x = g x) : PureOK P fid τ rs g := by
  unfold okFn at hok
  simp only [Bool.and_eq_true, decide_eq_true_eq] at hok
  obtain ⟨⟨h1, h2⟩, h3⟩ := hok
  cases hb : F.body with
  | none => rw [hb] at h1; cases h1
  | some c =>
    rw [hb] at h1
    simp only at h1
    refine ⟨⟨F, hf, by rw [hb]; rfl, h3⟩, fun x r hr com w vs hlt hargs => ?_⟩
    rw [← hg x] at hr
    unfold run at hr
    rw [hb] at hr
    simp only at hr
    refine calls_of_wp hf hb ?_
    let G : Gh := { com := com, wr := fun _ => .none, loc := fun _ => 0, nb := 0, len := fun _ => 0, wd := fun _ => 0 }
    have hargs' : ArgsV G.com w τ x vs := hargs
    have hal := args_slots (G := G) (com := com) (p := .slot 0 0) hargs'
    have hsz : vs.length + (F.ntmps - vs.length) = F.ntmps := by rw [hal.1]; omega
    have hI : Inv w com Frm.none F.ntmps G { fr := enterFr (argAVs τ x), bl := [] } { tmps := vs.toArray ++ Array.replicate (F.ntmps - vs.toArray.size) undef, defers := [] } w := by
      refine ⟨Below.refl _ _, trivial, rfl, by simpa using hsz, rfl, fun g hg => absurd rfl hg, fun _ _ _ => Iff.rfl, hlt, fun k => ?_, fun k p hp => (by cases hp), fun r b hr => (by simp at hr)⟩
      have hk := (args_slots (G := G) (com := com) (p := .slot 0 k) hargs').2 k
      simp only [enterFr]
      have : ((vs.toArray ++ Array.replicate (F.ntmps - vs.toArray.size) undef).getD k undef) = vs.getD k undef := by
        simp only [Array.getD_eq_getD_getElem?, Array.getElem?_append, List.getD_eq_getElem?_getD]
        by_cases h : k < vs.length
        · simp [h]
        · simp [h, Array.getElem?_replicate]
          split <;> rfl
      rw [this]
      exact hk
    have fin : ∀ st' G' a' w', collect C rs F.results.toList st' = some r → Inv w com Frm.none F.ntmps G' st' a' w' → a'.defers = [] ∧ ∃ v, (results F a'.tmps).run P w' = .ok v w' ∧
        ∃ vals com', Ending.returned v = .returned (valOf vals) ∧ Below w.heap.size w w' ∧ (∀ b o, b < w.heap.size → (com' b o ↔ com b o)) ∧ (∀ b o, com' b o → b < w'.heap.size) ∧ ResL com' w' w.heap.size rs r vals := by
      intro st' G' a' w' hc hI'
      obtain ⟨vs', k1, k2⟩ := collect_sound hC hI' hc
      refine ⟨hI'.defers, valOf vs', ?_, vs', G'.all, rfl, hI'.below, fun b o hb => ⟨fun h => ?_, fun h => .inl ((hI'.comlo b o hb).2 h)⟩, fun b o h => ?_, k2⟩
      · unfold results
        rw [Array.mapM_eq_mapM_toList]
        change (do let vs ← List.toArray <$> List.mapM (resOf a'.tmps) F.results.toList; pure (if h : vs.size = 1 then vs[0] else Value.tuple vs) : Sem Value).run P w' = _
        simp only [Sem.run_bind, Sem.run_map, k1]
        match vs' with
        | [] => rfl
        | [v] => rfl
        | v1 :: v2 :: vs' => rfl
      · rcases h with h | ⟨r', h6⟩
        · exact (hI'.comlo b o hb).1 h
        · have := (hI'.wrhi b (by rw [h6]; simp)).1
          omega
      · rcases h with h | ⟨r', h6⟩
        · exact hI'.comlt b o h
        · exact (hI'.wrhi b (by rw [h6]; simp)).2
    refine ev_sound hC hF c h1 hr hI (fun ctl st' G' a' w' hk hI' => ?_)
    cases ctl with
    | normal =>
      obtain ⟨q1, v, q2, q3⟩ := fin st' G' a' w' hk hI'
      exact ⟨q1, v, q2, q3⟩
    | ret =>
      obtain ⟨q1, v, q2, q3⟩ := fin st' G' a' w' hk hI'
      exact ⟨q1, v, q2, q3⟩
    | exit id => cases hk
    | goto l => cases hk

end
end Go.Ev

/-
  A PROGRAM's CONTEXT, CHECKED.
-/
namespace Go.Ev

/-- The types of a program, the bytes of a slice's elements. -/
structure Tab where
  tys : List Ty
  els : List Nat

structure Fn where
  fns : List (Nat × Callee) := []
  writes : List Nat := []
  loops : List (Nat × Shape × Shape) := []
  conds : List (Nat × Shape) := []
  mats : List Nat := []
  vecs : List Nat := []
  fins : List Nat := []

def find {α : Type} (k : Nat) : List (Nat × α) → Option α
  | [] => none
  | (j, x) :: l => if k = j then some x else find k l
def find0 {α : Type} (k : Nat) : List (Nat × α) → Option α
  | [] => none
  | (j, x) :: l => if k = j then some x else find0 k l

def Tab.ctx (T : Tab) (F : Fn) : Ctx :=
  { ty := fun t => T.tys.getD t .unit, bytes := fun t => T.els.getD t 0, fn := fun k => find k F.fns, writes := fun k => F.writes.contains k, mats := fun k => F.mats.contains k, vecs := fun k => F.vecs.contains k, fins := fun k => F.fins.contains k, loops := fun k => find0 k F.loops, conds := fun k => find0 k F.conds }

def okBytes (P : Program) (τ : Ty) (t n : Nat) : Bool :=
  match τ with
  | .slice _ => match P.underlying t with
    | some (.slice u) => match P.info? u with
      | some i => i.bytes == n
      | none => false
    | _ => false
  | _ => true

def okTabFrom (P : Program) : Nat → List Ty → List Nat → Bool
  | _, [], _ => true
  | t, τ :: l, ns => (match τ with
      | .unit => true
      | τ => okTy P τ t && okBytes P τ t (ns.headD 0)) && okTabFrom P (t + 1) l ns.tail

def Tab.ok (P : Program) (T : Tab) : Bool := P.follows .mixedOrders && okTabFrom P 0 T.tys T.els

theorem okTabFrom_spec {P : Program} : ∀ {l : List Ty} {t : Nat} {ns : List Nat}, okTabFrom P t l ns = true → ∀ i τ, l[i]? = some τ → τ ≠ .unit → okTy P τ (t + i) = true ∧ okBytes P τ (t + i) (ns.getD i 0) = true
  | [], _, _, _, i, τ, hi, _ => by simp at hi
  | τ0 :: l, t, ns, h, i, τ, hi, hu => by
    simp only [okTabFrom, Bool.and_eq_true] at h
    cases i with
    | zero =>
      simp only [List.getElem?_cons_zero, Option.some.injEq] at hi
      subst hi
      have h1 := h.1
      have e : ns.headD 0 = ns.getD 0 0 := by cases ns <;> rfl
      split at h1
      · exact absurd rfl hu
      · simp only [Bool.and_eq_true] at h1
        rw [← e]
        exact h1
    | succ i =>
      simp only [List.getElem?_cons_succ] at hi
      have := okTabFrom_spec h.2 i τ hi hu
      have e : ns.tail.getD i 0 = ns.getD (i + 1) 0 := by cases ns <;> simp
      rw [e, show t + 1 + i = t + (i + 1) by omega] at this
      exact this

theorem Tab.ctxOK {P : Program} {T : Tab} (h : T.ok P = true) (F : Fn) : CtxOK P (T.ctx F) := by
  simp only [Tab.ok, Bool.and_eq_true] at h
  have key : ∀ t, T.tys.getD t .unit ≠ .unit → okTy P (T.tys.getD t .unit) t = true ∧ okBytes P (T.tys.getD t .unit) t (T.els.getD t 0) = true := fun t ht => by
    cases hi : T.tys[t]? with
    | none => simp [List.getD_eq_getElem?_getD, hi] at ht
    | some τ =>
      have e : T.tys.getD t .unit = τ := by simp [List.getD_eq_getElem?_getD, hi]
      rw [e] at ht ⊢
      have := okTabFrom_spec h.2 t τ hi ht
      rw [Nat.zero_add] at this
      exact this
  refine ⟨fun t ht => (key t ht).1, fun t e ht => ?_, h.1⟩
  have ht' : T.tys.getD t .unit = .slice e := ht
  have := (key t (by rw [ht']; simp)).2
  rw [ht'] at this
  unfold okBytes at this
  simp only at this
  split at this
  · rename_i u hu
    split at this
    · rename_i i hi
      exact ⟨u, i, hu, hi, by simp only [beq_iff_eq] at this; exact this⟩
    · cases this
  · cases this

theorem pureNone {P : Program} {C : Ctx} {fid : FuncId} {F : Func} (hf : P.funcs[fid]? = some F) {τ : Ty} {rs : List RT} (hok : okFn C F τ = true) : PureOK P fid τ rs (fun _ => none) := by
  unfold okFn at hok
  simp only [Bool.and_eq_true, decide_eq_true_eq] at hok
  obtain ⟨⟨h1, h2⟩, h3⟩ := hok
  refine ⟨⟨F, hf, ?_, h3⟩, fun x r h => by cases h⟩
  cases hb : F.body with
  | none => rw [hb] at h1; cases h1
  | some c => rfl

theorem fnOK_nil {P : Program} {T : Tab} {w : List Nat} {l : List (Nat × Shape × Shape)} {c : List (Nat × Shape)} {m v n : List Nat} : FnOK P (T.ctx ⟨[], w, l, c, m, v, n⟩) := ⟨fun fid τ rs g h => (by cases h), fun fid S O g h => (by cases h)⟩

theorem fnOK_cons {P : Program} {T : Tab} {w : List Nat} {l : List (Nat × Shape × Shape)} {c : List (Nat × Shape)} {m v n : List Nat} {k : Nat} {τ : Ty} {rs : List RT} {g : τ.den → Option (RTs.den rs)} {fs : List (Nat × Callee)} (h1 : PureOK P k τ rs g)
    (h2 : FnOK P (T.ctx ⟨fs, w, l, c, m, v, n⟩)) : FnOK P (T.ctx ⟨(k, .pure τ rs g) :: fs, w, l, c, m, v, n⟩) := by
  refine ⟨fun fid τ' rs' g' h => ?_, fun fid S O g' h => ?_⟩
  · have h' : find fid ((k, Callee.pure τ rs g) :: fs) = some (.pure τ' rs' g') := h
    simp only [find] at h'
    split at h'
    · rename_i e
      subst e
      cases h'
      exact h1
    · exact h2.pure fid τ' rs' g' h'
  · have h' : find fid ((k, Callee.pure τ rs g) :: fs) = some (.inl S O g') := h
    simp only [find] at h'
    split at h'
    · cases h'
    · exact h2.inl fid S O g' h'

theorem fnOK_inl {P : Program} {T : Tab} {w : List Nat} {l : List (Nat × Shape × Shape)} {c : List (Nat × Shape)} {m v n : List Nat} {k : Nat} {S O : ISh} {g : S.den → Option O.den} {fs : List (Nat × Callee)} (h1 : InlOK P k S O g)
    (h2 : FnOK P (T.ctx ⟨fs, w, l, c, m, v, n⟩)) : FnOK P (T.ctx ⟨(k, .inl S O g) :: fs, w, l, c, m, v, n⟩) := by
  refine ⟨fun fid τ' rs' g' h => ?_, fun fid S' O' g' h => ?_⟩
  · have h' : find fid ((k, Callee.inl S O g) :: fs) = some (.pure τ' rs' g') := h
    simp only [find] at h'
    split at h'
    · cases h'
    · exact h2.pure fid τ' rs' g' h'
  · have h' : find fid ((k, Callee.inl S O g) :: fs) = some (.inl S' O' g') := h
    simp only [find] at h'
    split at h'
    · rename_i e
      subst e
      cases h'
      exact h1
    · exact h2.inl fid S' O' g' h'

end Go.Ev

/-
  FROM WHAT A ROW's ARGUMENTS READ AS, TO DATA.
-/
namespace Go.Ev
open Go.RowKit (Below)
open Go.Deep (open_slice)

/-- Data that memory can hold. -/
def Fit : (τ : Ty) → τ.den → Prop
  | .int k, n => (Lit.int k n).wf = true
  | .bool, _ => True
  | .str, s => s.size ≤ maxLen
  | .slice e, xs => xs.length ≤ maxLen ∧ ∀ x ∈ xs, Fit e x
  | .arr n e, xs => xs.length = n ∧ ∀ x ∈ xs, Fit e x
  | .agg p, x => Fit p x
  | .unit, _ => True
  | .cons a b, x => Fit a x.1 ∧ Fit b x.2
  | .raw, _ => True

def Ty.deep : Ty → Bool
  | .raw => false
  | .slice e => e.deep
  | .arr _ e => e.deep
  | .agg p => p.deep
  | .cons a b => a.deep && b.deep
  | _ => true

def allOf (w : World) : Com := fun b _ => b < w.heap.size

section
variable {H : Type} {enc : TypeId × Value → H} {P : Program} {w : World} {base : Nat} {spare : Nat → Bool} {held : Bool}

theorem lt_of_cell {a : Addr} {v : Value} (h : w.cell? a = some v) : a.block < w.heap.size ∧ a.spot = none := by
  unfold World.cell? at h
  split at h
  · rename_i c t fr hc
    split at h
    · cases h
    · rename_i hs
      exact ⟨(Array.getElem?_eq_some_iff.1 hc).1, by simpa using hs⟩
  · cases h

theorem okTy_cellsOf {τ : Ty} {t : TypeId} (h : okTy P τ t = true) : P.cellsOf t = τ.width := by
  obtain ⟨i, z, h1, h2, _⟩ := okTy_info h
  simp [Program.cellsOf, h1, h2]

theorem cells_get {a : Addr} {n : Nat} {cs : List Value} (h : w.cells? base a n = some cs) : cs.length = n ∧ ∀ i v, cs[i]? = some v → w.cell? (a.add i) = some v := by
  obtain ⟨h1, h2, h3⟩ := World.cells?_some h
  refine ⟨h2, fun i v hv => ?_⟩
  have hlt : i < n := by rw [← h2]; exact getElem?_lt hv
  rw [h3 i hlt, hv]

theorem add_add (a : Addr) (i j : Nat) (hs : a.spot = none) : (a.add i).add j = a.add (i + j) := by
  rw [addr_add hs, addr_add rfl, addr_add hs, Nat.add_assoc]

/-- Elements in a row. -/
theorem elems_at {e : Ty} {s : Nat} {a : Addr} (ha : a.spot = none) : ∀ (n : Nat), (∀ i, i < n → ∃ cs y, w.cells? base (a.add (i * s)) s = some cs ∧ Cells (allOf w) w e cs y ∧ Fit e y) →
    ∃ ds ys, ds.length = n * s ∧ ys.length = n ∧ Parts (Cells (allOf w) w e) ds ys ∧ (∀ y ∈ ys, Fit e y) ∧ At (allOf w) w a ds
  | 0, _ => ⟨[], [], by simp, rfl, .nil, by simp, fun j v h => by simp at h⟩
  | n + 1, h => by
    obtain ⟨ds, ys, h1, h2, h3, h4, h5⟩ := elems_at ha n (fun i hi => h i (by omega))
    obtain ⟨cs, y, k1, k2, k3⟩ := h n (Nat.lt_succ_self n)
    obtain ⟨l1, l2⟩ := cells_get k1
    refine ⟨ds ++ cs, ys ++ [y], by rw [List.length_append, h1, l1, Nat.succ_mul], by simp [h2], h3.append (by simpa using Parts.cons k2 .nil), fun z hz => ?_, fun j v hj => ?_⟩
    · rcases List.mem_append.1 hz with hz | hz
      · exact h4 z hz
      · simp at hz; subst hz; exact k3
    · rcases Nat.lt_or_ge j ds.length with hlt | hge
      · rw [List.getElem?_append_left hlt] at hj
        exact h5 j v hj
      · rw [List.getElem?_append_right hge] at hj
        have := l2 _ v hj
        rw [add_add _ _ _ ha, addr_add ha, ← h1, show ds.length + (j - ds.length) = j by omega] at this
        exact ⟨(lt_of_cell this).1, this⟩

theorem parts_range {e : Ty} {s : Nat} : ∀ (n : Nat) (cs : List Value), cs.length = n * s → (∀ i, i < n → ∃ y, Cells (allOf w) w e ((cs.drop (i * s)).take s) y ∧ Fit e y) → ∃ ys, ys.length = n ∧ Parts (Cells (allOf w) w e) cs ys ∧ ∀ y ∈ ys, Fit e y
  | 0, cs, hl, _ => by
    have : cs = [] := List.eq_nil_of_length_eq_zero (by simpa using hl)
    subst this
    exact ⟨[], rfl, .nil, by simp⟩
  | n + 1, cs, hl, h => by
    obtain ⟨y, k1, k2⟩ := h 0 (Nat.succ_pos n)
    rw [Nat.zero_mul, List.drop_zero] at k1
    obtain ⟨ys, h1, h2, h3⟩ := parts_range (e := e) (s := s) n (cs.drop s) (by rw [List.length_drop, hl, Nat.succ_mul]; omega) (fun i hi => by
      have := h (i + 1) (by omega)
      rw [List.drop_drop, show s + i * s = (i + 1) * s by rw [Nat.succ_mul]; omega]
      exact this)
    refine ⟨y :: ys, by simp [h1], ?_, by simpa using ⟨k2, h3⟩⟩
    have := Parts.cons k1 h2
    rwa [List.take_append_drop] at this

mutual
theorem trod_cells : ∀ (τ : Ty) {t : TypeId} {fuel : Nat} {cs : List Value} {x : DataW H × List MemPlace}, τ.deep = true → okTy P τ t = true → DataW.trod enc P w base spare held fuel t cs = some x → ∃ y, Cells (allOf w) w τ cs y ∧ Fit τ y
  | .int k, t, fuel, cs, x, _, hok, h => by
    obtain ⟨n, rfl, _, h2⟩ := DataW.trod_int (okTy_int hok) h
    exact ⟨(n : Int), by simp [Cells], h2⟩
  | .bool, t, fuel, cs, x, _, hok, h => by
    obtain ⟨n, rfl, _⟩ := DataW.trod_bool (okTy_bool hok) h
    exact ⟨(n : Bool), by simp [Cells], trivial⟩
  | .str, t, fuel, cs, x, _, hok, h => by
    obtain ⟨n, rfl, _, h2⟩ := DataW.trod_string (okTy_str hok) h
    exact ⟨(n : ByteArray), by simp [Cells], h2⟩
  | .slice e, t, fuel, cs, x, hr, hok, h => by
    obtain ⟨u, hu, he, hw⟩ := okTy_slice hok
    rcases open_slice hu h with ⟨rfl, _⟩ | ⟨a, len, cap, m, n, D, Pl, rfl, _, hl, hm, hmm, _, hx⟩
    · exact ⟨([] : List e.den), ⟨none, 0, 0, [], rfl, rfl, Nat.le_refl _, .nil, .inl rfl⟩, Nat.zero_le _, by simp⟩
    · have hlm : len ≤ m := by rw [hmm]; split <;> omega
      rw [okTy_cellsOf he] at hx
      have hel : ∀ i, i < len → ∃ cs y, w.cells? base (a.add (i * e.width)) e.width = some cs ∧ Cells (allOf w) w e cs y ∧ Fit e y := fun i hi => by
        obtain ⟨cs', h1, h2⟩ := hx i (by omega)
        obtain ⟨y, h3, h4⟩ := trod_cells e hr he h2
        exact ⟨cs', y, h1, h3, h4⟩
      by_cases h0 : len = 0
      · subst h0
        exact ⟨([] : List e.den), ⟨some a, 0, cap, [], rfl, rfl, Nat.zero_le _, .nil, .inl rfl⟩, Nat.zero_le _, by simp⟩
      · obtain ⟨cs0, y0, q1, q2, _⟩ := hel 0 (by omega)
        obtain ⟨l1, l2⟩ := cells_get q1
        have ha : a.spot = none := by
          have hlt : 0 < cs0.length := by rw [l1]; exact hw
          have := lt_of_cell (l2 0 cs0[0] (List.getElem?_eq_getElem hlt))
          simpa [Addr.add] using this.2
        obtain ⟨ds, ys, k1, k2, k3, k4, k5⟩ := elems_at ha len hel
        exact ⟨(ys : List e.den), ⟨some a, len, cap, ds, rfl, k2.symm, hl, k3, .inr ⟨a, rfl, ha, k5⟩⟩, by show ys.length ≤ maxLen; omega, k4⟩
  | .arr n e, t, fuel, cs, x, hr, hok, h => by
    obtain ⟨u, hu, he⟩ := okTy_arr hok
    obtain ⟨xs, m, _, _, hl, hxl, hx⟩ := DataW.trod_array hu h
    rw [okTy_cellsOf he] at hx
    rw [okTy_cellsOf hok] at hl
    obtain ⟨ys, h1, h2, h3⟩ := parts_range (w := w) (e := e) n cs hl (fun i hi => by
      have hxi := hx i hi
      rw [List.getElem?_eq_getElem (by omega)] at hxi
      exact trod_cells e hr he hxi)
    exact ⟨(ys : List e.den), ⟨h1, h2⟩, h1, h3⟩
  | .agg p, t, fuel, cs, x, hr, hok, h => by
    obtain ⟨fs, hu, hf⟩ := okTy_agg' hok
    obtain ⟨xs, m, _, _, hl, hxl, hx⟩ := DataW.trod_struct hu h
    have hl' : cs.length = p.width := by rw [hl, okTy_cellsOf hok]; rfl
    obtain ⟨y, h1, h2⟩ := trod_fields p (fs := fs.toList) (off := 0) (cs := cs) hr hf (by omega) (fun i f hf => by
      have hf' : fs[i]? = some f := by simpa using hf
      have := hx i f hf'
      rw [List.getElem?_eq_getElem (by rw [hxl]; exact (Array.getElem?_eq_some_iff.1 hf').1)] at this
      exact ⟨_, _, this⟩)
    rw [List.drop_zero, List.take_of_length_le (by omega)] at h1
    exact ⟨y, h1, h2⟩
  | .unit, _, _, _, _, _, hok, _ => by simp [okTy] at hok
  | .cons _ _, _, _, _, _, _, hok, _ => by simp [okTy] at hok
  | .raw, _, _, _, _, hr, _, _ => by simp [Ty.deep] at hr
theorem trod_fields : ∀ (p : Ty) {fs : List Field} {off : Nat} {cs : List Value}, p.deep = true → okFs P p fs off = true → off + p.width ≤ cs.length → (∀ (i : Nat) (f : Field), fs[i]? = some f → ∃ fuel x, DataW.trod enc P w base spare held fuel f.type ((cs.drop f.offset).take (P.cellsOf f.type)) = some x) →
    ∃ y, Cells (allOf w) w p ((cs.drop off).take p.width) y ∧ Fit p y
  | .unit, fs, off, cs, _, _, _, _ => ⟨(), by simp [Cells, Ty.width], trivial⟩
  | .cons a b, fs, off, cs, hr, hf, hl, h => by
    cases fs with
    | nil => simp [okFs] at hf
    | cons f fs =>
      simp only [okFs, Bool.and_eq_true, beq_iff_eq, decide_eq_true_eq] at hf
      simp only [Ty.deep, Bool.and_eq_true] at hr
      simp only [Ty.width] at hl
      obtain ⟨⟨⟨h1, h2⟩, h3⟩, h4⟩ := hf
      obtain ⟨fuel, x, hx⟩ := h 0 f rfl
      rw [h1, okTy_cellsOf h3] at hx
      obtain ⟨y, k1, k2⟩ := trod_cells a hr.1 h3 hx
      obtain ⟨z, l1, l2⟩ := trod_fields b (fs := fs) (off := off + a.width) (cs := cs) hr.2 h4 (by omega) (fun i f hf => h (i + 1) f (by simpa using hf))
      refine ⟨(y, z), ⟨(cs.drop off).take a.width, (cs.drop (off + a.width)).take b.width, ?_, k1, l1⟩, k2, l2⟩
      simp only [Ty.width]
      rw [List.take_add, List.drop_drop]
  | .int _, _, _, _, _, hf, _, _ => by simp [okFs] at hf
  | .bool, _, _, _, _, hf, _, _ => by simp [okFs] at hf
  | .str, _, _, _, _, hf, _, _ => by simp [okFs] at hf
  | .slice _, _, _, _, _, hf, _, _ => by simp [okFs] at hf
  | .arr _ _, _, _, _, _, hf, _, _ => by simp [okFs] at hf
  | .agg _, _, _, _, _, hf, _, _ => by simp [okFs] at hf
  | .raw, _, _, _, hr, _, _, _ => by simp [Ty.deep] at hr
end

theorem cellOK_isAgg {r : Reach} {b : Nat} {t : TypeId} {v : Value} (h : Cell.okWide P w r b t v) : isAggV v = false := by
  unfold Cell.okWide at h
  split at h <;> first | rfl | skip
  unfold Cell.ok at h
  split at h <;> first | rfl | cases h

/-- An argument of a row, as data. -/
theorem trod_val {τ : Ty} {t : TypeId} {v : Value} {d : DataW H} {ps : List MemPlace} {r : Reach} {b : Nat} (hr : τ.deep = true) (hok : okTy P τ t = true) (hv : Value.okWide P w r b t v) (h : DataW.Trod enc P w base spare held t v d ps) :
    ∃ y, Val (allOf w) w τ v y ∧ Fit τ y := by
  obtain ⟨fuel, h⟩ := h
  obtain ⟨y, h1, h2⟩ := trod_cells τ hr hok h
  refine ⟨y, ⟨h1, ?_⟩, h2⟩
  have hu : (match P.underlying t with
    | some (.struct _) => true
    | some (.array _ _) => true
    | _ => false) = τ.isAgg := by
    cases τ with
    | int k => rw [okTy_int hok]; rfl
    | bool => rw [okTy_bool hok]; rfl
    | str => rw [okTy_str hok]; rfl
    | slice e => obtain ⟨u, hu, _⟩ := okTy_slice hok; rw [hu]; rfl
    | arr n e => obtain ⟨u, hu, _⟩ := okTy_arr hok; rw [hu]; rfl
    | agg p => obtain ⟨fs, hu, _⟩ := okTy_agg' hok; rw [hu]; rfl
    | unit => simp [okTy] at hok
    | cons _ _ => simp [okTy] at hok
    | raw => simp [Ty.deep] at hr
  unfold Value.okWide at hv
  rw [← hu]
  split at hv
  · rename_i h0; obtain ⟨cs, rfl, _⟩ := hv; rw [h0]; rfl
  · rename_i h0; obtain ⟨cs, rfl, _⟩ := hv; rw [h0]; rfl
  · rename_i h1 h2
    rw [cellOK_isAgg hv]
    symm
    split
    · rename_i fs h0; exact absurd h0 (h1 fs)
    · rename_i n e h0; exact absurd h0 (h2 n e)
    · rfl

end
end Go.Ev

/-
  COMMON LINES: the plain mathematics of layer 12.
-/
namespace Go.Ev.Pl

section
variable {α : Type} [DecidableEq α]

/-- How many lines two rows have in common, in order. -/
def K : List α → List α → Nat
  | [], _ => 0
  | _ :: _, [] => 0
  | a :: aas, b :: bs => max (max (K aas (b :: bs)) (K (a :: aas) bs)) (if a = b then K aas bs + 1 else 0)
termination_by x y => x.length + y.length

@[simp] theorem K_nil (y : List α) : K [] y = 0 := by rw [K]
@[simp] theorem K_nil' (x : List α) : K x [] = 0 := by cases x <;> rw [K]
theorem K_cons (a b : α) (aas bs : List α) : K (a :: aas) (b :: bs) = max (max (K aas (b :: bs)) (K (a :: aas) bs)) (if a = b then K aas bs + 1 else 0) := by rw [K]

theorem K_drop_left (a : α) (aas y : List α) : K aas y ≤ K (a :: aas) y := by
  cases y with
  | nil => simp
  | cons b bs => rw [K_cons]; omega
theorem K_drop_right (x : List α) (b : α) (bs : List α) : K x bs ≤ K x (b :: bs) := by
  cases x with
  | nil => simp
  | cons a aas => rw [K_cons]; omega
theorem K_keep (a : α) (aas bs : List α) : K aas bs + 1 ≤ K (a :: aas) (a :: bs) := by
  rw [K_cons]; simp only [if_true]; omega

theorem K_lip : ∀ (n : Nat) (x y : List α), x.length + y.length ≤ n → (∀ a, K (a :: x) y ≤ K x y + 1) ∧ ∀ b, K x (b :: y) ≤ K x y + 1 := by
  intro n
  induction n with
  | zero =>
    intro x y h
    have hx : x = [] := List.eq_nil_of_length_eq_zero (by omega)
    have hy : y = [] := List.eq_nil_of_length_eq_zero (by omega)
    subst hx; subst hy
    simp
  | succ n ih =>
    intro x y h
    refine ⟨fun a => ?_, fun b => ?_⟩
    · cases y with
      | nil => simp
      | cons b bs =>
        have h1 := (ih x bs (by simp at h; omega)).1 a
        have h2 := K_drop_right x b bs
        rw [K_cons]
        split <;> omega
    · cases x with
      | nil => simp
      | cons a aas =>
        have h1 := (ih aas y (by simp at h; omega)).2 b
        have h2 := K_drop_left a aas y
        rw [K_cons]
        split <;> omega

theorem K_left (a : α) (x y : List α) : K (a :: x) y ≤ K x y + 1 := (K_lip _ x y (Nat.le_refl _)).1 a
theorem K_right (b : α) (x y : List α) : K x (b :: y) ≤ K x y + 1 := (K_lip _ x y (Nat.le_refl _)).2 b

theorem K_eq (a : α) (aas bs : List α) : K (a :: aas) (a :: bs) = K aas bs + 1 := by
  have h1 := K_keep a aas bs
  have h2 := K_left a aas bs
  have h3 := K_right a aas bs
  rw [K_cons] at h1 ⊢
  simp only [if_true] at h1 ⊢
  omega

theorem K_ne {a b : α} (h : a ≠ b) (aas bs : List α) : K (a :: aas) (b :: bs) = max (K aas (b :: bs)) (K (a :: aas) bs) := by
  rw [K_cons, if_neg h]; omega

theorem K_comm : ∀ (n : Nat) (x y : List α), x.length + y.length ≤ n → K x y = K y x := by
  intro n
  induction n with
  | zero =>
    intro x y h
    have hx : x = [] := List.eq_nil_of_length_eq_zero (by omega)
    subst hx
    simp
  | succ n ih =>
    intro x y h
    cases x with
    | nil => simp
    | cons a aas =>
      cases y with
      | nil => simp
      | cons b bs =>
        simp only [List.length_cons] at h
        rw [K_cons, K_cons, ih aas (b :: bs) (by simp; omega), ih (a :: aas) bs (by simp; omega), ih aas bs (by omega)]
        by_cases e : a = b
        · subst e; simp only [if_true]; omega
        · rw [if_neg e, if_neg (Ne.symm e)]; omega

theorem K_le_left : ∀ (x y : List α), K x y ≤ x.length
  | [], y => by simp
  | a :: x, y => by
    have h1 := K_left a x y
    have h2 := K_le_left x y
    simp only [List.length_cons]; omega
theorem K_le_right (x y : List α) : K x y ≤ y.length := by
  rw [K_comm _ x y (Nat.le_refl _)]; exact K_le_left y x

theorem K_self : ∀ (x : List α), K x x = x.length
  | [] => by simp
  | a :: x => by rw [K_eq, K_self x]; simp

theorem K_pre : ∀ (p x y : List α), p.length + K x y ≤ K (p ++ x) (p ++ y)
  | [], x, y => by simp
  | a :: p, x, y => by
    have := K_pre p x y
    simp only [List.cons_append, List.length_cons]
    rw [K_eq]; omega

theorem K_app_left : ∀ (p x y : List α), K x y ≤ K (p ++ x) y
  | [], x, y => by simp
  | a :: p, x, y => by
    have h1 := K_app_left p x y
    have h2 := K_drop_left a (p ++ x) y
    simp only [List.cons_append]; omega
theorem K_app_right : ∀ (p x y : List α), K x y ≤ K x (p ++ y)
  | [], x, y => by simp
  | b :: p, x, y => by
    have h1 := K_app_right p x y
    have h2 := K_drop_right x b (p ++ y)
    simp only [List.cons_append]; omega

/-- What two rows have in common with a third one they have, but for its length, in common. -/
theorem K_tri : ∀ (n : Nat) (x y z : List α), x.length + y.length + z.length ≤ n → K x y + K y z ≤ y.length + K x z := by
  intro n
  induction n with
  | zero =>
    intro x y z h
    have hy : y = [] := List.eq_nil_of_length_eq_zero (by omega)
    subst hy
    simp
  | succ n ih =>
    intro x y z h
    cases x with
    | nil => have := K_le_left y z; simp; omega
    | cons a aas =>
      cases z with
      | nil => have := K_le_right (a :: aas) y; simp; omega
      | cons c cs =>
        cases y with
        | nil => simp
        | cons b bs =>
          simp only [List.length_cons] at h ⊢
          have i1 := ih aas (b :: bs) (c :: cs) (by simp; omega)
          have i2 := ih (a :: aas) (b :: bs) cs (by simp; omega)
          have i3 := ih (a :: aas) bs (c :: cs) (by simp; omega)
          have i4 := ih aas bs (c :: cs) (by simp; omega)
          have i5 := ih (a :: aas) bs cs (by simp; omega)
          have i6 := ih aas bs cs (by omega)
          have d1 := K_drop_left a aas (c :: cs)
          have d2 := K_drop_right (a :: aas) c cs
          have d5 := K_drop_right (a :: aas) c cs
          simp only [List.length_cons] at i1 i2
          have e1 : K (a :: aas) (b :: bs) = K aas (b :: bs) ∨ K (a :: aas) (b :: bs) = K (a :: aas) bs ∨ (a = b ∧ K (a :: aas) (b :: bs) = K aas bs + 1) := by
            by_cases hab : a = b
            · subst hab; exact .inr (.inr ⟨rfl, K_eq _ _ _⟩)
            · rw [K_ne hab]; omega
          have e2 : K (b :: bs) (c :: cs) = K bs (c :: cs) ∨ K (b :: bs) (c :: cs) = K (b :: bs) cs ∨ (b = c ∧ K (b :: bs) (c :: cs) = K bs cs + 1) := by
            by_cases hbc : b = c
            · subst hbc; exact .inr (.inr ⟨rfl, K_eq _ _ _⟩)
            · rw [K_ne hbc]; omega
          rcases e1 with e1 | e1 | ⟨hab, e1⟩
          · omega
          · rcases e2 with e2 | e2 | ⟨hbc, e2⟩
            · omega
            · omega
            · omega
          · rcases e2 with e2 | e2 | ⟨hbc, e2⟩
            · omega
            · omega
            · subst hab; subst hbc
              have := K_eq a aas cs
              omega

/-- A hunk's lines: K of what it makes. -/
theorem K_hunk (p o n s : List α) : p.length + s.length ≤ K (p ++ (o ++ s)) (p ++ (n ++ s)) := by
  have h1 := K_pre p (o ++ s) (n ++ s)
  have h2 := K_app_left o s (n ++ s)
  have h3 := K_app_right n s s
  rw [K_self] at h3
  omega

/-! ### The walk -/

structure Hk (α : Type) where
  at_ : Nat
  old : List α
  new : List α
  deriving Repr, DecidableEq

def Hk.size (h : Hk α) : Nat := h.old.length + h.new.length

/-- The hunks from some lines to others: what is left of both, the place among the new ones, the hunk that is open. -/
def walk : List α → List α → Nat → Option (Hk α) → List (Hk α)
  | [], [], _, c => c.toList
  | a :: aas, [], j, c => walk aas [] j (some ⟨(c.getD ⟨j, [], []⟩).at_, (c.getD ⟨j, [], []⟩).old ++ [a], (c.getD ⟨j, [], []⟩).new⟩)
  | [], b :: bs, j, c => walk [] bs (j + 1) (some ⟨(c.getD ⟨j, [], []⟩).at_, (c.getD ⟨j, [], []⟩).old, (c.getD ⟨j, [], []⟩).new ++ [b]⟩)
  | a :: aas, b :: bs, j, c =>
    if a = b then c.toList ++ walk aas bs (j + 1) none
    else if K (a :: aas) bs ≤ K aas (b :: bs) then walk aas (b :: bs) j (some ⟨(c.getD ⟨j, [], []⟩).at_, (c.getD ⟨j, [], []⟩).old ++ [a], (c.getD ⟨j, [], []⟩).new⟩)
    else walk (a :: aas) bs (j + 1) (some ⟨(c.getD ⟨j, [], []⟩).at_, (c.getD ⟨j, [], []⟩).old, (c.getD ⟨j, [], []⟩).new ++ [b]⟩)
termination_by x y => x.length + y.length

def sizes (l : List (Hk α)) : Nat := (l.map Hk.size).sum

def csize (c : Option (Hk α)) : Nat := sizes c.toList

omit [DecidableEq α] in
theorem csize_some (h : Hk α) : csize (some h) = h.size := by simp [csize, sizes]
omit [DecidableEq α] in
theorem csize_getD (c : Option (Hk α)) (j : Nat) : (c.getD ⟨j, [], []⟩).size = csize c := by cases c <;> simp [csize, sizes, Hk.size]

theorem walk_size : ∀ (n : Nat) (x y : List α) (j : Nat) (c : Option (Hk α)), x.length + y.length ≤ n → sizes (walk x y j c) + 2 * K x y = csize c + x.length + y.length := by
  intro n
  induction n with
  | zero =>
    intro x y j c h
    have hx : x = [] := List.eq_nil_of_length_eq_zero (by omega)
    have hy : y = [] := List.eq_nil_of_length_eq_zero (by omega)
    subst hx; subst hy
    rw [walk]; simp [csize]
  | succ n ih =>
    intro x y j c h
    have hc := csize_getD c j
    simp only [Hk.size] at hc
    cases x with
    | nil =>
      cases y with
      | nil => rw [walk]; simp [csize]
      | cons b bs =>
        rw [walk]
        have := ih [] bs (j + 1) (some ⟨(c.getD ⟨j, [], []⟩).at_, (c.getD ⟨j, [], []⟩).old, (c.getD ⟨j, [], []⟩).new ++ [b]⟩) (by simp at h ⊢; omega)
        rw [csize_some] at this
        simp only [Hk.size, List.length_append, List.length_cons, List.length_nil, K_nil] at this ⊢
        omega
    | cons a aas =>
      cases y with
      | nil =>
        rw [walk]
        have := ih aas [] j (some ⟨(c.getD ⟨j, [], []⟩).at_, (c.getD ⟨j, [], []⟩).old ++ [a], (c.getD ⟨j, [], []⟩).new⟩) (by simp at h ⊢; omega)
        rw [csize_some] at this
        simp only [Hk.size, List.length_append, List.length_cons, List.length_nil, K_nil'] at this ⊢
        omega
      | cons b bs =>
        simp only [List.length_cons] at h
        rw [walk]
        by_cases e : a = b
        · subst e
          rw [if_pos rfl, K_eq]
          have := ih aas bs (j + 1) none (by omega)
          simp only [sizes, List.map_append, List.sum_append, List.length_cons] at this ⊢
          have e2 : csize (none : Option (Hk α)) = 0 := rfl
          rw [e2] at this
          have e3 : (c.toList.map Hk.size).sum = csize c := rfl
          omega
        · rw [if_neg e, K_ne e]
          split
          · rename_i hle
            have := ih aas (b :: bs) j (some ⟨(c.getD ⟨j, [], []⟩).at_, (c.getD ⟨j, [], []⟩).old ++ [a], (c.getD ⟨j, [], []⟩).new⟩) (by simp; omega)
            rw [csize_some] at this
            simp only [Hk.size, List.length_append, List.length_cons, List.length_nil] at this ⊢
            omega
          · rename_i hle
            have := ih (a :: aas) bs (j + 1) (some ⟨(c.getD ⟨j, [], []⟩).at_, (c.getD ⟨j, [], []⟩).old, (c.getD ⟨j, [], []⟩).new ++ [b]⟩) (by simp; omega)
            rw [csize_some] at this
            simp only [Hk.size, List.length_append, List.length_cons, List.length_nil] at this ⊢
            omega

def diff (x y : List α) : List (Hk α) := walk x y 0 none

theorem diff_size (x y : List α) : sizes (diff x y) + 2 * K x y = x.length + y.length := by
  have := walk_size _ x y 0 none (Nat.le_refl _)
  have e2 : csize (none : Option (Hk α)) = 0 := rfl
  rw [e2] at this
  unfold diff
  omega

/-! ### What the hunks make -/

/-- A hunk applied: where its old lines stand. -/
def fits (now : List α) (h : Hk α) : Prop := ∃ p s, p.length = h.at_ ∧ now = p ++ (h.old ++ s)

def put (now : List α) (h : Hk α) : List α := now.take h.at_ ++ (h.new ++ now.drop (h.at_ + h.old.length))

omit [DecidableEq α] in
theorem put_eq {p s : List α} {h : Hk α} (hp : p.length = h.at_) : put (p ++ (h.old ++ s)) h = p ++ (h.new ++ s) := by
  unfold put
  rw [List.take_left' hp, ← hp, ← List.drop_drop, List.drop_left, List.drop_left]

/-- Hunks one behind the other, none touching another: from 'now' they make 'y'; the first one stands at 'lo' or behind. -/
inductive Makes : List α → List (Hk α) → List α → Nat → Prop
  | nil {now : List α} {lo : Nat} : Makes now [] now lo
  | cons {now : List α} {h : Hk α} {l : List (Hk α)} {y : List α} {lo : Nat} : fits now h → lo ≤ h.at_ → 0 < h.size → Makes (put now h) l y (h.at_ + h.new.length + 1) → Makes now (h :: l) y lo

omit [DecidableEq α] in
theorem Makes.low {now y : List α} {l : List (Hk α)} {lo lo' : Nat} (h : Makes now l y lo) (hl : lo' ≤ lo) : Makes now l y lo' := by
  cases h with
  | nil => exact .nil
  | cons h1 h2 h3 h4 => exact .cons h1 (by omega) h3 h4

/-- The walk's hunks make the new lines: ahead of the open hunk 'pre' is made already. -/
theorem walk_makes : ∀ (n : Nat) (x y : List α) (pre : List α) (c : Option (Hk α)), x.length + y.length ≤ n →
    (match c with
      | none => ∀ lo, lo ≤ pre.length → Makes (pre ++ x) (walk x y pre.length none) (pre ++ y) lo
      | some h => 0 < h.size → h.at_ = pre.length → Makes (pre ++ (h.old ++ x)) (walk x y (pre.length + h.new.length) (some h)) (pre ++ (h.new ++ y)) pre.length) := by
  intro n
  induction n with
  | zero =>
    intro x y pre c h
    have hx : x = [] := List.eq_nil_of_length_eq_zero (by omega)
    have hy : y = [] := List.eq_nil_of_length_eq_zero (by omega)
    subst hx; subst hy
    cases c with
    | none => intro lo _; rw [walk]; exact .nil
    | some h =>
      intro h0 h1
      rw [walk]
      simp only [Option.toList]
      refine .cons ⟨pre, [], h1.symm, rfl⟩ (by omega) h0 ?_
      rw [put_eq h1.symm]
      exact .nil
  | succ n ih =>
    intro x y pre c h
    -- one line dropped, one put in
    have drop : ∀ (a : α) (aas y : List α), aas.length + y.length ≤ n → (match c with
        | none => ∀ lo, lo ≤ pre.length → Makes (pre ++ a :: aas) (walk aas y pre.length (some ⟨pre.length, [] ++ [a], []⟩)) (pre ++ y) lo
        | some h => 0 < h.size → h.at_ = pre.length → Makes (pre ++ (h.old ++ a :: aas)) (walk aas y (pre.length + h.new.length) (some ⟨h.at_, h.old ++ [a], h.new⟩)) (pre ++ (h.new ++ y)) pre.length) := by
      intro a aas y hl
      cases c with
      | none =>
        intro lo hlo
        have := ih aas y pre (some ⟨pre.length, [] ++ [a], []⟩) hl (by simp [Hk.size]) rfl
        exact (by simpa using this : Makes (pre ++ a :: aas) (walk aas y pre.length (some ⟨pre.length, [] ++ [a], []⟩)) (pre ++ y) pre.length).low hlo
      | some h =>
        intro h0 h1
        have := ih aas y pre (some ⟨h.at_, h.old ++ [a], h.new⟩) hl (by simp [Hk.size]; omega) h1
        simpa using this
    have ins : ∀ (b : α) (x bs : List α), x.length + bs.length ≤ n → (match c with
        | none => ∀ lo, lo ≤ pre.length → Makes (pre ++ x) (walk x bs (pre.length + 1) (some ⟨pre.length, [], [] ++ [b]⟩)) (pre ++ b :: bs) lo
        | some h => 0 < h.size → h.at_ = pre.length → Makes (pre ++ (h.old ++ x)) (walk x bs (pre.length + h.new.length + 1) (some ⟨h.at_, h.old, h.new ++ [b]⟩)) (pre ++ (h.new ++ b :: bs)) pre.length) := by
      intro b x bs hl
      cases c with
      | none =>
        intro lo hlo
        have := ih x bs pre (some ⟨pre.length, [], [] ++ [b]⟩) hl (by simp [Hk.size]) rfl
        exact (by simpa using this : Makes (pre ++ x) (walk x bs (pre.length + 1) (some ⟨pre.length, [], [] ++ [b]⟩)) (pre ++ b :: bs) pre.length).low hlo
      | some h =>
        intro h0 h1
        have := ih x bs pre (some ⟨h.at_, h.old, h.new ++ [b]⟩) hl (by simp [Hk.size]; omega) h1
        simpa [Nat.add_assoc] using this
    cases x with
    | nil =>
      cases y with
      | nil =>
        cases c with
        | none => intro lo _; rw [walk]; exact .nil
        | some h =>
          intro h0 h1
          rw [walk]
          simp only [Option.toList]
          refine .cons ⟨pre, [], h1.symm, rfl⟩ (by omega) h0 ?_
          rw [put_eq h1.symm]
          exact .nil
      | cons b bs =>
        have := ins b [] bs (by simp at h ⊢; omega)
        cases c with
        | none => intro lo hlo; rw [walk]; exact this lo hlo
        | some h => intro h0 h1; rw [walk]; exact this h0 h1
    | cons a aas =>
      cases y with
      | nil =>
        have := drop a aas [] (by simp at h ⊢; omega)
        cases c with
        | none => intro lo hlo; rw [walk]; exact this lo hlo
        | some h => intro h0 h1; rw [walk]; exact this h0 h1
      | cons b bs =>
        simp only [List.length_cons] at h
        by_cases e : a = b
        · subst e
          cases c with
          | none =>
            intro lo hlo
            rw [walk, if_pos rfl]
            have := ih aas bs (pre ++ [a]) none (by omega) lo (by simp; omega)
            simpa using this
          | some hh =>
            intro h0 h1
            rw [walk, if_pos rfl]
            simp only [Option.toList, List.cons_append, List.nil_append]
            refine .cons ⟨pre, a :: aas, h1.symm, rfl⟩ (by omega) h0 ?_
            rw [put_eq h1.symm]
            have := ih aas bs (pre ++ (hh.new ++ [a])) none (by omega) (hh.at_ + hh.new.length + 1) (by simp; omega)
            simpa [Nat.add_assoc] using this
        · by_cases hle : K (a :: aas) bs ≤ K aas (b :: bs)
          · have := drop a aas (b :: bs) (by simp; omega)
            cases c with
            | none => intro lo hlo; rw [walk, if_neg e, if_pos hle]; exact this lo hlo
            | some h => intro h0 h1; rw [walk, if_neg e, if_pos hle]; exact this h0 h1
          · have := ins b (a :: aas) bs (by simp; omega)
            cases c with
            | none => intro lo hlo; rw [walk, if_neg e, if_neg hle]; exact this lo hlo
            | some h => intro h0 h1; rw [walk, if_neg e, if_neg hle]; exact this h0 h1

theorem diff_makes (x y : List α) : Makes x (diff x y) y 0 := by
  have := walk_makes _ x y [] none (Nat.le_refl _) 0 (Nat.le_refl _)
  simpa [diff] using this

/-- Any hunks that make the new lines change as many lines at least. -/
theorem fits_K {now : List α} {h : Hk α} (hf : fits now h) : now.length + (put now h).length ≤ 2 * K now (put now h) + h.size := by
  obtain ⟨p, s, hp, rfl⟩ := hf
  rw [put_eq hp]
  have := K_hunk p h.old h.new s
  simp only [List.length_append, Hk.size]
  omega

theorem D_tri (x y z : List α) : x.length + z.length + 2 * K x y + 2 * K y z ≤ (x.length + y.length) + (y.length + z.length) + 2 * K x z := by
  have := K_tri _ x y z (Nat.le_refl _)
  omega

end
end Go.Ev.Pl

/-
  THE TYPES OF THIS SEAT's PROGRAM.
-/
namespace Go.Ev
open Go.Proofs
def tys : List Ty := [.unit, .raw, (.int .i64), (.int .i64), .bool, (.int .u8), (.int .u8), (.agg (.cons (.int .i64) (.cons (.int .i64) (.cons .bool (.cons (.int .u8) .unit))))), (.agg (.cons (.int .i64) (.cons (.int .i64) (.cons .bool (.cons (.int .u8) .unit))))), .str, .str, .str, (.int .u64), (.agg (.cons .str (.cons (.int .u64) .unit))), (.agg (.cons .str (.cons (.int .u64) .unit))), .raw, .raw, .raw, (.agg (.cons .raw .unit)), (.agg (.cons .raw .unit)), .raw, (.int .i32), (.slice .str), .raw, .raw, (.slice (.agg (.cons (.int .i64) (.cons (.slice .str) (.cons (.slice .str) .unit))))), (.int .i64), .unit, .raw, .unit, .raw, .raw, (.slice (.agg (.cons (.int .i64) (.cons (.slice .str) (.cons (.slice .str) .unit))))), .raw, (.slice (.int .i64)), (.slice (.slice (.int .i64))), .raw, (.agg (.cons (.int .i64) (.cons (.slice .str) (.cons (.slice .str) .unit)))), (.agg (.cons (.int .i64) (.cons (.slice .str) (.cons (.slice .str) .unit)))), .raw, (.agg (.cons (.int .i64) (.cons (.slice .str) (.cons (.slice .str) .unit)))), .unit, .raw, .raw, .raw, .raw, .unit, .raw, .raw, .raw, (.slice (.slice .str)), .raw, .raw, .raw, .raw, .raw, .raw, (.slice (.agg (.cons (.int .i64) (.cons (.int .i64) (.cons (.slice .str) .unit))))), .raw, (.arr 2 (.slice (.agg (.cons (.int .i64) (.cons (.int .i64) (.cons (.slice .str) .unit)))))), (.agg (.cons (.int .i64) (.cons (.int .i64) (.cons (.arr 2 (.slice (.agg (.cons (.int .i64) (.cons (.int .i64) (.cons (.slice .str) .unit)))))) .unit)))), (.agg (.cons (.int .i64) (.cons (.int .i64) (.cons (.arr 2 (.slice (.agg (.cons (.int .i64) (.cons (.int .i64) (.cons (.slice .str) .unit)))))) .unit)))), .unit, .raw, .unit, .raw, .raw, (.slice (.agg (.cons (.int .i64) (.cons (.int .i64) (.cons (.int .i64) (.cons (.slice .str) .unit)))))), .raw, .raw, (.agg (.cons (.int .i64) (.cons (.int .i64) (.cons (.int .i64) (.cons (.slice .str) .unit))))), (.agg (.cons (.int .i64) (.cons (.int .i64) (.cons (.int .i64) (.cons (.slice .str) .unit))))), (.arr 2 .bool), .raw, (.agg (.cons (.int .i64) (.cons (.int .i64) (.cons (.slice .str) .unit)))), (.agg (.cons (.int .i64) (.cons (.int .i64) (.cons (.slice .str) .unit)))), .raw, .raw, .raw, .raw, .raw, .raw, .raw, .raw, .raw, .raw, (.int .u64), (.int .u32), .unit, .raw, .raw, (.agg (.cons .raw (.cons .raw (.cons .raw (.cons .str .unit))))), (.agg (.cons .raw (.cons .raw (.cons .raw (.cons .str .unit))))), (.arr 0 .raw), .unit, .unit, .raw, (.int .u8), (.int .u8), .raw, .raw, (.int .i32), (.int .i32), (.agg (.cons (.int .u64) (.cons (.int .u64) (.cons (.int .u32) (.cons (.int .u8) (.cons (.int .u8) (.cons (.int .u8) (.cons (.int .u8) (.cons .raw (.cons .raw (.cons (.int .i32) (.cons (.int .i32) .unit)))))))))))), (.agg (.cons (.int .u64) (.cons (.int .u64) (.cons (.int .u32) (.cons (.int .u8) (.cons (.int .u8) (.cons (.int .u8) (.cons (.int .u8) (.cons .raw (.cons .raw (.cons (.int .i32) (.cons (.int .i32) .unit)))))))))))), .raw]
def els : List Nat := [0, 0, 0, 0, 0, 0, 0, 0, 0, 0, 0, 0, 0, 0, 0, 0, 0, 0, 0, 0, 0, 0, 16, 0, 0, 56, 0, 0, 0, 0, 0, 0, 56, 0, 8, 24, 0, 0, 0, 0, 0, 0, 0, 0, 0, 0, 0, 0, 0, 0, 24, 0, 0, 0, 0, 0, 0, 40, 0, 0, 0, 0, 0, 0, 0, 0, 0, 48, 0, 0, 0, 0, 0, 0, 0, 0, 0, 0, 0, 0, 0, 0, 0, 0, 0, 0, 0, 0, 0, 0, 0, 0, 0, 0, 0, 0, 0, 0, 0, 0, 0, 0, 0, 0, 0, 0]
def tab : Tab := ⟨tys, els⟩
theorem tab_ok : tab.ok Try.prog = true := by kernel_rfl
end Go.Ev
