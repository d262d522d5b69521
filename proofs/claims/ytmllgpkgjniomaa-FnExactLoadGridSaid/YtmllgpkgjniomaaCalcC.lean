/- What the printed walks use: partial values, lists of cells, relaxed states. -/
import Derived.Test.YtmllgpkgjniomaaCalcB
import Derived.Laws.BytesString
import Derived.Below
import Derived.RowKit
import Derived.Sort.Grow
import Derived.Sort.Row
set_option linter.unusedVariables false
set_option linter.unusedSimpArgs false
set_option linter.unusedSectionVars false
namespace Go.Proofs.Ytmllgpkgjniomaa.AWN
open Go

/-! ### Partial values -/
theorem bnd_some {α β : Type} {o : Option α} {f : α → Option β} {r : β} (h : o.bind f = some r) : ∃ a, o = some a ∧ f a = some r := by
  cases o with
  | none => cases h
  | some a => exact ⟨a, rfl, h⟩
theorem bnd_elim {α β : Type} {o : Option α} {f : α → Option β} {r : β} {C : Prop} (h : o.bind f = some r) (k : ∀ a, o = some a → f a = some r → C) : C :=
  have ⟨a, h1, h2⟩ := bnd_some h
  k a h1 h2
def grd {α : Type} (p : Prop) [Decidable p] (x : Option α) : Option α := if p then x else none
theorem grd_some {α : Type} {p : Prop} [Decidable p] {x : Option α} {r : α} (h : grd p x = some r) : p ∧ x = some r := by
  unfold grd at h
  split at h
  · rename_i hp; exact ⟨hp, h⟩
  · cases h
theorem grd_elim {α : Type} {p : Prop} [Decidable p] {x : Option α} {r : α} {C : Prop} (h : grd p x = some r) (k : p → x = some r → C) : C := k (grd_some h).1 (grd_some h).2
def getI {α : Type} (l : List α) (i : Int) : Option α := if 0 ≤ i then l[i.toNat]? else none
theorem getI_some {α : Type} {l : List α} {i : Int} {x : α} (h : getI l i = some x) : 0 ≤ i ∧ l[i.toNat]? = some x := by
  unfold getI at h
  split at h
  · rename_i hp; exact ⟨hp, h⟩
  · cases h
theorem if_t {α : Type} {p : Prop} [Decidable p] {x y : Option α} {r : α} (h : (if p then x else y) = some r) (hc : decide p = true) : x = some r := by
  rw [if_pos (of_decide_eq_true hc)] at h; exact h
theorem if_f {α : Type} {p : Prop} [Decidable p] {x y : Option α} {r : α} (h : (if p then x else y) = some r) (hc : decide p = false) : y = some r := by
  rw [if_neg (of_decide_eq_false hc)] at h; exact h
theorem if_bt {α : Type} {b : Bool} {x y : Option α} {r : α} (h : (if b = true then x else y) = some r) (hc : b = true) : x = some r := by
  rw [if_pos hc] at h; exact h
theorem if_bf {α : Type} {b : Bool} {x y : Option α} {r : α} (h : (if b = true then x else y) = some r) (hc : b = false) : y = some r := by
  rw [if_neg (by rw [hc]; decide)] at h; exact h
theorem not_t {b : Bool} (h : (!b) = true) : b = false := by cases b <;> simp_all
theorem not_f {b : Bool} (h : (!b) = false) : b = true := by cases b <;> simp_all
def room (n b : Nat) : Prop := n * b ≤ 140737488355328
instance (n b : Nat) : Decidable (room n b) := by unfold room; infer_instance
abbrev w64 (n : Int) : Int := IntKind.wrap .i64 n
structure Cx where
  re : Nat
  im : Nat
deriving DecidableEq
abbrev Str := List UInt8
def bstr (s : Str) : ByteArray := ⟨s.toArray⟩

/-! ### Lists of cells -/
section
variable {α : Type} {f : α → List D}
theorem map_get {l : List α} {k : Nat} {x : α} (h : l[k]? = some x) : (l.map f)[k]? = some (f x) := by simp [h]
theorem map_getI {l : List α} {i : Int} {x : α} (h : getI l i = some x) : (l.map f)[i.toNat]? = some (f x) := map_get (getI_some h).2
theorem len_map (l : List α) : (l.map f).length = l.length := List.length_map ..
theorem row_get {l : List α} {i : Int} {x : α} (h : getI l i = some x) : (l.map f)[0 + i.toNat]? = some (f x) := by rw [Nat.zero_add]; exact map_getI h
theorem row_need {l : List α} {i : Int} {x : α} (h : getI l i = some x) : 0 ≤ i ∧ i < (l.length : Int) ∧ 0 + l.length ≤ l.length ∧ (l.map f).length = l.length := by
  obtain ⟨h1, h2⟩ := getI_some h
  have h3 : i.toNat < l.length := by
    rcases Nat.lt_or_ge i.toNat l.length with h4 | h4
    · exact h4
    · rw [List.getElem?_eq_none h4] at h2; cases h2
  refine ⟨h1, by omega, by omega, len_map l⟩
theorem map_lens {sz : Nat} (hf : ∀ x, (f x).length = sz) (l : List α) : ∀ y ∈ l.map f, y.length = sz := by
  intro y hy
  obtain ⟨x, _, rfl⟩ := List.mem_map.1 hy
  exact hf x
theorem row_all {L : Nat} (l : List α) (h : l.length = L) : ((l.map f).drop 0).take L = l.map f := by
  subst h; simp [List.take_of_length_le]
end

theorem mapO_nil {α β : Type} {f : α → Option β} : mapO f [] = some [] := rfl
theorem mapO_cons {α β : Type} {f : α → Option β} {x : α} {l : List α} {y : β} {r : List β} (h : f x = some y) (h' : mapO f l = some r) : mapO f (x :: l) = some (y :: r) := by
  unfold mapO; rw [h, h']
section
variable {ρ : Nat → Option Nat} {H : Nat → AObj} {α : Type} {f : α → List D}
theorem exC_view {j sz L : Nat} (l : List α) (hr : ρ j = none) (hj : H j = .row sz (l.map f)) (hL : L = l.length) : exC ρ H true (.row j L 0 L) = some (.d (.sl false (l.map f))) := by
  subst hL
  simp only [exC, hr, hj]
  rw [row_all l rfl]
theorem exV_view {j sz L : Nat} (l : List α) (hr : ρ j = none) (hj : H j = .row sz (l.map f)) (hL : L = l.length) : exV ρ H true (.row j L 0 L) = some (.d (.sl false (l.map f))) := exC_view l hr hj hL
theorem exP_view {j sz L : Nat} (l : List α) (hr : ρ j = none) (hj : H j = .row sz (l.map f)) (hL : L = l.length) : exP ρ H (.row j L 0 L) := by
  subst hL
  simp [exP, hr, hj]
theorem exVP_view {j sz L : Nat} (l : List α) (hr : ρ j = none) (hj : H j = .row sz (l.map f)) (hL : L = l.length) : exVP ρ H (.row j L 0 L) := exP_view l hr hj hL
theorem exA_agg {cs ds : List V} (h : mapO (exC ρ H true) cs = some ds) : exA ρ H true (.agg cs) = some (.agg ds) := by simp only [exA, h]
theorem exV_agg {cs ds : List V} (h : mapO (exC ρ H true) cs = some ds) : exV ρ H true (.agg cs) = some (.agg ds) := exA_agg h
theorem exV_tup {cs ds : List V} (h : mapO (exA ρ H true) cs = some ds) : exV ρ H true (.tup cs) = some (.tup ds) := by simp only [exV, h]
theorem exA_view {j sz L : Nat} (l : List α) (hr : ρ j = none) (hj : H j = .row sz (l.map f)) (hL : L = l.length) : exA ρ H true (.row j L 0 L) = some (.d (.sl false (l.map f))) := exC_view l hr hj hL
theorem exO_box {cs ds : List V} (h : mapO (exC ρ H true) cs = some ds) : exO ρ H true (.box cs) = some (.box ds) := by simp only [exO, h]
end

/-! ### Relaxed states -/
/-- Data that say less. -/
inductive DLe : D → D → Prop where
  | refl (x : D) : DLe x x
  | nil : DLe .nils (.sl false [])
  | flag (t : Bool) (es : List (List D)) : DLe (.sl t es) (.sl false es)
theorem RelD.le {W : World} {ok : Nat → Prop} {x y : D} {v : Value} (h : DLe x y) (hr : RelD W ok x v) : RelD W ok y v := by
  cases h with
  | refl => exact hr
  | nil => cases hr; exact .slnil false
  | flag t es =>
    cases hr with
    | slnil => exact .slnil false
    | sle t a => exact .sle false a
    | sl sz vals h1 h2 h3 h4 h5 h6 h7 h8 => exact .sl sz vals h1 h2 h3 (fun h => nomatch h) h5 h6 h7 h8
/-- Cells that say less; 'g': names of new rows that stand for nil. -/
inductive CLe (g : Nat → Prop) : V → V → Prop where
  | refl (x : V) : CLe g x x
  | d {x y : D} : DLe x y → CLe g (.d x) (.d y)
  | ghost {j : Nat} : g j → CLe g (.d .nils) (.row j 0 0 0)
  | junk (x : V) : CLe g x .junk
inductive LLe (g : Nat → Prop) : List V → List V → Prop where
  | nil : LLe g [] []
  | cons {x y : V} {l r : List V} : CLe g x y → LLe g l r → LLe g (x :: l) (y :: r)
inductive VLe (g : Nat → Prop) : V → V → Prop where
  | c {x y : V} : CLe g x y → VLe g x y
  | agg {l r : List V} : LLe g l r → VLe g (.agg l) (.agg r)
inductive OLe (g : Nat → Prop) : AObj → AObj → Prop where
  | refl (o : AObj) : OLe g o o
  | box {l r : List V} : LLe g l r → OLe g (.box l) (.box r)
inductive ELe (g : Nat → Prop) : List (Nat × V) → List (Nat × V) → Prop where
  | nil : ELe g [] []
  | cons {t : Nat} {x y : V} {l r : List (Nat × V)} : VLe g x y → ELe g l r → ELe g ((t, x) :: l) ((t, y) :: r)
inductive HLe (g : Nat → Prop) : List AObj → List AObj → Prop where
  | nil : HLe g [] []
  | cons {x y : AObj} {l r : List AObj} : OLe g x y → HLe g l r → HLe g (x :: l) (y :: r)

theorem LLe.len {g : Nat → Prop} {l r : List V} (h : LLe g l r) : l.length = r.length := by
  induction h with
  | nil => rfl
  | cons _ _ ih => simp [ih]
theorem HLe.len {g : Nat → Prop} {l r : List AObj} (h : HLe g l r) : l.length = r.length := by
  induction h with
  | nil => rfl
  | cons _ _ ih => simp [ih]
theorem LLe.get {g : Nat → Prop} {l r : List V} (h : LLe g l r) : ∀ i, CLe g (l.getD i .junk) (r.getD i .junk) := by
  induction h with
  | nil => intro i; exact .refl _
  | cons h _ ih =>
    intro i
    cases i with
    | zero => simpa using h
    | succ i => simpa using ih i
theorem HLe.get {g : Nat → Prop} {l r : List AObj} (h : HLe g l r) : ∀ i, OLe g (l.getD i .none) (r.getD i .none) := by
  induction h with
  | nil => intro i; exact .refl _
  | cons h _ ih =>
    intro i
    cases i with
    | zero => simpa using h
    | succ i => simpa using ih i

/-- The rows that are new and stand for nil. -/
structure Ghosts (g : Nat → Prop) (hb : Handle) (H : Nat → AObj) : Prop where
  row : ∀ j, g j → ∃ sz, H j = .row sz []
  none : ∀ j, g j → hb j = none
section
variable {W : World} {hb : Handle} {H : Nat → AObj} {ok : Nat → Prop} {g : Nat → Prop}
theorem rel_cle (G : Ghosts g hb H) {x y : V} {v : Value} (h : CLe g x y) (hr : Rel W hb H ok x v) : Rel W hb H ok y v := by
  cases h with
  | refl => exact hr
  | d h => cases hr with | d hr => exact .d (hr.le h)
  | ghost h =>
    cases hr with
    | d hr =>
      cases hr
      obtain ⟨sz, e⟩ := G.row _ h
      exact .rowNil e (G.none _ h)
  | junk => exact .junk _
theorem rel_lle (G : Ghosts g hb H) {cs ds : List V} {c : Array Value} (h : LLe g cs ds) (hr : cs.length = c.size ∧ ∀ i, i < c.size → Rel W hb H ok (cs.getD i .junk) (c.getD i undef)) : ds.length = c.size ∧ ∀ i, i < c.size → Rel W hb H ok (ds.getD i .junk) (c.getD i undef) :=
  ⟨h.len ▸ hr.1, fun i hi => rel_cle G (h.get i) (hr.2 i hi)⟩
theorem rel_vle (G : Ghosts g hb H) {x y : V} {v : Value} (h : VLe g x y) (hr : Rel W hb H ok x v) : Rel W hb H ok y v := by
  cases h with
  | c h => exact rel_cle G h hr
  | agg h => cases hr with | agg h1 h2 => exact .agg (rel_lle G h ⟨h1, h2⟩).1 (rel_lle G h ⟨h1, h2⟩).2
theorem rel_ele (G : Ghosts g hb H) {a : Act} : ∀ {l r : List (Nat × V)}, ELe g l r → (∀ t, Rel W hb H ok (look l t) (a.tmps.getD t undef)) → ∀ t, Rel W hb H ok (look r t) (a.tmps.getD t undef) := by
  intro l r h
  induction h with
  | nil => exact fun h => h
  | @cons k x y l r hv _ ih =>
    intro hr t
    have hk := hr t
    unfold look at hk ⊢
    cases hb' : Nat.beq k t with
    | true => rw [hb'] at hk; exact rel_vle G hv hk
    | false =>
      rw [hb'] at hk
      -- look in the rest
      have : ∀ u, Rel W hb H ok (if Nat.beq k u then .junk else look l u) (a.tmps.getD u undef) := fun u => by
        have := hr u
        unfold look at this
        cases hu : Nat.beq k u with
        | true => simp only [if_true]; exact .junk _
        | false => rw [hu] at this; simpa using this
      clear ih hr
      have go : ∀ {l r : List (Nat × V)}, ELe g l r → ∀ u, Rel W hb H ok (look l u) (a.tmps.getD u undef) → Rel W hb H ok (look r u) (a.tmps.getD u undef) := by
        intro l r h
        induction h with
        | nil => exact fun _ h => h
        | @cons k x y l r hv _ ih =>
          intro u hu
          unfold look at hu ⊢
          cases hb2 : Nat.beq k u with
          | true => rw [hb2] at hu; exact rel_vle G hv hu
          | false => rw [hb2] at hu; exact ih u hu
      rename_i hl
      exact go hl t hk
end
end Go.Proofs.Ytmllgpkgjniomaa.AWN

namespace Go.Proofs.Ytmllgpkgjniomaa.AWN
open Go

theorem heapOf_ge {objs : List AObj} {j : Nat} (h : objs.length ≤ j) : heapOf objs j = .none := by
  unfold heapOf; rw [List.getD_eq_getElem?_getD, List.getElem?_eq_none h]; rfl
theorem heapOf_l {a b : List AObj} {j : Nat} (h : j < a.length) : heapOf (a ++ b) j = heapOf a j := by
  unfold heapOf; rw [List.getD_eq_getElem?_getD, List.getD_eq_getElem?_getD, List.getElem?_append_left h]
theorem heapOf_r {a b : List AObj} {j : Nat} (h : a.length ≤ j) : heapOf (a ++ b) j = heapOf b (j - a.length) := by
  unfold heapOf; rw [List.getD_eq_getElem?_getD, List.getD_eq_getElem?_getD, List.getElem?_append_right h]

def nilRows (gs : List Nat) : List AObj := gs.map fun sz => .row sz []

/-- Rows that stand for nil come in; values say less. -/
theorem weak_relax (gs : List Nat) {l l' : List (Nat × V)} {objs objs' : List AObj} {nt base : Nat} (hE : ELe (fun j => objs.length ≤ j ∧ j < objs.length + gs.length) l l') (hH : HLe (fun j => objs.length ≤ j ∧ j < objs.length + gs.length) objs objs') :
    Weak (St.of l objs nt base) (St.of l' (objs' ++ nilRows gs) nt base) := by
  intro w0 A okA hb a W hs
  have hlen := hH.len
  let g : Nat → Prop := fun j => objs.length ≤ j ∧ j < objs.length + gs.length
  let hb2 : Handle := fun j => if j < objs.length then hb j else none
  have hbl : ∀ j, j < objs.length → hb2 j = hb j := fun j hj => by show (if _ then _ else _) = _; rw [if_pos hj]
  have hbg : ∀ j, objs.length ≤ j → hb2 j = none := fun j hj => by show (if _ then _ else _) = _; rw [if_neg (by omega)]
  have hh := hs.heap
  have e1 : (St.of l objs nt base).heap = heapOf objs := rfl
  have e2 : (St.of l objs nt base).next = objs.length := rfl
  rw [e1, e2] at hh
  have hnone : ∀ j, objs.length ≤ j → heapOf objs j = .none := fun j hj => heapOf_ge hj
  have H2l : ∀ j, j < objs.length → heapOf (objs' ++ nilRows gs) j = heapOf objs' j := fun j hj => heapOf_l (by omega)
  have H2g : ∀ j, objs.length ≤ j → (g j ∧ ∃ sz, heapOf (objs' ++ nilRows gs) j = .row sz []) ∨ heapOf (objs' ++ nilRows gs) j = .none := by
    intro j hj
    rw [heapOf_r (by omega)]
    by_cases hlt : j - objs'.length < gs.length
    · left
      refine ⟨⟨hj, by omega⟩, gs[j - objs'.length], ?_⟩
      unfold heapOf nilRows
      simp [hlt]
    · right; exact heapOf_ge (by simp [nilRows]; omega)
  have ole : ∀ j, OLe g (heapOf objs j) (heapOf objs' j) := fun j => hH.get j
  have good : ∀ b, okF w0 okA hb (heapOf objs) W b → okF w0 okA hb2 (heapOf (objs' ++ nilRows gs)) W b := by
    intro b ⟨h1, h2, h3⟩
    refine ⟨h1, h2, fun j hj => ?_⟩
    by_cases hjl : j < objs.length
    · rw [hbl j hjl]
      refine h3 j fun hn => hj ?_
      rw [H2l j hjl]
      have := ole j
      rw [hn] at this
      cases h : heapOf objs' j with
      | none => rfl
      | _ => rw [h] at this; cases this
    · rw [hbg j (by omega)]; exact fun h => nomatch h
  have mv : MovesV W W hb hb2 (heapOf objs) (heapOf (objs' ++ nilRows gs)) (okF w0 okA hb (heapOf objs) W) (okF w0 okA hb2 (heapOf (objs' ++ nilRows gs)) W) :=
    { good := good, cell := fun b o v _ h => h,
      box := fun j cs hj => by
        have hjl : j < objs.length := by
          rcases Nat.lt_or_ge j objs.length with h | h
          · exact h
          · rw [hnone j h] at hj; cases hj
        have := ole j
        rw [hj] at this
        rw [H2l j hjl, hbl j hjl]
        cases h : heapOf objs' j with
        | box cs' => exact ⟨cs', rfl, rfl⟩
        | none => rw [h] at this; cases this
        | row sz es => rw [h] at this; cases this
      row := fun j sz es hj => by
        have hjl : j < objs.length := by
          rcases Nat.lt_or_ge j objs.length with h | h
          · exact h
          · rw [hnone j h] at hj; cases hj
        have := ole j
        rw [hj] at this
        rw [H2l j hjl, hbl j hjl]
        generalize heapOf objs' j = z at *
        cases this
        exact ⟨es, rfl, Nat.le_refl _, fun _ => ⟨rfl, fun _ _ _ h => h⟩⟩ }
  have G : Ghosts g hb2 (heapOf (objs' ++ nilRows gs)) :=
    ⟨fun j hj => by
      rcases H2g j hj.1 with h | h
      · exact h.2
      · exfalso
        rw [heapOf_r (by have := hj.1; omega)] at h
        unfold heapOf nilRows at h
        have h1 := hj.1
        have h2 := hj.2
        have hlt : j - objs'.length < gs.length := by omega
        simp [hlt] at h, fun j hj => hbg j hj.1⟩
  refine ⟨hb2, hs.defers, hs.size, ?_, ?_, hs.base⟩
  · exact rel_ele G hE (fun t => (hs.env t).mono mv)
  · refine { obj := ?_, inj := ?_, hnd := ?_, fresh := ?_, ext := hh.ext, keep := hh.keep.trans mv.toMovesR, lay := hh.lay }
    · intro j
      by_cases hjl : j < objs.length
      · have hj := hh.obj j
        unfold ObjOk at hj ⊢
        show match heapOf (objs' ++ nilRows gs) j with
          | .none => True
          | .box cs => _
          | .row sz es => _
        rw [H2l j hjl]
        have ho := ole j
        generalize heapOf objs' j = z at *
        cases hz : heapOf objs j with
        | none => rw [hz] at ho; cases ho; trivial
        | row sz es =>
          rw [hz] at ho hj
          cases ho
          simp only at hj ⊢
          obtain ⟨h0, hj⟩ := hj
          refine ⟨h0, ?_⟩
          rcases hj with ⟨e1, e2⟩ | ⟨b, vals, T, fr, h1, h2, h3, h4, h5⟩
          · exact .inl ⟨e1, by rw [hbl j hjl]; exact e2⟩
          · exact .inr ⟨b, vals, T, fr, by rw [hbl j hjl]; exact h1, h2, h3, h4, fun i c hi hc => (h5 i c hi hc).mono mv.toMoves⟩
        | box cs =>
          rw [hz] at ho hj
          simp only at hj
          obtain ⟨b, vals, T, fr, h1, h2, h3, h4, h5, h6⟩ := hj
          have key : ∀ ds, LLe g cs ds → BoxOk W hb2 (heapOf (objs' ++ nilRows gs)) (okF w0 okA hb2 (heapOf (objs' ++ nilRows gs)) W) j ds := fun ds hd =>
            ⟨b, vals, T, fr, by rw [hbl j hjl]; exact h1, h2, by rw [h3, hd.len], h4, h5, fun i hi => rel_cle G (hd.get i) ((h6 i hi).mono mv)⟩
          cases ho with
          | refl =>
            have rfl' : ∀ cs : List V, LLe g cs cs := fun cs => by
              induction cs with
              | nil => exact .nil
              | cons x r ih => exact .cons (.refl x) ih
            exact key _ (rfl' _)
          | box hl => exact key _ hl
      · unfold ObjOk
        show match heapOf (objs' ++ nilRows gs) j with
          | .none => True
          | .box cs => _
          | .row sz es => _
        rcases H2g j (by omega) with ⟨_, sz, h⟩ | h
        · rw [h]; exact ⟨fun e he => (nomatch he), .inl ⟨rfl, hbg j (by omega)⟩⟩
        · rw [h]; trivial
    · intro i j b hi hj hbi hbj
      have hil : i < objs.length := by
        rcases Nat.lt_or_ge i objs.length with h | h
        · exact h
        · rw [hbg i h] at hbi; cases hbi
      have hjl : j < objs.length := by
        rcases Nat.lt_or_ge j objs.length with h | h
        · exact h
        · rw [hbg j h] at hbj; cases hbj
      have nn : ∀ i, i < objs.length → (St.of l' (objs' ++ nilRows gs) nt base).heap i ≠ .none → heapOf objs i ≠ .none := by
        intro i hil hi hn
        apply hi
        show heapOf (objs' ++ nilRows gs) i = .none
        rw [H2l i hil]
        have := ole i
        rw [hn] at this
        generalize heapOf objs' i = z at *
        cases this; rfl
      rw [hbl i hil] at hbi
      rw [hbl j hjl] at hbj
      exact hh.inj i j b (nn i hil hi) (nn j hjl hj) hbi hbj
    · intro j b hj hbj
      have hjl : j < objs.length := by
        rcases Nat.lt_or_ge j objs.length with h | h
        · exact h
        · rw [hbg j h] at hbj; cases hbj
      rw [hbl j hjl] at hbj
      refine hh.hnd j b (fun hn => hj ?_) hbj
      show heapOf (objs' ++ nilRows gs) j = .none
      rw [H2l j hjl]
      have := ole j
      rw [hn] at this
      generalize heapOf objs' j = z at *
      cases this; rfl
    · intro j hj
      exact heapOf_ge hj
end Go.Proofs.Ytmllgpkgjniomaa.AWN

namespace Go.Proofs.Ytmllgpkgjniomaa.AWN
open Go

section
variable {P : Program} {σ : St} {Q : Exit → St → Prop}
/-- What stands behind a part is walked once. -/
theorem aw_hk1 {ι : Type} {x y : Code} (inv : ι → St) (I : ι → Prop) (hk : ∀ s, I s → AW P y (inv s) Q) (h : (∀ s, I s → AW P y (inv s) Q) → AW P (.seq x y) σ Q) : AW P (.seq x y) σ Q := h hk
theorem aw_hk2 {ι : Type} {x c y : Code} (inv : ι → St) (I : ι → Prop) (hk : ∀ s, I s → AW P y (inv s) Q) (h : (∀ s, I s → AW P y (inv s) Q) → AW P (.seq x (.seq c y)) σ Q) : AW P (.seq x (.seq c y)) σ Q := h hk
end

/-! ### Calls with values that say less -/
inductive ALe : List V → List V → Prop where
  | nil : ALe [] []
  | cons {x y : V} {l r : List V} : VLe (fun _ => False) x y → ALe l r → ALe (x :: l) (y :: r)
theorem ALe.len {l r : List V} (h : ALe l r) : l.length = r.length := by
  induction h with
  | nil => rfl
  | cons _ _ ih => simp [ih]
theorem ALe.get {l r : List V} (h : ALe l r) : ∀ i, VLe (fun _ => False) (l.getD i .junk) (r.getD i .junk) := by
  induction h with
  | nil => intro i; exact .c (.refl _)
  | cons h _ ih =>
    intro i
    cases i with
    | zero => simpa using h
    | succ i => simpa using ih i
theorem acall_le {P : Program} {fr : Bool} {k : FuncId} {args args' : List V} {objs : List AObj} {R : V → List AObj → List AObj → Prop} (hle : ALe args args') (h : ACall P fr k args' objs R) : ACall P fr k args objs R :=
  fun W A hb okA vals h1 h2 h3 h4 => h W A hb okA vals h1 h2 h3 ⟨hle.len ▸ h4.1, fun i hi => rel_vle ⟨fun _ h => h.elim, fun _ h => h.elim⟩ (hle.get i) (h4.2 i hi)⟩

/-! ### Flat results -/
theorem flat_nil : ∀ o ∈ ([] : List AObj), o.flat := fun _ h => nomatch h
theorem flat_cons {o : AObj} {l : List AObj} (h : o.flat) (h' : ∀ o ∈ l, o.flat) : ∀ p ∈ o :: l, p.flat := fun p hp => by
  rcases List.mem_cons.1 hp with rfl | hp
  · exact h
  · exact h' p hp
theorem flat_row {α : Type} {f : α → List D} {sz : Nat} (hf : ∀ x, ∀ c ∈ f x, c.flat) (l : List α) : (AObj.row sz (l.map f)).flat := by
  intro e he c hc
  obtain ⟨x, _, rfl⟩ := List.mem_map.1 he
  exact hf x c hc

/-! ### Values written otherwise -/
section
variable {α : Type} {f : α → List D} {H : Nat → AObj} {n j sz : Nat} {p : Prop}
theorem or_append (l zs : List α) {ys : List (List D)} (hys : ys = zs.map f) : OR.needH p (.row j (l.length + ys.length) 0 (l.length + ys.length)) (upd H j (.row sz (l.map f ++ ys))) n = OR.needH p (.row j (l ++ zs).length 0 (l ++ zs).length) (upd H j (.row sz ((l ++ zs).map f))) n := by
  subst hys; simp
theorem room_map {a b : Nat} {zs : List α} (h : room (a + zs.length) b) : (a + (zs.map f).length) * b ≤ 140737488355328 := by rw [len_map]; exact h
theorem all1 {e : List D} (h : e.length = sz) : ∀ y ∈ [e], y.length = sz := by
  intro y hy; rw [List.mem_singleton.1 hy]; exact h
theorem row_needL {l : List α} {i : Int} {x : α} {L : Nat} (h : getI l i = some x) (hL : l.length = L) : 0 ≤ i ∧ i < (L : Int) ∧ 0 + L ≤ L ∧ (l.map f).length = L := by
  subst hL; exact row_need h
theorem or_len (l : List α) : OR.val (.d (.int .i64 ((l.map f).length : Int))) = OR.val (.d (.int .i64 (l.length : Int))) := by rw [len_map]
theorem or_make {k : Nat} {x : α} {ds : List D} (h : ds = f x) : OR.needH p (.row n k 0 k) (upd H n (.row sz (List.replicate k ds))) (n + 1) = OR.needH p (.row n (List.replicate k x).length 0 (List.replicate k x).length) (upd H n (.row sz ((List.replicate k x).map f))) (n + 1) := by
  subst h; simp
theorem make_need {z : Int} {b : Nat} (h : 0 ≤ z ∧ room z.toNat b) (hb : 0 < b) : 0 ≤ z ∧ z = z ∧ z * b ≤ 140737488355328 ∧ 0 < b := by
  refine ⟨h.1, rfl, ?_, hb⟩
  have h2 : z.toNat * b ≤ 140737488355328 := h.2
  have e : ((z.toNat : Nat) : Int) = z := by omega
  have h3 : ((z.toNat * b : Nat) : Int) ≤ 140737488355328 := by omega
  rw [Int.natCast_mul, e] at h3; exact h3
theorem conv_val {s k : FloatKind} {x y : Nat} (h : fconv s k x = some y) : (match fconv s k x with
    | some r => OR.val (.d (.fl k r))
    | none => OR.pick (fun r => r < 2 ^ k.format.width) (fun r => .d (.fl k (canon k r)))) = OR.val (.d (.fl k y)) := by rw [h]
theorem or_ieq (x y : Int) : OR.val (.d (.bool (x == y))) = OR.val (.d (.bool (decide (x = y)))) := rfl
theorem or_ine (x y : Int) : OR.val (.d (.bool (x != y))) = OR.val (.d (.bool (!(decide (x = y))))) := rfl
end

section
variable {ρ : Nat → Option Nat} {H : Nat → AObj} {sn : Bool}
theorem exC_rowL {j i L L' : Nat} (h : ρ j = some i) (hL : L = L') : exC ρ H sn (.row j L 0 L) = some (.row i L' 0 L') := by
  subst hL; simp only [exC, h]
theorem exA_rowL {j i L L' : Nat} (h : ρ j = some i) (hL : L = L') : exA ρ H sn (.row j L 0 L) = some (.row i L' 0 L') := exC_rowL h hL
theorem exV_rowL {j i L L' : Nat} (h : ρ j = some i) (hL : L = L') : exV ρ H sn (.row j L 0 L) = some (.row i L' 0 L') := exC_rowL h hL
end

/-! ### Texts -/
theorem bstr_size (s : Str) : (bstr s).size = s.length := rfl
theorem bstr_loop (s : ByteArray) : ∀ (k i : Nat) (r : List UInt8), s.size - i = k → ByteArray.toList.loop s i r = r.reverse ++ s.data.toList.drop i
  | 0, i, r, h => by
    have hs : s.data.toList.length = s.size := by rw [Array.length_toList]; rfl
    rw [ByteArray.toList.loop, if_neg (by omega), List.drop_eq_nil_of_le (by omega)]; simp
  | k + 1, i, r, h => by
    have hs : s.data.toList.length = s.size := by rw [Array.length_toList]; rfl
    have hi : i < s.data.toList.length := by omega
    rw [ByteArray.toList.loop, if_pos (by omega), bstr_loop s k (i + 1) _ (by omega), List.drop_eq_getElem_cons hi]
    have : s.get! i = s.data.toList[i] := by
      have h3 : i < s.data.size := by rw [← Array.length_toList]; exact hi
      show s.data[i]! = _
      rw [getElem!_pos s.data i h3]; simp
    rw [this]; simp
theorem bstr_toList (s : Str) : (bstr s).toList = s := by
  unfold ByteArray.toList
  rw [bstr_loop _ _ 0 [] rfl]
  simp [bstr]
theorem or_seq (x y : Str) : OR.val (.d (.bool ((bstr x).toList == (bstr y).toList))) = OR.val (.d (.bool (decide (x = y)))) := by
  rw [bstr_toList, bstr_toList]
  congr 3
  by_cases h : x = y
  · subst h; simp
  · rw [decide_eq_false h]; simp [h]
theorem or_sne (x y : Str) : OR.val (.d (.bool (!((bstr x).toList == (bstr y).toList)))) = OR.val (.d (.bool (!(decide (x = y))))) := by
  have := or_seq x y
  simp only [OR.val.injEq, V.d.injEq, D.bool.injEq] at this
  rw [this]
theorem bstr_append (x y : Str) : bstr x ++ bstr y = bstr (x ++ y) := by
  apply ByteArray.ext
  simp [bstr]
theorem or_cat {p : Prop} (x y : Str) : OR.need p (.d (.str (bstr x ++ bstr y))) = OR.need p (.d (.str (bstr (x ++ y)))) := by rw [bstr_append]
/-- What stands from a place to another one. -/
def sub {α : Type} (l : List α) (a b : Int) : List α := (l.drop a.toNat).take (b.toNat - a.toNat)
theorem bstr_sub (s : Str) (a b : Nat) : (bstr s).extract a b = bstr ((s.drop a).take (b - a)) := by
  apply ByteArray.ext
  simp [bstr, ByteArray.data_extract]
theorem or_ssub {p : Prop} (s : Str) (a b : Int) : OR.need p (.d (.str ((bstr s).extract a.toNat b.toNat))) = OR.need p (.d (.str (bstr (sub s a b)))) := by rw [bstr_sub]; rfl
theorem sidx_need {s : Str} {i : Int} {c : UInt8} (h : getI s i = some c) : 0 ≤ i ∧ i < ((bstr s).size : Int) := by
  have := row_need (f := fun _ => []) h
  exact ⟨this.1, this.2.1⟩
theorem or_sidx {p : Prop} {s : Str} {i : Int} {c : UInt8} (h : getI s i = some c) : OR.need p (.d (.int .u8 (bAt (bstr s) i.toNat))) = OR.need p (.d (.int .u8 (c.toNat : Int))) := by
  obtain ⟨h1, h2⟩ := getI_some h
  have : bAt (bstr s) i.toNat = (c.toNat : Int) := by
    unfold bAt bstr
    have h3 : s.toArray.getD i.toNat 0 = c := by simp [Array.getD_eq_getD_getElem?, h2]
    rw [h3]
  rw [this]

/-! ### Parts of lists -/
section
variable {α : Type} {f : α → List D}
theorem map_sub (l : List α) (a b : Nat) : ((l.map f).drop a).take b = ((l.drop a).take b).map f := by rw [List.map_take, List.map_drop]
theorem or_dsub {p : Prop} {t : Bool} (l : List α) (a b : Int) : OR.need p (.d (.sl t (((l.map f).drop a.toNat).take (b.toNat - a.toNat)))) = OR.need p (.d (.sl t ((sub l a b).map f))) := by rw [map_sub]; rfl
theorem or_dsub0 {p : Prop} {t : Bool} (l : List α) (a : Int) : OR.need p (.d (.sl t (((l.map f).drop a.toNat).take (((l.map f).length : Int).toNat - a.toNat)))) = OR.need p (.d (.sl t ((sub l a (l.length : Int)).map f))) := by rw [map_sub, len_map]; rfl
theorem dsub_need {sz : Nat} (hf : ∀ x, (f x).length = sz) {l : List α} {a b : Int} (h : 0 ≤ a ∧ a ≤ b ∧ b ≤ (l.length : Int)) : 0 ≤ a ∧ a ≤ b ∧ b ≤ ((l.map f).length : Int) ∧ ∀ e ∈ l.map f, e.length = sz :=
  ⟨h.1, h.2.1, by rw [len_map]; exact h.2.2, map_lens hf l⟩
theorem dsub_need0 {sz : Nat} (hf : ∀ x, (f x).length = sz) {l : List α} {a : Int} (h : 0 ≤ a ∧ a ≤ (l.length : Int) ∧ (l.length : Int) ≤ (l.length : Int)) : 0 ≤ a ∧ a ≤ ((l.map f).length : Int) ∧ ((l.map f).length : Int) ≤ ((l.map f).length : Int) ∧ ∀ e ∈ l.map f, e.length = sz :=
  ⟨h.1, by rw [len_map]; exact h.2.1, Int.le_refl _, map_lens hf l⟩
theorem set_val {H : Nat → AObj} {j sz : Nat} {l : List α} {i : Int} {y : α} {d : List D} (h : d = f y) : (some (upd H j (.row sz ((l.map f).set (0 + i.toNat) d))) : Option (Nat → AObj)) = some (upd H j (.row sz ((l.set i.toNat y).map f))) := by
  subst h; rw [Nat.zero_add, List.map_set]
theorem map_set {l : List α} {k : Nat} {y : α} : (l.map f).set k (f y) = (l.set k y).map f := by rw [List.map_set]
end
end Go.Proofs.Ytmllgpkgjniomaa.AWN

namespace Go.Proofs.Ytmllgpkgjniomaa.AWN
open Go

def ExtDoes (P : Program) (k : FuncId) (args : List V) (v : V) : Prop :=
  ∀ (W : World) (hb : Handle) (H : Nat → AObj) (ok : Nat → Prop) (vals : Array Value), RelL W hb H ok args vals → ∃ cv W', (callFunc k vals).run P W = .ok (.value cv) W' ∧ SameMem W W' ∧ Rel W hb H ok v cv

theorem extDoes {P : Program} {k : FuncId} {fn : Func} {e : Array Value → Sem Value} {args : List V} {v : V} (hf : P.funcs[k]? = some fn) (hn : (fn.name == "runtime.NumGoroutine") = false) (hb : fn.body.isNone = true) (h1 : Extern.findNext fn = none) (h2 : Extern.find fn = some e)
    (h : ∀ (W : World) (hb : Handle) (H : Nat → AObj) (ok : Nat → Prop) (vals : Array Value), RelL W hb H ok args vals → ∃ cv W', (e vals).run P W = .ok cv W' ∧ SameMem W W' ∧ Rel W hb H ok v cv) : ExtDoes P k args v := by
  intro W hb' H ok vals hr
  obtain ⟨cv, W', hc, hm, hv⟩ := h W hb' H ok vals hr
  refine ⟨cv, W', ?_, hm, hv⟩
  simp only [callFunc, Sem.run_bind, run_program, Result.andThen_ok, hf, hn, hb, h1, h2, if_true, run_mark, Bool.false_eq_true, if_false, Sem.run_map, hc, Sem.run_pure]

section
variable {P : Program} {τ : Tab} {σ σ0 : St} {ops : Array Oper} {rest : List Oper} {o : Oper} {Q : Exit → St → Prop} {id : List FR} {G : Prop} {rl : List Rec}

theorem ext_does (hτ : TabOk P τ) {k : FuncId} {args : List V} {v : V} (h : stepO τ σ o.op = .call k args) (hx : ExtDoes P k args v) {w0 : World} {A : Args} {okA : Nat → Prop} {hb : Handle} {a : Act} {W : World} (hs : Sim w0 A okA hb σ a W) :
    Does P o a W (fun cv W' => SameMem W W' ∧ RelS w0 okA hb σ.heap W v cv) := by
  have ho := step_owes hτ hs o
  rw [h] at ho
  obtain ⟨vals, hrun, hrel⟩ := ho
  obtain ⟨cv, W', h1, h2, h3⟩ := hx W hb σ.heap _ vals hrel
  exact ⟨cv, W', .inl (by rw [hrun, h1]), h2, h3⟩

theorem awl_ext (hτ : TabOk P τ) {k : FuncId} {args : List V} {v : V} (hw : wantedA ops σ o = some true) (hd : dstOk σ o.dst = true) (h : stepO τ σ o.op = .call k args) (hx : ExtDoes P k args v) (hK : AWL P ops rest (σ.putO o.dst v) Q) : AWL P ops (o :: rest) σ Q :=
  awl_of_does hw fun w0 A okA hb a W hs => by
    obtain ⟨cv, W', hrun, s, hr⟩ := ext_does hτ h hx hs
    exact ⟨cv, W', hrun, hK w0 A okA hb _ W' (sim_put (hs.same s) (hr.same s) _ hd)⟩

theorem one_ext (hτ : TabOk P τ) {k : FuncId} {args : List V} {v : V} (hw : wantedA ops σ o = some true) (hd : dstOk σ o.dst = true) (h : stepO τ σ o.op = .call k args) (hx : ExtDoes P k args v) : One P ops o σ (· = σ.putO o.dst v) :=
  one_of_does hw fun w0 A okA hb a W hs => by
    obtain ⟨cv, W', hrun, s, hr⟩ := ext_does hτ h hx hs
    exact ⟨cv, W', hrun, _, hb, rfl, sim_put (hs.same s) (hr.same s) _ hd⟩

theorem any_ext (hτ : TabOk P τ) (J : List Nat) {k : FuncId} {args : List V} {v : V} (i : Nat) (ho : ops[i]? = some o) (hw : wantedA ops σ o = some true) (hd : dstOk σ o.dst = true) (h : stepO τ σ o.op = .call k args) (hx : ExtDoes P k args v) (hJ : keepsH σ.heap σ.heap J) (hK : Any P ops id σ0 G (⟨i, true, J⟩ :: rl) ((σ.set σ.heap σ.next).putO o.dst v)) : Any P ops id σ0 G rl σ :=
  any_mem i ho (fun σ' hn he hh hx' => by
    have := one_ext (P := P) (ops := ops) hτ (by rw [wanted_congr he, hw]) (dst_congr hn hd) (by rw [step_env (opT_looks he) hh hx', h]) hx
    have e : σ'.set σ.heap σ.next = σ' := by unfold St.set; rw [← hh, ← hx']
    rw [e]; exact this) (keepsH_mem hJ) hK
end

/-! ### Words of floats -/
theorem one_args {W : World} {hb : Handle} {H : Nat → AObj} {ok : Nat → Prop} {x : V} {vals : Array Value} (h : RelL W hb H ok [x] vals) : ∃ v, vals = #[v] ∧ Rel W hb H ok x v := by
  obtain ⟨h1, h2⟩ := h
  refine ⟨vals[0]'(by simp at h1; omega), ?_, ?_⟩
  · apply Array.ext
    · simp at h1 ⊢; omega
    · intro i hi hj
      simp at hj
      subst hj; rfl
  · have := h2 0 (by simp at h1; omega)
    have h0 : 0 < vals.size := by simp at h1; omega
    simpa [Array.getD_eq_getD_getElem?, h0] using this
theorem bits_run {P : Program} {k : FloatKind} {i : IntKind} {e : Array Value → Sem Value} (he : ∀ b, e #[.float k b] = pure (.int i b)) {x : Nat} (hx : isnan k x = false) {W : World} {hb : Handle} {H : Nat → AObj} {ok : Nat → Prop} {vals : Array Value}
    (h : RelL W hb H ok [.d (.fl k x)] vals) : ∃ cv W', (e vals).run P W = .ok cv W' ∧ SameMem W W' ∧ Rel W hb H ok (.d (.int i x)) cv := by
  obtain ⟨v, rfl, hr⟩ := one_args h
  obtain ⟨b, rfl, h1, h2⟩ := rel_fl hr
  refine ⟨.int i b, W, by rw [he]; rfl, SameMem.refl W, ?_⟩
  have : isnan k b = false := by rw [← isnan_canon, h1]; exact hx
  rw [canon_of_not this] at h1
  subst h1; exact mk_int _ _
theorem frombits_run {P : Program} {k : FloatKind} {i : IntKind} {e : Array Value → Sem Value} (he : ∀ n : Int, e #[.int i n] = pure (.float k n.toNat)) {n : Int} (hn : n.toNat < 2 ^ k.format.width) {W : World} {hb : Handle} {H : Nat → AObj} {ok : Nat → Prop} {vals : Array Value}
    (h : RelL W hb H ok [.d (.int i n)] vals) : ∃ cv W', (e vals).run P W = .ok cv W' ∧ SameMem W W' ∧ Rel W hb H ok (.d (.fl k (canon k n.toNat))) cv := by
  obtain ⟨v, rfl, hr⟩ := one_args h
  obtain rfl := rel_int hr
  exact ⟨.float k n.toNat, W, by rw [he]; rfl, SameMem.refl W, mk_fl rfl hn⟩

/-- A number made whole. -/
def fint (way : Ieee.Toward) (x : Nat) : Nat := FloatKind.f64.encode ((FloatKind.f64.decode x).integral way)
theorem integral_run {P : Program} {way : Ieee.Toward} {name : String} {x : Nat} (hx : isnan .f64 x = false) {W : World} {hb : Handle} {H : Nat → AObj} {ok : Nat → Prop} {vals : Array Value}
    (h : RelL W hb H ok [.d (.fl .f64 x)] vals) : ∃ cv W', (Extern.MathFloor.toIntegral name way vals).run P W = .ok cv W' ∧ SameMem W W' ∧ Rel W hb H ok (.d (.fl .f64 (fint way x))) cv := by
  obtain ⟨v, rfl, hr⟩ := one_args h
  obtain ⟨b, rfl, h1, h2⟩ := rel_fl hr
  have hb' : isnan .f64 b = false := by rw [← isnan_canon, h1]; exact hx
  have hbx : b = x := by rw [← h1, canon_of_not hb']
  subst hbx
  have hn : (FloatKind.f64.decode b).isNaN = false := hx
  have hi : ((FloatKind.f64.decode b).integral way).isNaN = false := by
    cases hd : FloatKind.f64.decode b with
    | nan s t => rw [hd] at hn; cases hn
    | infinity s => rfl
    | number s m e => rfl
  refine ⟨.float .f64 (fint way b), W, ?_, SameMem.refl W, mk_fl (canon_of_not (write_not_nan .f64 _ hi)) (FloatKind.f64.format.write_lt _)⟩
  have key : ∀ d, d = FloatKind.f64.decode b → d.isNaN = false → Extern.MathFloor.toIntegral name way #[.float .f64 b] = pure (.float .f64 (FloatKind.f64.encode (d.integral way))) := by
    intro d hd hn
    show (match FloatKind.f64.decode b with
      | .nan s t => if FloatKind.f64.format.quiet t = t then pure (Value.float .f64 b) else do
        let kept ← choose (.extern "math.Floor,Ceil,Trunc,RoundToEven.signallingNaN kept" 2)
        pure (Value.float .f64 (if kept == 1 then b else FloatKind.f64.encode (.nan s (FloatKind.f64.format.quiet t))))
      | d => (pure (Value.float .f64 (FloatKind.f64.encode (d.integral way))) : Sem Value)) = _
    rw [← hd]
    cases d with
    | nan s t => cases hn
    | infinity s => rfl
    | number s m e => rfl
  rw [key _ rfl hn]
  rfl

/-- A root. -/
def fsqrt (x : Nat) : Nat := (FloatKind.f64.format.sqrt x).getD (qnan .f64)
theorem root_not_nan {n : Nat} {a d : Ieee.Datum} (h : a.root n = some d) : d.isNaN = false := by
  cases a with
  | nan s t => cases h
  | infinity s =>
    simp only [Ieee.Datum.root] at h
    split at h
    · cases h
    · simp only [Option.some.injEq] at h; subst h; rfl
  | number s m i =>
    simp only [Ieee.Datum.root] at h
    split at h
    · simp only [Option.some.injEq] at h; subst h; rfl
    · split at h
      · cases h
      · simp only [Option.some.injEq] at h; subst h; rfl
theorem sqrt_run {P : Program} {x : Nat} {W : World} {hb : Handle} {H : Nat → AObj} {ok : Nat → Prop} {vals : Array Value}
    (h : RelL W hb H ok [.d (.fl .f64 x)] vals) : ∃ cv W', (Extern.MathSqrt.sqrt vals).run P W = .ok cv W' ∧ SameMem W W' ∧ Rel W hb H ok (.d (.fl .f64 (fsqrt x))) cv := by
  obtain ⟨v, rfl, hr⟩ := one_args h
  obtain ⟨b, rfl, h1, h2⟩ := rel_fl hr
  have hsame : FloatKind.f64.format.sqrt b = FloatKind.f64.format.sqrt x := by
    cases hn : isnan .f64 b with
    | false => rw [← h1, canon_of_not hn]
    | true =>
      obtain ⟨s, t, e⟩ := datum_nan hn
      obtain ⟨s', t', e'⟩ := datum_nan (show isnan .f64 x = true by rw [← h1, isnan_canon, hn])
      unfold Ieee.Format.sqrt
      rw [e, e']; rfl
  have e : Extern.MathSqrt.sqrt #[.float .f64 b] = (match FloatKind.f64.format.sqrt b with
    | some r => pure (.float .f64 r)
    | none => do pure (.float .f64 (← choose (.nanBits .f64 b b)))) := rfl
  rw [e]
  unfold fsqrt
  rw [← hsame]
  cases hq : FloatKind.f64.format.sqrt b with
  | some r =>
    have hr' : isnan .f64 r = false ∧ r < 2 ^ FloatKind.f64.format.width := by
      unfold Ieee.Format.sqrt at hq
      cases hd : (FloatKind.f64.format.read b).root (FloatKind.f64.format.fractionBits + 2) with
      | none => rw [hd] at hq; cases hq
      | some d =>
        rw [hd] at hq
        simp only [Option.map_some, Option.some.injEq] at hq
        subst hq
        exact ⟨write_not_nan .f64 d (root_not_nan hd), FloatKind.f64.format.write_lt d⟩
    exact ⟨.float .f64 r, W, rfl, SameMem.refl W, mk_fl (canon_of_not hr'.1) hr'.2⟩
  | none =>
    obtain ⟨r, W', g1, g2, g3, g4⟩ := choose_nan P W (.nanBits .f64 b b) .f64 (.inl ⟨_, _, rfl⟩)
    refine ⟨.float .f64 r, W', ?_, g2, mk_fl (canon_of_nan g3) g4⟩
    simp only [Sem.run_bind, g1, Result.andThen_ok, Sem.run_pure]
end Go.Proofs.Ytmllgpkgjniomaa.AWN

namespace Go.Proofs.Ytmllgpkgjniomaa.AWN
open Go

def XOwes (P : Program) (σ : St) (o : Oper) (r : OR) : Prop := ∀ w0 A okA hb a W, Sim w0 A okA hb σ a W → Owes P w0 A okA hb σ a W o r
/-- ... in all states that agree on what the operation looks at. -/
def XSt (P : Program) (ops : Array Oper) (σ : St) (o : Oper) (r : OR) : Prop := ∀ σ', (∀ t ∈ opT o.op, σ'.env t = σ.env t) → σ'.heap = σ.heap → XOwes P σ' o r

section
variable {P : Program} {τ : Tab} {σ σ0 : St} {ops : Array Oper} {rest : List Oper} {o : Oper} {Q : Exit → St → Prop} {id : List FR} {G : Prop} {rl : List Rec}

theorem awl_x {v : V} (hw : wantedA ops σ o = some true) (hd : dstOk σ o.dst = true) (hx : XSt P ops σ o (.val v)) (hK : AWL P ops rest (σ.putO o.dst v) Q) : AWL P ops (o :: rest) σ Q :=
  awl_of_does hw fun w0 A okA hb a W hs => by
    obtain ⟨cv, W', hrun, s, hr⟩ := hx σ (fun _ _ => rfl) rfl w0 A okA hb a W hs
    exact ⟨cv, W', hrun, hK w0 A okA hb _ W' (sim_put (hs.same s) (hr.same s) _ hd)⟩
theorem awl_xpick {R : Nat → Prop} {k : Nat → V} (hw : wantedA ops σ o = some true) (hd : dstOk σ o.dst = true) (hx : XSt P ops σ o (.pick R k)) (hK : ∀ r, R r → AWL P ops rest (σ.putO o.dst (k r)) Q) : AWL P ops (o :: rest) σ Q :=
  awl_of_does hw fun w0 A okA hb a W hs => by
    obtain ⟨cv, W', hrun, r, hR, s, hr⟩ := hx σ (fun _ _ => rfl) rfl w0 A okA hb a W hs
    exact ⟨cv, W', hrun, hK r hR w0 A okA hb _ W' (sim_put (hs.same s) (hr.same s) _ hd)⟩
theorem any_x (J : List Nat) {v : V} (i : Nat) (ho : ops[i]? = some o) (hw : wantedA ops σ o = some true) (hd : dstOk σ o.dst = true) (hx : XSt P ops σ o (.val v)) (hJ : keepsH σ.heap σ.heap J) (hK : Any P ops id σ0 G (⟨i, true, J⟩ :: rl) ((σ.set σ.heap σ.next).putO o.dst v)) : Any P ops id σ0 G rl σ :=
  any_mem i ho (fun σ' hn he hh hx' => by
    have : One P ops o σ' (· = σ'.putO o.dst v) := one_of_does (by rw [wanted_congr he, hw]) fun w0 A okA hb a W hs => by
      obtain ⟨cv, W', hrun, s, hr⟩ := hx σ' (opT_looks he) hh w0 A okA hb a W hs
      exact ⟨cv, W', hrun, _, hb, rfl, sim_put (hs.same s) (hr.same s) _ (dst_congr hn hd)⟩
    have e : σ'.set σ.heap σ.next = σ' := by unfold St.set; rw [← hh, ← hx']
    rw [e]; exact this) (keepsH_mem hJ) hK

theorem xst_of_v {s : (Operand → Value) → Sem Value} {r : OR} (hrun : ∀ {a : Act} {W : World}, (execOp a.eval o).run P W = ((s a.eval).run P W).andThen fun v w => .ok (.value v) w) (hpl : r.plain = true)
    (h : ∀ σ', (∀ t ∈ opT o.op, σ'.env t = σ.env t) → σ'.heap = σ.heap → ∀ w0 A okA hb a W, Sim w0 A okA hb σ' a W → ORv P W (s a.eval) (RelS w0 okA hb σ'.heap W) r) : XSt P ops σ o r :=
  fun σ' he hh w0 A okA hb a W hs => owes_plain hrun (h σ' he hh w0 A okA hb a W hs) hpl

/-! ### Numbers -/
def f2i (s : FloatKind) (k : IntKind) (x : Nat) : Option Int := match (s.decode x).toInt .zero with
  | some n => if k.min ≤ n ∧ n ≤ k.max then some n else none
  | none => none

theorem x_f2i (hτ : TabOk P τ) {s d : TypeId} {x : Operand} {sd dd : TD} {sk : FloatKind} {k : IntKind} {b : Nat} {z : Int} (ho : o.op = .convert s d x) (hs : τ s = some sd) (hd : τ d = some dd) (hsd : sd.desc = .float sk) (hdd : dd.desc = .int k) (hx : σ.ev x = .d (.fl sk b)) (hz : f2i sk k b = some z) : XSt P ops σ o (.val (.d (.int k z))) := by
  refine xst_of_v (s := fun ev => convert s d (ev x)) (by intro a W; simp [execOp, ho]) rfl ?_
  intro σ' he hh w0 A okA hb a W hs'
  have hr := rel_ev hs' x
  rw [ev_congr (fun t ht => he t (by rw [ho]; exact ht)), hx] at hr
  obtain ⟨c, hc, h1, h2⟩ := rel_fl hr
  have us := tab_und hτ hs W
  have ud := tab_und hτ hd W
  refine .pure' (cv := .int k z) ?_ (mk_int _ _)
  simp only [convert, Sem.run_bind, us, ud, hsd, hdd, hc, Result.andThen_ok]
  have hn : isnan sk c = false := by
    cases hn : isnan sk c with
    | false => rfl
    | true =>
      exfalso
      have h3 : isnan sk b = true := by rw [← h1, isnan_canon, hn]
      obtain ⟨sg, t, e⟩ := datum_nan h3
      have e' : sk.decode b = .nan sg t := e
      unfold f2i at hz
      rw [e'] at hz
      simp [Ieee.Datum.toInt, Ieee.Datum.integral] at hz
  have hcb : c = b := by rw [← h1, canon_of_not hn]
  rw [hcb]
  unfold f2i at hz
  unfold Conv.floatToInt
  split at hz
  · rename_i n hn'
    split at hz
    · rename_i hb'
      simp only [Option.some.injEq] at hz
      subst hz
      simp only [hn', if_pos hb', Sem.run_pure]
    · cases hz
  · cases hz

theorem x_c2c (hτ : TabOk P τ) {s d : TypeId} {x : Operand} {sd dd : TD} {sk k : FloatKind} {u v y z : Nat} (ho : o.op = .convert s d x) (hs : τ s = some sd) (hd : τ d = some dd) (hsd : sd.desc = .complex sk) (hdd : dd.desc = .complex k) (hx : σ.ev x = .d (.cx sk u v)) (hy : fconv sk k u = some y) (hz : fconv sk k v = some z) : XSt P ops σ o (.val (.d (.cx k y z))) := by
  refine xst_of_v (s := fun ev => convert s d (ev x)) (by intro a W; simp [execOp, ho]) rfl ?_
  intro σ' he hh w0 A okA hb a W hs'
  have hr := rel_ev hs' x
  rw [ev_congr (fun t ht => he t (by rw [ho]; exact ht)), hx] at hr
  obtain ⟨b, c, hc, h1, h2, h3, h4⟩ := rel_cx hr
  have us := tab_und hτ hs W
  have ud := tab_und hτ hd W
  obtain ⟨r1, W1, g1, g2, g3, g4⟩ := fconv_run (P := P) (W := W) sk k b h3
  obtain ⟨r2, W2, k1, k2, k3, k4⟩ := fconv_run (P := P) (W := W1) sk k c h4
  refine ⟨.complex k r1 r2, W2, ?_, g2.trans k2, mk_cx (g4 y (by rw [h1]; exact hy)) (k4 z (by rw [h2]; exact hz)) g3 k3⟩
  simp only [convert, Sem.run_bind, us, ud, hsd, hdd, hc, Result.andThen_ok, Conv.complexToComplex, g1, k1, Sem.run_pure]

/-! ### Bytes and texts -/
def chars (l : List Int) : Str := l.map fun n => UInt8.ofNat n.toNat
theorem foldl_push (l : List Int) : ∀ (s : Str), l.foldl (fun r n => r.push (UInt8.ofNat n.toNat)) (bstr s) = bstr (s ++ chars l) := by
  induction l with
  | nil => intro s; simp [chars]
  | cons n l ih =>
    intro s
    rw [List.foldl_cons]
    have : (bstr s).push (UInt8.ofNat n.toNat) = bstr (s ++ [UInt8.ofNat n.toNat]) := by
      apply ByteArray.ext
      simp [bstr, ByteArray.push]
    rw [this, ih]
    simp [chars]

theorem x_b2s (hτ : TabOk P τ) {s d e : TypeId} {x : Operand} {sd dd ed : TD} {p : Prop} {l : List Int} {f : Int → List D} (ho : o.op = .convert s d x) (hs : τ s = some sd) (hd : τ d = some dd) (he' : τ e = some ed) (hsd : sd.desc = .slice e) (hdd : dd.desc = .string) (hed : ed.desc = .int .u8)
    (hf : ∀ n, f n = [.int .u8 n]) (hx : sliceElems σ.heap (σ.ev x) = some (p, l.map f)) (hp : p) : XSt P ops σ o (.val (.d (.str (bstr (chars l))))) := by
  refine xst_of_v (s := fun ev => convert s d (ev x)) (by intro a W; simp [execOp, ho]) rfl ?_
  intro σ' he hh w0 A okA hb a W hs'
  have hr := rel_ev hs' x
  rw [ev_congr (fun t ht => he t (by rw [ho]; exact ht))] at hr
  rw [← hh] at hx
  obtain ⟨ad, cap, c, hu, h1, h2⟩ := elems_run (P := P) hs'.heap hr hx hp (fun y hy => by
    obtain ⟨n, _, rfl⟩ := List.mem_map.1 hy
    rw [hf]; rfl) (Nat.one_pos)
  rw [hu]
  have us := (hτ s sd hs).1
  have ud := (hτ d dd hd).1
  have ue := (hτ e ed he').1
  rw [hsd] at us; rw [hdd] at ud; rw [hed] at ue
  refine .pure' (cv := .string (bstr (chars l))) ?_ (mk_str _)
  rw [run_convert_bytes_string W s d e ad _ cap us ue ud]
  have hc : c = (l.map (Value.int .u8)).toArray := by
    obtain ⟨c1, c2⟩ := h2
    apply Array.ext
    · simpa using c1
    · intro i hi hj
      have hil : i < l.length := by simpa using hj
      have := c2 i 0 (by simpa using hil) (by decide)
      have e1 : ((l.map f).getD i []).getD 0 .nilp = .int .u8 l[i] := by simp [List.getD_eq_getElem?_getD, hil, hf]
      rw [e1] at this
      have := relD_int this
      simp [Array.getD_eq_getD_getElem?, hi] at this
      rw [this]; simp
  have key := h1 W (SameMem.refl W)
  rw [hc] at key
  cases ad with
  | none =>
    have hl : l = [] := by
      have hl0 : (l.map f).length = 0 := by
        rw [hu] at hr
        have : ∀ {v : V} {n cp : Nat}, Rel W hb σ'.heap (okF w0 okA hb σ'.heap W) v (.slice none n cp) → sliceElems σ'.heap v = some (p, l.map f) → n = (l.map f).length → n = 0 := by
          intro v n cp hv hse hn
          cases hv with
          | d h => cases h <;> rfl
          | rowNil => rfl
          | rowStale v h1 h2 h3 =>
            simp only [sliceElems, h1, Option.some.injEq, Prod.mk.injEq] at hse
            have := hse.1 ▸ hp
            omega
          | _ => simp [sliceElems] at hse
        exact this hr hx rfl ▸ rfl
      simpa using hl0
    subst hl
    rfl
  | some ad =>
    have hk : (loadCells ad (l.map f).length).run P W = .ok ((l.map (Value.int .u8)).toArray) W := by
      have := key
      rw [hu] at this
      simp only [Builtin.firstCells, Nat.mul_one] at this
      exact this
    rw [run_bytesToString W ad _ cap l hk]
    have := foldl_push l []
    rw [show bstr [] = ByteArray.empty from rfl] at this
    rw [this]; rfl

theorem slice_row {H : Nat → AObj} {α : Type} {f : α → List D} {j sz L : Nat} (l : List α) (hj : H j = .row sz (l.map f)) (hL : L = l.length) : sliceElems H (.row j L 0 L) = some ((l.map f).length = L ∧ 0 + L ≤ L, l.map f) := by
  subst hL
  simp only [sliceElems, hj]
  rw [row_all l rfl]

/-! ### Is a slice nil? -/
theorem x_nileq (hτ : TabOk P τ) {t e pos : TypeId} {x y : Operand} {td : TD} {es : List (List D)} {fl : Bool} (ho : o.op = .binOp .eql t x y pos) (ht : τ t = some td) (htd : td.desc = .slice e) (hx : σ.ev x = .d (.sl fl es)) (hy : y = .const (.slice none 0 0)) :
    XSt P ops σ o (.pick (fun r => r = 1 → es = []) (fun r => .d (.bool (r == 1)))) := by
  refine xst_of_v (s := fun ev => do eqGuard .eql t x y (ev x) (ev y); binOp .eql t (ev x) (ev y)) (by
    intro a W
    simp only [execOp, ho, Sem.run_bind, Sem.run_pure]) rfl ?_
  intro σ' he hh w0 A okA hb a W hs'
  have hr := rel_ev hs' x
  rw [ev_congr (fun u hu => he u (by rw [ho]; exact List.mem_append_left _ hu)), hx] at hr
  have ey : a.eval y = .slice none 0 0 := by rw [hy]; rfl
  have ut := tab_und hτ ht W
  rw [htd] at ut
  have key : ∀ (u : Option Addr) (l c : Nat), (Op.equal t (.slice u l c) (.slice none 0 0)).run P W = .ok u.isNone W := by
    intro u l c
    unfold Op.equal Op.maxDepth
    rw [show (10000 : Nat) = 9999 + 1 from rfl, Op.equalIn]
    simp only [Sem.run_bind, ut, Result.andThen_ok]
    cases u <;> simp [Sem.run_pure]
  rw [ey]
  generalize a.eval x = v at hr
  cases hr with
  | d hr =>
    have g : ∀ (u : Option Addr) (l c : Nat), (do eqGuard .eql t x y (.slice u l c) (.slice none 0 0); binOp .eql t (.slice u l c) (.slice none 0 0) : Sem Value).run P W = .ok (.bool u.isNone) W := by
      intro u l c
      simp only [Sem.run_bind, eqGuard_ok .eql t x y (.slice u l c) (.slice none 0 0) (by simp) (by simp), Result.andThen_ok]
      simp [binOp, key]
    cases hr with
    | slnil => exact ⟨.bool true, W, g _ _ _, SameMem.refl W, 1, fun _ => rfl, mk_bool _⟩
    | sle => exact ⟨.bool false, W, g _ _ _, SameMem.refl W, 0, fun h => absurd h (by decide), mk_bool _⟩
    | sl => exact ⟨.bool false, W, g _ _ _, SameMem.refl W, 0, fun h => absurd h (by decide), mk_bool _⟩
end
end Go.Proofs.Ytmllgpkgjniomaa.AWN

namespace Go.Proofs.Ytmllgpkgjniomaa.AWN
open Go Go.RowKit

def eByte (n : Int) : List D := [.int .u8 n]
/-- The bytes of a slice that came in. -/
def bsOf (len : Nat) (zs : List Int) : List Int := zs.take len
theorem bsOf_byte {len : Nat} {zs : List Int} (h : ∀ n ∈ zs, 0 ≤ n ∧ n < 256) : ∀ n ∈ bsOf len zs, 0 ≤ n ∧ n < 256 := fun n hn => h n (List.mem_of_mem_take hn)

theorem rel_bytes {W : World} {ok : Nat → Prop} {f : Int → List D} (hf : ∀ n, f n = [.int .u8 n]) (hok : ∀ b, b < W.heap.size → ok b) {a : Option Addr} {len cap : Nat} {zs : List Int} (h : (a = none ∧ len = 0 ∧ cap = 0 ∧ zs = []) ∨
    ∃ x, a = some x ∧ len ≤ cap ∧ cap ≤ maxLen ∧ zs.length = cap ∧ (∀ i, i < zs.length → W.cell? (x.add i) = some (.int .u8 (zs.getD i 0))) ∧ ∀ n ∈ zs, 0 ≤ n ∧ n < 256) : RelD W ok (.sl false ((bsOf len zs).map f)) (.slice a len cap) := by
  rcases h with ⟨rfl, rfl, rfl, rfl⟩ | ⟨x, rfl, h1, h2, h3, h4, h5⟩
  · exact .slnil false
  · by_cases hc : cap = 0
    · have hl : len = 0 := by omega
      subst hc hl
      have : bsOf 0 zs = [] := by simp [bsOf]
      rw [this]
      exact .sle false x
    · have h0 := h4 0 (by omega)
      have hsp : x.spot = none := by
        cases hs : x.spot with
        | none => rfl
        | some s =>
          exfalso
          unfold World.cell? at h0
          simp only [Addr.add, hs] at h0
          split at h0 <;> simp [hs] at h0
      obtain ⟨b, o, sp⟩ := x
      simp only at hsp
      subst hsp
      have hbl : ((bsOf len zs).map f).length = len := by simp [bsOf]; omega
      have hget : ∀ i, i < len → ((bsOf len zs).map f).getD i [] = [.int .u8 (zs.getD i 0)] := by
        intro i hi
        have hil : i < zs.length := by omega
        simp [bsOf, List.getD_eq_getElem?_getD, List.getElem?_take, hi, hil, hf]
      refine .sl (sz := 1) (fun i _ => .int .u8 (zs.getD i 0)) (fun _ => hok b (cell_lt h0)) hbl h1 (fun h => nomatch h) (by omega) (fun i hi => by rw [hget i hi]; rfl) (fun i c hi hcc => ?_) (fun i c hi hcc => ?_)
      · have := h4 i (by omega)
        have hc0 : c = 0 := by omega
        subst hc0
        by_cases hi0 : i = 0
        · subst hi0; simpa [Addr.add] using this
        · simpa [Addr.add, hi0] using this
      · have hc0 : c = 0 := by omega
        subst hc0
        rw [hget i hi]
        exact .int _ _

theorem heapOf_nil (j : Nat) : heapOf [] j = .none := by simp [heapOf]
/-- A contract without objects, as the frame asks for it. -/
theorem top_of_acall {P : Program} {k : FuncId} {args : List V} {vals : Array Value} {W : World} (hlay : ∀ g vs, layMem g = some vs → ∃ T fr, W.heap[g]? = some (.cells vs T fr)) (hc : ACall P false k args [] (fun r o n => r = .d (.bool true) ∧ o = [] ∧ n = []))
    (hrel : RelL W (fun _ => none) (heapOf []) (okF W (fun _ => True) (fun _ => none) (heapOf []) W) args vals) : Calls P k vals W (fun e W' => e = .returned (.bool true) ∧ Below W.heap.size W W') := by
  have hs : HSim W ⟨heapOf [], fun _ => none⟩ (fun _ => True) (fun _ => none) (heapOf []) ([] : List AObj).length W :=
    { obj := fun j => by unfold ObjOk; rw [heapOf_nil]; trivial, inj := fun i j b hi => absurd (heapOf_nil i) hi, hnd := fun j b hj => absurd (heapOf_nil j) hj, fresh := fun j _ => heapOf_nil j, ext := Ext.refl _ _, keep := MovesR.refl _ _ _, lay := fun g vs hg => ⟨hlay g vs hg, fun ⟨j, hj, _⟩ => hj (heapOf_nil j)⟩ }
  refine (hc W ⟨heapOf [], fun _ => none⟩ (fun _ => none) (fun _ => True) vals rfl rfl hs hrel).mono fun e W' ⟨v, r, o, n, hb', he, ⟨hr, ho, hn⟩, _, hs', hv⟩ => ?_
  subst hr
  have := rel_bool hv
  subst this
  have hx := hs'.ext
  exact ⟨he, hx.os, hx.tape, hx.output, hx.size, fun k hk => hx.kept k hk (fun ⟨j, hj, _⟩ => hj (heapOf_nil j))⟩
end Go.Proofs.Ytmllgpkgjniomaa.AWN

namespace Go.Proofs.Ytmllgpkgjniomaa.AWN
open Go

section
variable {ρ : Nat → Option Nat} {H : Nat → AObj} {α : Type} {f : α → List D}
theorem exC_sub {j sz L off len : Nat} (l : List α) (hr : ρ j = none) (hj : H j = .row sz (l.map f)) : exC ρ H true (.row j L off len) = some (.d (.sl false (((l.drop off).take len).map f))) := by
  simp only [exC, hr, hj]
  rw [map_sub]
theorem exA_sub {j sz L off len : Nat} (l : List α) (hr : ρ j = none) (hj : H j = .row sz (l.map f)) : exA ρ H true (.row j L off len) = some (.d (.sl false (((l.drop off).take len).map f))) := exC_sub l hr hj
theorem exV_sub {j sz L off len : Nat} (l : List α) (hr : ρ j = none) (hj : H j = .row sz (l.map f)) : exV ρ H true (.row j L off len) = some (.d (.sl false (((l.drop off).take len).map f))) := exC_sub l hr hj
theorem exP_sub {j sz L off len : Nat} (l : List α) (hr : ρ j = none) (hj : H j = .row sz (l.map f)) (hL : L = l.length) (h : off + len ≤ L) : exP ρ H (.row j L off len) := by
  simp only [exP, hr, hj, len_map]
  exact ⟨hL.symm, h⟩
theorem exAP_sub {j sz L off len : Nat} (l : List α) (hr : ρ j = none) (hj : H j = .row sz (l.map f)) (hL : L = l.length) (h : off + len ≤ L) : exAP ρ H (.row j L off len) := exP_sub l hr hj hL h
theorem exVP_sub {j sz L off len : Nat} (l : List α) (hr : ρ j = none) (hj : H j = .row sz (l.map f)) (hL : L = l.length) (h : off + len ≤ L) : exVP ρ H (.row j L off len) := exP_sub l hr hj hL h
end

/-- A function that only reads, and leaves new memory behind at most. -/
theorem acall_quiet {P : Program} {fr : Bool} {k : FuncId} {args : List V} {rv : V}
    (h : ∀ (W : World) (hb : Handle) (H : Nat → AObj) (ok : Nat → Prop) (vals : Array Value), (∀ g vs, layMem g = some vs → ∃ T f, W.heap[g]? = some (.cells vs T f)) → RelL W hb H ok args vals →
      Calls P k vals W (fun e W' => ∃ v, e = .returned v ∧ (∃ q os, W' = Sort.grow (W.drewN q) os) ∧ ∀ hb H ok, Rel W' hb H ok rv v)) :
    ACall P fr k args [] (fun v o n => v = rv ∧ o = [] ∧ n = []) := by
  intro W A hb okA vals h1 h2 h3 h4
  refine (h W hb _ _ vals (fun g vs hg => (h3.lay g vs hg).1) h4).mono ?_
  rintro e W' ⟨v, rfl, ⟨q, os, rfl⟩, hv⟩
  refine ⟨v, rv, [], [], hb, rfl, ⟨rfl, rfl, rfl⟩, rfl, ?_, hv _ _ _⟩
  refine { obj := fun j => ?_, inj := fun i j b hi => absurd (heapOf_nil i) hi, hnd := fun j b hj => absurd (heapOf_nil j) hj, fresh := fun j _ => heapOf_nil j, ext := ⟨fun i hi _ => ?_, ?_, rfl, rfl, rfl⟩, keep := ⟨fun j cs hj => ?_, fun j sz es hj => ?_⟩, lay := h3.lay }
  · unfold ObjOk
    rw [show heapOf ([] ++ []) j = .none from heapOf_nil j]; trivial
  · show (W.heap ++ os)[i]? = _
    rw [Array.getElem?_append_left hi]
  · show _ ≤ (W.heap ++ os).size
    rw [Array.size_append]; omega
  · rw [h1, heapOf_nil] at hj; cases hj
  · rw [h1, heapOf_nil] at hj; cases hj

theorem two_args {W : World} {hb : Handle} {H : Nat → AObj} {ok : Nat → Prop} {x y : V} {vals : Array Value} (h : RelL W hb H ok [x, y] vals) : ∃ v u, vals = #[v, u] ∧ Rel W hb H ok x v ∧ Rel W hb H ok y u := by
  obtain ⟨h1, h2⟩ := h
  have hs : vals.size = 2 := by simp at h1; omega
  refine ⟨vals[0], vals[1], ?_, ?_, ?_⟩
  · apply Array.ext
    · simp; omega
    · intro i hi hj
      simp at hj
      have : i = 0 ∨ i = 1 := by omega
      rcases this with rfl | rfl <;> rfl
  · have := h2 0 (by omega)
    simpa [Array.getD_eq_getD_getElem?, hs] using this
  · have := h2 1 (by omega)
    simpa [Array.getD_eq_getD_getElem?, hs] using this

/-- The place of a byte in a text. -/
def idxB (s : Str) (c : Int) : Int := match (List.range s.length).find? (fun i => s.getD i 0 == c.toNat.toUInt8) with
  | some i => (i : Int)
  | none => -1
theorem bstr_get (s : Str) (i : Nat) (h : i < s.length) : (bstr s)[i]! = s.getD i 0 := by
  have h1 : i < (bstr s).size := h
  rw [getElem!_pos (bstr s) i h1, List.getD_eq_getElem?_getD, List.getElem?_eq_getElem h]
  rfl
theorem find_congr {p q : Nat → Bool} : ∀ l : List Nat, (∀ i ∈ l, p i = q i) → l.find? p = l.find? q
  | [], _ => rfl
  | a :: l, h => by
    rw [List.find?_cons, List.find?_cons, h a List.mem_cons_self, find_congr l fun i hi => h i (List.mem_cons_of_mem _ hi)]
theorem idx_run {P : Program} {s : Str} {c : Int} {W : World} {hb : Handle} {H : Nat → AObj} {ok : Nat → Prop} {vals : Array Value} (h : RelL W hb H ok [.d (.str (bstr s)), .d (.int .u8 c)] vals) :
    ∃ cv W', (Extern.BytealgIndexByte.indexByte vals).run P W = .ok cv W' ∧ SameMem W W' ∧ Rel W hb H ok (.d (.int .i64 (idxB s c))) cv := by
  obtain ⟨v, u, rfl, h1, h2⟩ := two_args h
  obtain rfl := rel_int h2
  have hv : v = .string (bstr s) := by
    cases h1 with | d h => cases h; rfl
  subst hv
  refine ⟨.int .i64 (idxB s c), W, ?_, SameMem.refl W, mk_int _ _⟩
  have e : (List.range (bstr s).size).find? (fun i => (bstr s)[i]! == c.toNat.toUInt8) = (List.range s.length).find? (fun i => s.getD i 0 == c.toNat.toUInt8) :=
    find_congr _ fun i hi => by rw [bstr_get s i (List.mem_range.1 hi)]
  have e1 : Extern.BytealgIndexByte.indexByte #[.string (bstr s), .int .u8 c] = (match (List.range (bstr s).size).find? (fun i => (bstr s)[i]! == c.toNat.toUInt8) with
    | some i => (pure (.int .i64 (i : Int)) : Sem Value)
    | none => pure (.int .i64 (-1))) := rfl
  rw [e1, e]
  unfold idxB
  split <;> rfl
end Go.Proofs.Ytmllgpkgjniomaa.AWN

namespace Go.Proofs.Ytmllgpkgjniomaa.AWN
open Go

theorem putRow_get {w : World} {b off : Nat} {d : Array Int} {k : Nat} : (Sort.putRow (Value.int .i64) w b off d).heap[k]? = if b = k then (w.heap[k]?).map (Sort.onCells (Sort.putCells (Value.int .i64) off d)) else w.heap[k]? := by
  unfold Sort.putRow Sort.mapBlock
  rw [Array.getElem?_modify]
theorem three_args {W : World} {hb : Handle} {H : Nat → AObj} {ok : Nat → Prop} {x y z : V} {vals : Array Value} (h : RelL W hb H ok [x, y, z] vals) : ∃ v u t, vals = #[v, u, t] ∧ Rel W hb H ok x v ∧ Rel W hb H ok y u ∧ Rel W hb H ok z t := by
  obtain ⟨h1, h2⟩ := h
  have hs : vals.size = 3 := by simp at h1; omega
  refine ⟨vals[0], vals[1], vals[2], ?_, ?_, ?_, ?_⟩
  · apply Array.ext
    · simp; omega
    · intro i hi hj
      simp at hj
      have : i = 0 ∨ i = 1 ∨ i = 2 := by omega
      rcases this with rfl | rfl | rfl <;> rfl
  · have := h2 0 (by omega)
    simpa [Array.getD_eq_getD_getElem?, hs] using this
  · have := h2 1 (by omega)
    simpa [Array.getD_eq_getD_getElem?, hs] using this
  · have := h2 2 (by omega)
    simpa [Array.getD_eq_getD_getElem?, hs] using this
/-- What a whole row that is not empty stands for. -/
theorem rel_row_full {W : World} {hb : Handle} {H : Nat → AObj} {ok : Nat → Prop} {j L sz : Nat} {es : List (List D)} {v : Value} (hj : H j = .row sz es) (hL : es.length = L) (h0 : 0 < L) (h : Rel W hb H ok (.row j L 0 L) v) :
    ∃ b cap bs, v = .slice (some ⟨b, 0, none⟩) L cap ∧ hb j = some b ∧ (W.shape? b).map (·.2) = some bs ∧ L ≤ cap ∧ cap * sz ≤ bs ∧ cap ≤ maxLen := by
  generalize hx : (V.row j L 0 L) = x at h
  cases h with
  | @row _ _ _ _ b _ cap bs _ e1 e2 e3 e4 e5 e6 e7 e8 e9 =>
    cases hx
    rw [hj] at e1; cases e1
    refine ⟨b, cap, bs, by rw [Nat.zero_mul], e3, e4, e6, by simpa using e7, e9⟩
  | rowEmpty e1 e2 e3 => cases hx; omega
  | rowNil e1 e2 => cases hx; omega
  | rowStale v e1 e2 e3 => cases hx; rw [hj] at e1; cases e1; omega
  | _ => cases hx
/-- A function that is handed a row of integers, and two integers, and writes the row. -/
theorem acall_row_write {P : Program} {fr : Bool} {k : FuncId} {f : Int → List D} (hf : ∀ x, f x = [.int .i64 x]) {l r : List Int} {i j : Int} {len' : Nat} (h0 : 0 < l.length) (hlen : r.length = l.length) (hle : len' ≤ l.length)
    (hc : ∀ (W : World) (b cap : Nat), Sort.Holds (Value.int .i64) W b 0 l.toArray → l.length ≤ cap → cap ≤ 9223372036854775807 →
      Calls P k #[.slice (some ⟨b, 0, none⟩) l.length cap, .int .i64 i, .int .i64 j] W fun e w' => e = .returned (.slice (some ⟨b, 0, none⟩) len' cap) ∧ ∃ q, w' = Sort.putRow (Value.int .i64) (Sort.ahead W q) b 0 r.toArray) :
    ACall P fr k [.row 0 l.length 0 l.length, .d (.int .i64 i), .d (.int .i64 j)] [.row 1 (l.map f)] (fun v o n => v = .row 0 l.length 0 len' ∧ o = [.row 1 (r.map f)] ∧ n = []) := by
  intro W A hb okA vals h1 h2 h3 h4
  obtain ⟨v, u, t, rfl, g1, g2, g3⟩ := three_args h4
  obtain rfl := rel_int g2
  obtain rfl := rel_int g3
  have hj : heapOf [AObj.row 1 (l.map f)] 0 = .row 1 (l.map f) := rfl
  have hjn : heapOf [AObj.row 1 (l.map f)] 0 ≠ .none := by rw [hj]; simp
  obtain ⟨b, cap, bs, rfl, e3, e4, e6, e7, e9⟩ := rel_row_full hj (len_map l) h0 g1
  obtain ⟨q0, q⟩ := row_at h3 hj
  rcases q with ⟨q1, q2⟩ | ⟨b', cells, T, frz, p1, p2, p3, p4, p5⟩
  · rw [q2] at e3; cases e3
  obtain rfl := Option.some.inj (p1.symm.trans e3)
  rw [len_map, Nat.mul_one] at p3
  have hget : ∀ x, x < l.length → cells.getD x undef = .int .i64 (l.getD x 0) := by
    intro x hx
    have := p5 x 0 (by simpa using hx) (by decide)
    have e1 : ((l.map f).getD x []).getD 0 .nilp = .int .i64 (l.getD x 0) := by simp [List.getD_eq_getElem?_getD, hx, hf]
    rw [e1] at this
    have := relD_int this
    simpa using this
  have hH : Sort.Holds (Value.int .i64) W b' 0 l.toArray := by
    intro x hx
    have hx : x < l.length := by simpa using hx
    have hxc : x < cells.size := by omega
    refine ⟨?_, ?_⟩
    · rw [cell_of_heap p2, Nat.zero_add]
      have := hget x hx
      rw [Array.getD_eq_getD_getElem?, Array.getElem?_eq_getElem hxc] at this
      rw [Array.getElem?_eq_getElem hxc]
      simp only [Option.getD_some] at this
      rw [this]
      simp [List.getD_eq_getElem?_getD, hx]
    · rw [Nat.zero_add]
      exact frozen_of_heap p2 (p4 x hxc)
  refine (hc W b' cap hH e6 e9).mono ?_
  rintro e W' ⟨rfl, q, rfl⟩
  -- what was written
  have hp : (Sort.putRow (Value.int .i64) (Sort.ahead W q) b' 0 r.toArray).heap[b']? = some (.cells (Sort.putCells (Value.int .i64) 0 r.toArray cells) T frz) := by
    rw [putRow_get, if_pos rfl]
    show (W.heap[b']?).map _ = _
    rw [p2]; rfl
  have hps : (Sort.putCells (Value.int .i64) 0 r.toArray cells).size = cells.size := by simp [Sort.putCells]
  have s2 : Upd W (Sort.putRow (Value.int .i64) (Sort.ahead W q) b' 0 r.toArray) b' (Sort.putCells (Value.int .i64) 0 r.toArray cells) :=
    ⟨fun x hx => by rw [putRow_get, if_neg (Ne.symm hx)]; rfl, ⟨cells, T, frz, p2, hp, hps⟩, by
      unfold Sort.putRow Sort.mapBlock
      show (Array.modify W.heap b' _).size = _
      simp, rfl, rfl, rfl⟩
  have hob : ∀ cs', heapOf [AObj.row 1 (l.map f)] 0 = .box cs' → ∃ cs'', AObj.row 1 (r.map f) = .box cs'' := fun _ he => by rw [hj] at he; cases he
  have hrow : ∀ sz es', heapOf [AObj.row 1 (l.map f)] 0 = .row sz es' → ∃ es'', AObj.row 1 (r.map f) = .row sz es'' ∧ es'.length ≤ es''.length := fun sz es' he' => by
    rw [hj] at he'; cases he'; exact ⟨_, rfl, by simp [hlen]⟩
  have mv := MovesV.store (w0 := W) (okA := okA) (hb := hb) (H := heapOf [AObj.row 1 (l.map f)]) (ob := .row 1 (r.map f)) s2 hjn p1 (by simp) hob hrow
  have hnew : upd (heapOf [AObj.row 1 (l.map f)]) 0 (.row 1 (r.map f)) = heapOf ([AObj.row 1 (r.map f)] ++ []) := by
    funext x
    by_cases hx : x = 0
    · subst hx; rw [upd_same]; rfl
    · rw [upd_ne _ _ hx, List.append_nil, heapOf_ge (by simp; omega), heapOf_ge (by simp; omega)]
  have hval : ∀ ok', RowOk (Sort.putRow (Value.int .i64) (Sort.ahead W q) b' 0 r.toArray) hb ok' 0 1 (r.map f) := by
    intro ok'
    refine ⟨fun y hy => ?_, .inr ⟨b', _, T, frz, p1, hp, ?_, by rw [hps]; exact p4, fun x c hx hcc => ?_⟩⟩
    · obtain ⟨z, _, rfl⟩ := List.mem_map.1 hy
      rw [hf]; rfl
    · rw [len_map, hps, Nat.mul_one]; omega
    · have hx : x < r.length := by simpa using hx
      have hc0 : c = 0 := by omega
      subst hc0
      have hxc : x < cells.size := by omega
      have e1 : ((r.map f).getD x []).getD 0 .nilp = .int .i64 (r.getD x 0) := by simp [List.getD_eq_getElem?_getD, hx, hf]
      rw [e1]
      have e2 : (Sort.putCells (Value.int .i64) 0 r.toArray cells).getD (x * 1 + 0) undef = .int .i64 (r.getD x 0) := by
        simp only [Nat.mul_one, Nat.add_zero]
        unfold Sort.putCells
        simp [Array.getD_eq_getD_getElem?, hxc, hx, List.getD_eq_getElem?_getD]
      rw [e2]
      exact .int _ _
  have hsim : HSim W A okA hb (heapOf ([AObj.row 1 (r.map f)] ++ [])) ([AObj.row 1 (r.map f)] ++ ([] : List AObj)).length (Sort.putRow (Value.int .i64) (Sort.ahead W q) b' 0 r.toArray) := by
    have := h3.store s2 hjn p1 (ob := .row 1 (r.map f)) (by simp) hob hrow (by
      unfold ObjOk
      rw [upd_same]
      exact hval _)
    rw [hnew] at this
    exact this
  have hsim2 : HSim W A (if fr then noOk else okA) hb (heapOf ([AObj.row 1 (r.map f)] ++ [])) ([AObj.row 1 (r.map f)] ++ ([] : List AObj)).length (Sort.putRow (Value.int .i64) (Sort.ahead W q) b' 0 r.toArray) := by
    cases fr with
    | false => exact hsim
    | true =>
      refine { hsim with obj := fun x => ?_ }
      by_cases hx : x = 0
      · subst hx
        unfold ObjOk
        rw [show heapOf ([AObj.row 1 (r.map f)] ++ []) 0 = .row 1 (r.map f) from rfl]
        exact hval _
      · unfold ObjOk
        rw [heapOf_ge (by simp; omega)]; trivial
  refine ⟨_, .row 0 l.length 0 len', [.row 1 (r.map f)], [], hb, rfl, ⟨rfl, rfl, rfl⟩, rfl, hsim2, ?_⟩
  have := Rel.row (W := Sort.putRow (Value.int .i64) (Sort.ahead W q) b' 0 r.toArray) (hb := hb) (H := heapOf ([AObj.row 1 (r.map f)] ++ [])) (ok := okF W (if fr then noOk else okA) hb (heapOf ([AObj.row 1 (r.map f)] ++ [])) (Sort.putRow (Value.int .i64) (Sort.ahead W q) b' 0 r.toArray))
    (j := 0) (L := l.length) (off := 0) (len := len') (cap := cap) (sz := 1) (es := r.map f) (b := b') (bs := bs) rfl (by rw [len_map, hlen]) p1 ?_ (by omega) (by omega) (by simpa using e7) ?_ e9
  · simpa using this
  · rw [upd_shape s2]; exact e4
  · omega
/-- slices.Delete, in the model's words. -/
def deleteM (l : List Int) (i j : Int) : Option (List Int) := if 0 ≤ i ∧ i ≤ j ∧ j ≤ (l.length : Int) ∧ 0 < l.length then some (l.take i.toNat ++ l.drop j.toNat ++ List.replicate (j.toNat - i.toNat) 0) else none
end Go.Proofs.Ytmllgpkgjniomaa.AWN

namespace Go.Proofs.Ytmllgpkgjniomaa.AWN
open Go Go.RowKit

/-- A function of data alone, out of a walk that leaves all old memory as it was. -/
theorem acall_below {P : Program} {fr : Bool} {k : FuncId} {args : List V} {rv : V}
    (h : ∀ (W : World) (hb : Handle) (H : Nat → AObj) (ok : Nat → Prop) (vals : Array Value), (∀ g vs, layMem g = some vs → ∃ T f, W.heap[g]? = some (.cells vs T f)) → (∀ b, ok b → b < W.heap.size) → RelL W hb H ok args vals →
      Calls P k vals W (fun e W' => ∃ v, e = .returned v ∧ Below W.heap.size W W' ∧ ∀ hb H ok, Rel W' hb H ok rv v)) :
    ACall P fr k args [] (fun v o n => v = rv ∧ o = [] ∧ n = []) := by
  intro W A hb okA vals h1 h2 h3 h4
  refine (h W hb _ _ vals (fun g vs hg => (h3.lay g vs hg).1) (fun b hb => hb.1) h4).mono ?_
  rintro e W' ⟨v, rfl, bel, hv⟩
  refine ⟨v, rv, [], [], hb, rfl, ⟨rfl, rfl, rfl⟩, rfl, ?_, hv _ _ _⟩
  exact { obj := fun j => by unfold ObjOk; rw [show heapOf ([] ++ []) j = .none from heapOf_nil j]; trivial, inj := fun i j b hi => absurd (heapOf_nil i) hi, hnd := fun j b hj => absurd (heapOf_nil j) hj, fresh := fun j _ => heapOf_nil j, ext := ⟨fun i hi _ => bel.block i hi, bel.size, bel.tape, bel.os, bel.output⟩, keep := ⟨fun j cs hj => (by rw [h1, heapOf_nil] at hj; cases hj), fun j sz es hj => (by rw [h1, heapOf_nil] at hj; cases hj)⟩, lay := h3.lay }
/-- .. and back: a contract of a function of data alone, as a walk takes it. -/
theorem calls_of_acall {P : Program} {k : FuncId} {args : List V} {vals : Array Value} {W : World} {rv : V} {v0 : Value} (hlay : ∀ g vs, layMem g = some vs → ∃ T fr, W.heap[g]? = some (.cells vs T fr)) (hc : ACall P false k args [] (fun r o n => r = rv ∧ o = [] ∧ n = []))
    (hrel : RelL W (fun _ => none) (heapOf []) (okF W (fun _ => True) (fun _ => none) (heapOf []) W) args vals) (hv0 : ∀ W' hb H ok v, Rel W' hb H ok rv v → v = v0) : Calls P k vals W (fun e W' => e = .returned v0 ∧ Below W.heap.size W W') := by
  have hs : HSim W ⟨heapOf [], fun _ => none⟩ (fun _ => True) (fun _ => none) (heapOf []) ([] : List AObj).length W :=
    { obj := fun j => by unfold ObjOk; rw [heapOf_nil]; trivial, inj := fun i j b hi => absurd (heapOf_nil i) hi, hnd := fun j b hj => absurd (heapOf_nil j) hj, fresh := fun j _ => heapOf_nil j, ext := Ext.refl _ _, keep := MovesR.refl _ _ _, lay := fun g vs hg => ⟨hlay g vs hg, fun ⟨j, hj, _⟩ => hj (heapOf_nil j)⟩ }
  refine (hc W ⟨heapOf [], fun _ => none⟩ (fun _ => none) (fun _ => True) vals rfl rfl hs hrel).mono fun e W' ⟨v, r, o, n, hb', he, ⟨hr, ho, hn⟩, _, hs', hv⟩ => ?_
  subst hr
  have := hv0 _ _ _ _ _ hv
  subst this
  have hx := hs'.ext
  exact ⟨he, hx.os, hx.tape, hx.output, hx.size, fun k hk => hx.kept k hk (fun ⟨j, hj, _⟩ => hj (heapOf_nil j))⟩
theorem relL_1 {W : World} {hb : Handle} {H : Nat → AObj} {ok : Nat → Prop} {x : V} {v : Value} (h : Rel W hb H ok x v) : RelL W hb H ok [x] #[v] := ⟨rfl, fun i hi => by
  rcases i with _ | i
  · exact h
  · simp at hi⟩
theorem relL_2 {W : World} {hb : Handle} {H : Nat → AObj} {ok : Nat → Prop} {x y : V} {v u : Value} (h : Rel W hb H ok x v) (h' : Rel W hb H ok y u) : RelL W hb H ok [x, y] #[v, u] := ⟨rfl, fun i hi => by
  rcases i with _ | _ | i
  · exact h
  · exact h'
  · simp at hi; omega⟩
theorem rel_ib {W : World} {hb : Handle} {H : Nat → AObj} {ok : Nat → Prop} {x : Int} {b : Bool} {v : Value} (h : Rel W hb H ok (.tup [.d (.int .i64 x), .d (.bool b)]) v) : v = .tuple #[.int .i64 x, .bool b] := by
  cases h with
  | tup h1 h2 =>
    rename_i a
    have h0 := rel_int (h2 0 (by simp at h1; omega))
    have h3 := rel_bool (h2 1 (by simp at h1; omega))
    congr 1
    apply Array.ext
    · simp at h1; simp; omega
    · intro i hi hj
      simp at hj
      have : i = 0 ∨ i = 1 := by omega
      rcases this with rfl | rfl
      · rw [Array.getD_eq_getD_getElem?, Array.getElem?_eq_getElem hi] at h0; exact h0
      · rw [Array.getD_eq_getD_getElem?, Array.getElem?_eq_getElem hi] at h3; exact h3

def LayAt (W : World) : Prop := ∀ g vs, layMem g = some vs → ∃ T fr, W.heap[g]? = some (.cells vs T fr)
theorem LayAt.below {W W' : World} (h : LayAt W) (b : Below W.heap.size W W') : LayAt W' := fun g vs hg => by
  obtain ⟨T, fr, e⟩ := h g vs hg
  exact ⟨T, fr, by rw [b.block g (by
    rcases Nat.lt_or_ge g W.heap.size with h' | h'
    · exact h'
    · simp [Array.getElem?_eq_none h'] at e), e]⟩
end Go.Proofs.Ytmllgpkgjniomaa.AWN

namespace Go.Proofs.Ytmllgpkgjniomaa.AWN
open Go
section
variable {P : Program} {τ : Tab} {ops : Array Oper} {σ : St} {o : Oper} {rest : List Oper} {Q : Exit → St → Prop}
theorem awl_valS (hτ : TabOk P τ) (sz L : Nat) (es : List (List D)) (hw : wantedA ops σ o = some true) (hd : dstOk σ o.dst = true) (h : stepO τ σ o.op = .valH (.row σ.next L 0 L) (upd σ.heap σ.next (.row sz es)) (σ.next + 1)) (hK : AWL P ops rest (({ σ with heap := upd σ.heap σ.next (.row sz es), next := σ.next + 1 } : St).putO o.dst (.row σ.next L 0 L)) Q) : AWL P ops (o :: rest) σ Q := awl_valH hτ hw hd h hK
end
end Go.Proofs.Ytmllgpkgjniomaa.AWN
