/- Slots, places and what the evaluator Vm knows of a frame. Own work; definitions and lemmas. No condition. -/
import Derived.Test.YthnkkchlgepdaaaVmB
namespace Go.Vm
open Go.RowKit

/-- A place inside the content of a slot: the slot, when the link was made, the way through slices (cell, element), the cell. -/
structure Lk where
  s : Nat
  t : Nat
  st : List (Nat × Nat)
  off : Nat

/-- a cell of a struct's value -/
inductive Cel where
  | d (t : Ty) (x : t.den)
  | ref (l : Lk)
  | bad

/-- what is known of a slot's value -/
inductive V where
  | dat (t : Ty) (a : An) (x : t.den)
  | box (t : Ty) (a : An) (x : t.den)
  | ptr (l : Lk)
  | ref (l : Lk) (cut : Option (Nat × Nat × Nat))
  | agg (cs : List Cel)
  | tup (ds : List Dat)
  | nil
  | fnc (f : FuncId) (caps : List Lk)
  | fnv (f : FuncId) (ds : List Dat)
  | fnl (s : Nat) (t : Nat)
  | rop (t : Ty) (x : t.den) (off : Nat)
  | dead

/-- A slot: its clock; when its object, the form and the content of this turned last; its value. -/
structure Slot where
  now : Nat
  ver : Nat
  cver : Nat
  rev : Nat
  v : V

/-- a slot's value in the machine -/
def tv (tmps : Array Value) (s : Nat) : Value := tmps.getD s undef

abbrev Env := List Slot
def get (env : Env) (s : Nat) : Slot := env.getD s ⟨0, 0, 0, 0, .dead⟩

/-- a value's cells -/
def unpack : Value → List Value
  | .agg cs => cs.toList
  | v => [v]
/-- the value of data with these cells -/
def Packed (t : Ty) (cs : List Value) (x : Value) : Prop :=
  match t with
  | .pair _ _ => x = .agg cs.toArray
  | _ => cs = [x]

/-- the cells from k on of block b -/
def cellsAt (w : World) (b k n : Nat) : List Value :=
  match w.heap[b]? with
  | some (.cells C _ _) => (C.toList.drop k).take n
  | _ => []

/-- the cells of the object behind a way, and where they lie -/
def loc (w : World) : (t : Ty) → An → t.den → List Value → Option (Nat × Nat) → List (Nat × Nat) → Option (List Value × Option (Nat × Nat))
  | _, _, _, cs, bk, [] => some (cs, bk)
  | t, a, y, cs, _, (o, i) :: st =>
    match sub t a y o 1, cs[o]? with
    | some ⟨.sl e, .own _ ae, xs⟩, some (.slice (some p) _ _) =>
      if i < xs.length then loc w e ae (xs.getD i e.dflt) (cellsAt w p.block (i * e.sz) e.sz) (some (p.block, i * e.sz)) st else none
    | _, _ => none

/-- the object that a slot's value is or points to -/
def obj (w : World) (v : V) (x : Value) : Option (Dat × List Value × Option (Nat × Nat)) :=
  match v, x with
  | .dat t a y, x => some (⟨t, a, y⟩, unpack x, none)
  | .box t a y, .pointer (some p) => some (⟨t, a, y⟩, cellsAt w p.block 0 t.sz, some (p.block, 0))
  | _, _ => none

def locOf (w : World) (env : Env) (tmps : Array Value) (l : Lk) : Option (List Value × Option (Nat × Nat)) :=
  match obj w (get env l.s).v (tv tmps l.s) with
  | some (d, cs, bk) => loc w d.t d.a d.x cs bk l.st
  | none => none

/-- the link still stands -/
def freshP (env : Env) (l : Lk) : Bool :=
  Nat.ble (get env l.s).ver l.t && (l.st.isEmpty || (Nat.ble (get env l.s).cver l.t && (l.st.length == 1 || Nat.ble (get env l.s).rev l.t)))
def freshR (env : Env) (l : Lk) : Bool :=
  Nat.ble (get env l.s).ver l.t && (Nat.ble (get env l.s).cver l.t && (l.st.isEmpty || Nat.ble (get env l.s).rev l.t))

/-- the header that a slice expression makes -/
def cutV (h : Value) : Option (Nat × Nat × Nat) → Value
  | none => h
  | some (lo, n, sz) => match h with
    | .slice p _ cap => .slice (if cap = lo then p else p.map (·.add (lo * sz))) n (cap - lo)
    | v => v

/-- the part that a slice expression cuts lies in the slice -/
def CutOk (h : Value) : Option (Nat × Nat × Nat) → Prop
  | none => ∃ p len cap, h = .slice p len cap
  | some (lo, n, _) => ∃ p len cap, h = .slice p len cap ∧ lo + n ≤ len

def PtrOk (w : World) (env : Env) (tmps : Array Value) (l : Lk) (x : Value) : Prop :=
  l.t ≤ (get env l.s).now ∧ (freshP env l = true → ∃ cs b k, locOf w env tmps l = some (cs, some (b, k)) ∧ x = .pointer (some ⟨b, k + l.off, none⟩))
def RefOk (w : World) (env : Env) (tmps : Array Value) (l : Lk) (cut : Option (Nat × Nat × Nat)) (x : Value) : Prop :=
  l.t ≤ (get env l.s).now ∧ (freshR env l = true → ∃ cs bk h, locOf w env tmps l = some (cs, bk) ∧ cs[l.off]? = some h ∧ CutOk h cut ∧ x = cutV h cut)

def FnlOk (env : Env) (tmps : Array Value) (s t : Nat) (x : Value) : Prop := t ≤ (get env s).now ∧ ((get env s).ver ≤ t → x = tv tmps s)

/-- one result of several -/
def RepOne (w : World) (d : Dat) (c : List Value) (O R : List Nat) : Prop := ∃ x cs, c = [x] ∧ Packed d.t cs x ∧ Rep w d.t d.a d.x cs O R
/-- a variable behind a pointer -/
def RepBox (w : World) (d : Dat) (c : List Value) (O R : List Nat) : Prop :=
  ∃ b C el O', c = [.pointer (some ⟨b, 0, none⟩)] ∧ w.heap[b]? = some (.cells C el (0, 0)) ∧ Rep w d.t d.a d.x C.toList O' R ∧ O = b :: O'
def RepCel (w : World) (c : Cel) (cs : List Value) (O R : List Nat) : Prop :=
  match c with
  | .d t y => t.sz = 1 ∧ O = [] ∧ Rep w t .ro y cs [] R
  | .ref _ => O = [] ∧ R = [] ∧ ∃ p n c, cs = [.slice p n c]
  | .bad => O = [] ∧ R = [] ∧ ∃ v : Value, cs = [v] ∧ v.oneCell' = true

/-- what a slot holds -/
def SlotOk (w : World) (env : Env) (tmps : Array Value) (v : V) (x : Value) (O R : List Nat) : Prop :=
  match v with
  | .dat t a y => ∃ cs, Packed t cs x ∧ Rep w t a y cs O R
  | .box t a y => RepBox w ⟨t, a, y⟩ [x] O R
  | .ptr l => O = [] ∧ R = [] ∧ PtrOk w env tmps l x
  | .ref l cut => O = [] ∧ R = [] ∧ RefOk w env tmps l cut x
  | .agg cs => ∃ vs, x = .agg vs.toArray ∧ RepL (RepCel w) cs vs O R ∧ ∀ (j : Nat) (l : Lk), cs[j]? = some (Cel.ref l) → ∃ v, vs[j]? = some v ∧ RefOk w env tmps l none v
  | .tup ds => ∃ vs, x = .tuple vs.toArray ∧ RepL (RepOne w) ds vs O R
  | .nil => O = [] ∧ R = [] ∧ x = .slice none 0 0
  | .fnc f caps => O = [] ∧ R = [] ∧ ∃ vs : List Value, x = .func (.func f) #[] vs.toArray ∧ vs.length = caps.length ∧ ∀ (j : Nat) (l : Lk), caps[j]? = some l → ∃ v, vs[j]? = some v ∧ PtrOk w env tmps l v
  | .fnv f ds => ∃ vs : List Value, x = .func (.func f) #[] vs.toArray ∧ RepL (RepBox w) ds vs O R
  | .fnl s t => O = [] ∧ R = [] ∧ FnlOk env tmps s t x
  | .rop t y off => O = [] ∧ ∃ b k cells R', x = .pointer (some ⟨b, k + off, none⟩) ∧ Rep w t .ro y cells [] R' ∧
      (∀ j u, cells[j]? = some u → w.cell? ⟨b, k + j, none⟩ = some u) ∧ R = b :: R'
  | .dead => O = [] ∧ R = []

/-- The frame: every slot's value is what is known of it; what is owned is owned once, and by nobody read. -/
structure Rel (w : World) (env : Env) (tmps : Array Value) (Of Rf : Nat → List Nat) : Prop where
  size : tmps.size = env.length
  slot : ∀ s, SlotOk w env tmps (get env s).v (tv tmps s) (Of s) (Rf s)
  nodup : ∀ s, (Of s).Nodup
  apart : ∀ s s' b, s ≠ s' → b ∈ Of s → b ∉ Of s'
  unread : ∀ s s' b, b ∈ Of s → b ∉ Rf s'

theorem cellsAt_congr {w w' : World} {b k n : Nat} (h : w'.heap[b]? = w.heap[b]?) : cellsAt w' b k n = cellsAt w b k n := by simp [cellsAt, h]

/-- A way's cells do not turn while the world turns in no block that is owned there. -/
theorem loc_frame {w w' : World} {t : Ty} {a : An} {x : t.den} {cs : List Value} {bk : Option (Nat × Nat)} {O R : List Nat} (h : Rep w t a x cs O R)
    (hO : ∀ b ∈ O, w'.heap[b]? = w.heap[b]?) (st : List (Nat × Nat)) : loc w' t a x cs bk st = loc w t a x cs bk st := by
  induction st generalizing t a cs bk O R with
  | nil => simp [loc]
  | cons p st ih =>
    obtain ⟨o, i⟩ := p
    cases hs : sub t a x o 1 with
    | none => simp [loc, hs]
    | some d =>
      obtain ⟨c0, c1, c2, O0, O1, O2, R0, R1, R2, rfl, hl, hn, rfl, rfl, hd, -⟩ := h.focus hs
      obtain ⟨dt, da, dx⟩ := d
      cases dt with
      | sl e =>
        cases da with
        | own el ae =>
          obtain ⟨v, cells, O', rfl, ho, hm, rfl, hL⟩ := hd
          have hc : (c0 ++ [v] ++ c2)[o]? = some v := by simp [← hl]
          simp only [loc, hs, hc]
          cases v with
          | slice p len cap =>
            cases p with
            | none => rfl
            | some p =>
              simp only
              rcases ho.2 with ⟨h1, -⟩ | ⟨g, cap', cur, h1, hb, hg, hn1, hn2, hn3, htake⟩
              · cases h1
              · simp only [Value.slice.injEq, Option.some.injEq] at h1
                obtain ⟨rfl, rfl, rfl⟩ := h1
                split
                · rename_i hi
                  have hgx : dx[i]? = some dx[i] := by simp [hi]
                  obtain ⟨d0, d1, d2, P0, P1, P2, Q0, Q1, Q2, rfl, hl', rfl, rfl, hd', -⟩ := hL.focus (f := fun w => Rep w e ae) (n := e.sz) (w := w)
                    (fun w x c O1 R1 h => h.len.1) (fun w w' x c O1 R1 h ho hr => h.frame ho hr) hgx
                  have hblk : w'.heap[g]? = w.heap[g]? := hO g (by simp [Value.ownBlock])
                  rw [cellsAt_congr hblk]
                  have hcell : cellsAt w g (i * e.sz) e.sz = d1 := by
                    simp only [cellsAt, hg]
                    have h5 := hd'.len.1
                    have : (cur.toList.drop (i * e.sz)).take e.sz = ((cur.toList.take (dx.length * e.sz)).drop (i * e.sz)).take e.sz := by
                      rw [List.drop_take, List.take_take]
                      congr 1
                      have : i * e.sz + e.sz ≤ dx.length * e.sz := by rw [← Nat.succ_mul]; exact Nat.mul_le_mul_right _ hi
                      omega
                    rw [this, htake, List.append_assoc, ← hl', List.drop_left, ← h5, List.take_left]
                  rw [hcell]
                  have hget : dx.getD i e.dflt = dx[i] := by simp [List.getD, hi]
                  rw [hget]
                  exact ih hd' (fun b hb => hO b (by simp [hb]))
                · rfl
          | _ => rfl
        | _ => simp [loc, hs]
      | _ => simp [loc, hs]

end Go.Vm
