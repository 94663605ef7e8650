/- The values of the evaluator Vm: data types, ownership, and how memory represents data. Own work; plain definitions and lemmas. No condition. -/
import Derived.Below
namespace Go.Vm
open Go.RowKit

/-- Types of data. A slice's elements; a struct is a right-nested pair. -/
inductive Ty where
  | int (k : IntKind)
  | bool
  | str
  | pair (a b : Ty)
  | sl (e : Ty)
  deriving DecidableEq

/-- Ownership: nothing below is the holder's own (ro), a slice of the holder's own (with the number of its element type), a cell whose content was moved out. -/
inductive An where
  | ro
  | hole
  | own (el : TypeId) (a : An)
  | pair (a b : An)
  deriving DecidableEq

@[reducible] def Ty.den : Ty → Type
  | .int _ => Int
  | .bool => Bool
  | .str => ByteArray
  | .pair a b => a.den × b.den
  | .sl e => List e.den

def Ty.sz : Ty → Nat
  | .pair a b => a.sz + b.sz
  | _ => 1

def Ty.dflt : (t : Ty) → t.den
  | .int _ => (0 : Int)
  | .bool => false
  | .str => ByteArray.empty
  | .pair a b => (a.dflt, b.dflt)
  | .sl _ => []

def An.l : An → An
  | .pair a _ => a
  | .hole => .hole
  | _ => .ro
def An.r : An → An
  | .pair _ b => b
  | .hole => .hole
  | _ => .ro

theorem Ty.sz_pos (t : Ty) : 0 < t.sz := by
  induction t <;> simp [Ty.sz] <;> omega

/-- a number of its kind -/
def inK (k : IntKind) (n : Int) : Prop := k.min ≤ n ∧ n ≤ k.max

/-- a list represented piece by piece: cells, own blocks, read blocks -/
def RepL {α : Type} (f : α → List Value → List Nat → List Nat → Prop) : List α → List Value → List Nat → List Nat → Prop
  | [], cs, O, R => cs = [] ∧ O = [] ∧ R = []
  | x :: xs, cs, O, R => ∃ c1 c2 O1 O2 R1 R2, cs = c1 ++ c2 ∧ O = O1 ++ O2 ∧ R = R1 ++ R2 ∧ f x c1 O1 R1 ∧ RepL f xs c2 O2 R2

/-- the longest slice, in elements -/
def maxEl : Nat := 281474976710656

/-- one cell of anything -/
def AnyCell (cs : List Value) (O R : List Nat) : Prop := O = [] ∧ R = [] ∧ ∃ v : Value, cs = [v] ∧ v.oneCell' = true

/-- a slice of the holder's own -/
def RepOwn {α : Type} (w : World) (el : TypeId) (sz : Nat) (f : α → List Value → List Nat → List Nat → Prop) (xs : List α) (cs : List Value) (O R : List Nat) : Prop :=
  ∃ v cells O', cs = [v] ∧ w.ownsRow 0 el sz v xs.length cells ∧ xs.length ≤ maxEl ∧ O = v.ownBlock.toList ++ O' ∧ RepL f xs cells O' R

/-- a slice that is only read -/
def RepRo {α : Type} (w : World) (f : α → List Value → List Nat → List Nat → Prop) (xs : List α) (cs : List Value) (O R : List Nat) : Prop :=
  O = [] ∧ ((R = [] ∧ xs = [] ∧ ∃ p cap, cs = [.slice p 0 cap]) ∨
    ∃ b off cap cells R', cs = [.slice (some ⟨b, off, none⟩) xs.length cap] ∧ 0 < xs.length ∧ (xs.length ≤ maxEl ∧ xs.length ≤ cap) ∧
      (∀ j u, cells[j]? = some u → w.cell? ⟨b, off + j, none⟩ = some u) ∧ R = b :: R' ∧ RepL f xs cells [] R')

/-- the cells that represent data; O: the blocks that are the holder's own, R: those that are only read -/
def Rep (w : World) : (t : Ty) → An → t.den → List Value → List Nat → List Nat → Prop
  | .int k, a, n, cs, O, R => match a with
    | .hole => AnyCell cs O R
    | _ => O = [] ∧ R = [] ∧ cs = [.int k n] ∧ inK k n
  | .bool, a, b, cs, O, R => match a with
    | .hole => AnyCell cs O R
    | _ => O = [] ∧ R = [] ∧ cs = [.bool b]
  | .str, a, s, cs, O, R => match a with
    | .hole => AnyCell cs O R
    | _ => O = [] ∧ R = [] ∧ cs = [.string s] ∧ s.size ≤ maxEl
  | .pair t u, a, x, cs, O, R => ∃ c1 c2 O1 O2 R1 R2, cs = c1 ++ c2 ∧ O = O1 ++ O2 ∧ R = R1 ++ R2 ∧ Rep w t a.l x.1 c1 O1 R1 ∧ Rep w u a.r x.2 c2 O2 R2
  | .sl e, a, xs, cs, O, R => match a with
    | .hole => AnyCell cs O R
    | .own el ae => RepOwn w el e.sz (Rep w e ae) xs cs O R
    | _ => RepRo w (Rep w e .ro) xs cs O R

theorem RepL.imp {α : Type} {f g : α → List Value → List Nat → List Nat → Prop} {xs : List α} {cs : List Value} {O R : List Nat}
    (h : RepL f xs cs O R) (hfg : ∀ x ∈ xs, ∀ c O1 R1, (∀ b ∈ O1, b ∈ O) → (∀ b ∈ R1, b ∈ R) → f x c O1 R1 → g x c O1 R1) : RepL g xs cs O R := by
  induction xs generalizing cs O R with
  | nil => exact h
  | cons x xs ih =>
    obtain ⟨c1, c2, O1, O2, R1, R2, rfl, rfl, rfl, h1, h2⟩ := h
    refine ⟨c1, c2, O1, O2, R1, R2, rfl, rfl, rfl, hfg x (by simp) _ _ _ (fun b hb => by simp [hb]) (fun b hb => by simp [hb]) h1, ih h2 ?_⟩
    intro y hy c O' R' ho hr
    exact hfg y (by simp [hy]) c O' R' (fun b hb => by simp [ho b hb]) (fun b hb => by simp [hr b hb])

theorem RepL.len {α : Type} {f : α → List Value → List Nat → List Nat → Prop} {n : Nat} {xs : List α} {cs : List Value} {O R : List Nat}
    (h : RepL f xs cs O R) (hf : ∀ x c O1 R1, f x c O1 R1 → c.length = n ∧ ∀ v ∈ c, v.oneCell' = true) : cs.length = xs.length * n ∧ ∀ v ∈ cs, v.oneCell' = true := by
  induction xs generalizing cs O R with
  | nil => obtain ⟨rfl, -, -⟩ := h; simp
  | cons x xs ih =>
    obtain ⟨c1, c2, O1, O2, R1, R2, rfl, rfl, rfl, h1, h2⟩ := h
    have a := hf _ _ _ _ h1
    have b := ih h2
    refine ⟨by simp [a.1, b.1, Nat.add_mul, Nat.add_comm], ?_⟩
    intro v hv
    rcases List.mem_append.1 hv with hv | hv
    · exact a.2 v hv
    · exact b.2 v hv

theorem Rep.len {w : World} {t : Ty} {a : An} {x : t.den} {cs : List Value} {O R : List Nat} (h : Rep w t a x cs O R) :
    cs.length = t.sz ∧ ∀ v ∈ cs, v.oneCell' = true := by
  induction t generalizing a cs O R with
  | int k => cases a <;> (first | (obtain ⟨-, -, rfl, -⟩ := h; simp [Ty.sz, Value.oneCell']) | (obtain ⟨-, -, v, rfl, hv⟩ := h; simp [Ty.sz, hv]))
  | bool => cases a <;> (first | (obtain ⟨-, -, rfl⟩ := h; simp [Ty.sz, Value.oneCell']) | (obtain ⟨-, -, v, rfl, hv⟩ := h; simp [Ty.sz, hv]))
  | str => cases a <;> (first | (obtain ⟨-, -, rfl, -⟩ := h; simp [Ty.sz, Value.oneCell']) | (obtain ⟨-, -, v, rfl, hv⟩ := h; simp [Ty.sz, hv]))
  | pair t u iht ihu =>
    obtain ⟨c1, c2, O1, O2, R1, R2, rfl, rfl, rfl, h1, h2⟩ := h
    have a1 := iht h1
    have a2 := ihu h2
    refine ⟨by simp [Ty.sz, a1.1, a2.1], ?_⟩
    intro v hv
    rcases List.mem_append.1 hv with hv | hv
    · exact a1.2 v hv
    · exact a2.2 v hv
  | sl e ih =>
    have hro : ∀ {O R}, RepRo w (Rep w e .ro) x cs O R → cs.length = 1 ∧ ∀ v ∈ cs, v.oneCell' = true := by
      intro O R h
      obtain ⟨-, h | h⟩ := h
      · obtain ⟨-, -, p, cap, rfl⟩ := h; simp [Value.oneCell']
      · obtain ⟨b, off, cap, cells, R', rfl, -⟩ := h; simp [Value.oneCell']
    cases a with
    | hole => obtain ⟨-, -, v, rfl, hv⟩ := h; simp [Ty.sz, hv]
    | own el ae =>
      obtain ⟨v, cells, O', rfl, ho, -⟩ := h
      rcases ho.2 with ⟨rfl, -⟩ | ⟨g, cap, cur, rfl, -⟩ <;> simp [Ty.sz, Value.oneCell']
    | ro => exact hro h
    | pair a b => exact hro h

/-- the world turns in no block that is owned or read: the representation stays -/
theorem Rep.frame {w w' : World} {t : Ty} {a : An} {x : t.den} {cs : List Value} {O R : List Nat} (h : Rep w t a x cs O R)
    (hO : ∀ b ∈ O, w'.heap[b]? = w.heap[b]?) (hR : ∀ b ∈ R, w'.heap[b]? = w.heap[b]?) : Rep w' t a x cs O R := by
  induction t generalizing a cs O R with
  | int k => exact h
  | bool => exact h
  | str => exact h
  | pair t u iht ihu =>
    obtain ⟨c1, c2, O1, O2, R1, R2, rfl, rfl, rfl, h1, h2⟩ := h
    exact ⟨c1, c2, O1, O2, R1, R2, rfl, rfl, rfl, iht h1 (fun b hb => hO b (by simp [hb])) (fun b hb => hR b (by simp [hb])),
      ihu h2 (fun b hb => hO b (by simp [hb])) (fun b hb => hR b (by simp [hb]))⟩
  | sl e ih =>
    have hro : RepRo w (Rep w e .ro) x cs O R → RepRo w' (Rep w' e .ro) x cs O R := by
      rintro ⟨rfl, h | h⟩
      · exact ⟨rfl, .inl h⟩
      · obtain ⟨b, off, cap, cells, R', rfl, h0, h1, h2, rfl, h3⟩ := h
        refine ⟨rfl, .inr ⟨b, off, cap, cells, R', rfl, h0, h1, ?_, rfl, ?_⟩⟩
        · intro j u hu
          rw [World.cell?_of_block (w := w) (hR b (by simp))]
          exact h2 j u hu
        · exact h3.imp fun y _ c O1 R1 ho hr hy => ih hy (fun b hb => by have := ho b hb; simp at this) (fun b hb => hR b (by simp [hr b hb]))
    cases a with
    | hole => exact h
    | own el ae =>
      obtain ⟨v, cells, O', rfl, ho, hm, rfl, hl⟩ := h
      refine ⟨v, cells, O', rfl, ?_, hm, rfl, hl.imp fun y _ c O1 R1 ho hr hy => ih hy (fun b hb => hO b (by simp [ho b hb])) (fun b hb => hR b (by simp [hr b hb]))⟩
      refine ⟨ho.1, ?_⟩
      rcases ho.2 with h | ⟨g, cap, cur, rfl, hb, hg, rest⟩
      · exact .inl h
      · exact .inr ⟨g, cap, cur, rfl, hb, by rw [hO g (by simp [Value.ownBlock])]; exact hg, rest⟩
    | ro => exact hro h
    | pair a b => exact hro h

theorem RepL.mem {α : Type} {f : α → List Value → List Nat → List Nat → Prop} {xs : List α} {cs : List Value} {O R : List Nat}
    (h : RepL f xs cs O R) {b : Nat} (hb : b ∈ O ∨ b ∈ R) : ∃ x ∈ xs, ∃ c O1 R1, f x c O1 R1 ∧ (b ∈ O1 ∨ b ∈ R1) := by
  induction xs generalizing cs O R with
  | nil => obtain ⟨-, rfl, rfl⟩ := h; simp at hb
  | cons x xs ih =>
    obtain ⟨c1, c2, O1, O2, R1, R2, rfl, rfl, rfl, h1, h2⟩ := h
    by_cases hx : b ∈ O1 ∨ b ∈ R1
    · exact ⟨x, by simp, c1, O1, R1, h1, hx⟩
    · have : b ∈ O2 ∨ b ∈ R2 := by simp at hb; simp at hx; grind
      obtain ⟨y, hy, r⟩ := ih h2 this
      exact ⟨y, by simp [hy], r⟩

theorem heap_lt {w : World} {b : Nat} {o : Obj} (h : w.heap[b]? = some o) : b < w.heap.size := by
  rcases Nat.lt_or_ge b w.heap.size with h' | h'
  · exact h'
  · simp [Array.getElem?_eq_none h'] at h

theorem cell_lt {w : World} {p : Addr} {v : Value} (h : w.cell? p = some v) : p.block < w.heap.size := by
  unfold World.cell? at h
  cases hb : w.heap[p.block]? with
  | none => simp [hb] at h
  | some o => exact heap_lt hb

/-- every block that is owned or read is there -/
theorem Rep.lt {w : World} {t : Ty} {a : An} {x : t.den} {cs : List Value} {O R : List Nat} (h : Rep w t a x cs O R) :
    ∀ b, b ∈ O ∨ b ∈ R → b < w.heap.size := by
  induction t generalizing a cs O R with
  | int k => cases a <;> (obtain ⟨rfl, rfl, -⟩ := h; simp)
  | bool => cases a <;> (obtain ⟨rfl, rfl, -⟩ := h; simp)
  | str => cases a <;> (obtain ⟨rfl, rfl, -⟩ := h; simp)
  | pair t u iht ihu =>
    obtain ⟨c1, c2, O1, O2, R1, R2, rfl, rfl, rfl, h1, h2⟩ := h
    intro b hb
    simp only [List.mem_append] at hb
    by_cases hx : b ∈ O1 ∨ b ∈ R1
    · exact iht h1 b hx
    · exact ihu h2 b (by grind)
  | sl e ih =>
    have hro : RepRo w (Rep w e .ro) x cs O R → ∀ b, b ∈ O ∨ b ∈ R → b < w.heap.size := by
      rintro ⟨rfl, h | h⟩ b hb
      · obtain ⟨rfl, -⟩ := h; simp at hb
      · obtain ⟨g, off, cap, cells, R', rfl, h0, h1, h2, rfl, h3⟩ := h
        have hl := (h3.len (n := e.sz) fun x c O1 R1 hx => hx.len).1
        simp at hb
        rcases hb with rfl | hb
        · have : 0 < cells.length := by rw [hl]; exact Nat.mul_pos h0 e.sz_pos
          exact cell_lt (h2 0 cells[0] (by simp [this]))
        · obtain ⟨y, _, c, O1, R1, hy, hb'⟩ := h3.mem (b := b) (.inr hb)
          exact ih hy b hb'
    cases a with
    | hole => obtain ⟨rfl, rfl, -⟩ := h; simp
    | own el ae =>
      obtain ⟨v, cells, O', rfl, ho, hm, rfl, hl⟩ := h
      intro b hb
      by_cases hv : v.ownBlock = some b
      · exact (ho.lt b hv).2
      · have : b ∈ O' ∨ b ∈ R := by
          rcases hb with hb | hb
          · rw [List.mem_append] at hb
            rcases hb with hb | hb
            · cases hvb : v.ownBlock with
              | none => simp [hvb] at hb
              | some g => simp [hvb] at hb; subst hb; exact absurd hvb hv
            · exact .inl hb
          · exact .inr hb
        obtain ⟨y, _, c, O1, R1, hy, hb'⟩ := hl.mem (b := b) this
        exact ih hy b hb'
    | ro => exact hro h
    | pair a b => exact hro h

end Go.Vm
