/- What the table says of types, by a check; for the evaluator Vm. Own work; lemmas. No condition. -/
import Derived.Test.YthnkkchlgepdaaaVmZj
import Derived.Laws.StructEq
import Derived.ChangeKeysEq
namespace Go.Vm
open Go.RowKit
set_option linter.unusedVariables false

section
variable {P : Program} {w : World}

def cellB : Value → Value → Bool
  | .int k n, .int k' n' => decide (k = k') && decide (n = n')
  | .bool a, .bool b => a == b
  | .string s, .string s' => s.size == 0 && s'.size == 0
  | .slice none 0 0, .slice none 0 0 => true
  | _, _ => false
def cellsB : List Value → List Value → Bool
  | [], [] => true
  | a :: as, b :: bs => cellB a b && cellsB as bs
  | _, _ => false
def packB (t : Ty) (z : Value) : Bool :=
  match t with
  | .pair _ _ => match z with | .agg cs => cellsB (zeroCs t) cs.toList | _ => false
  | _ => cellsB (zeroCs t) [z]
def infoB (P : Program) (t : TypeId) (ty : Ty) : Bool :=
  match P.info? t with
  | some i => i.size == ty.sz && Nat.ble i.bytes 32768 && (match i.zero with | some z => packB ty z | none => false)
  | none => false

theorem bytes_empty {s : ByteArray} (h : s.size = 0) : s = ByteArray.empty := by
  obtain ⟨d⟩ := s
  have : d = #[] := Array.eq_empty_of_size_eq_zero h
  subst this; rfl
theorem cellB_ok {a b : Value} (h : cellB a b = true) : a = b := by
  unfold cellB at h
  split at h
  · simp at h; rw [h.1, h.2]
  · simp at h; rw [h]
  · simp only [Bool.and_eq_true, beq_iff_eq] at h; rw [bytes_empty h.1, bytes_empty h.2]
  · rfl
  · cases h
theorem cellsB_ok : ∀ {a b : List Value}, cellsB a b = true → a = b
  | [], [], _ => rfl
  | a :: as, b :: bs, h => by
    simp only [cellsB, Bool.and_eq_true] at h
    rw [cellB_ok h.1, cellsB_ok h.2]
  | [], _ :: _, h => by simp [cellsB] at h
  | _ :: _, [], h => by simp [cellsB] at h
theorem packB_ok {t : Ty} {z : Value} (h : packB t z = true) : Packed t (zeroCs t) z := by
  unfold packB at h
  cases t with
  | pair a b =>
    simp only at h
    split at h
    · rename_i cs
      show _ = _
      rw [cellsB_ok h]
    · cases h
  | _ => exact cellsB_ok h
theorem infoB_ok {t : TypeId} {ty : Ty} (h : infoB P t ty = true) : InfoOk P t ty := by
  unfold infoB at h
  split at h
  · rename_i i hi
    simp only [Bool.and_eq_true, beq_iff_eq, Nat.ble_eq] at h
    split at h
    · rename_i z hz
      exact ⟨i, z, hi, h.1.1, h.1.2, hz, packB_ok h.2⟩
    · simp at h
  · cases h

def fldB (P : Program) (ti : TI) (fs : Array Field) (f : Nat) : Bool :=
  match ti.offs[f]?, fs[f]? with
  | some o, some fld => (fld.offset == o) && (match P.info? fld.type, P.underlying fld.type with
      | some i, some fd => !(i.size == 0) && ((i.size == (ti.offs[f + 1]?).getD ti.ty.sz - o) && (!(i.size == 1) || !aggD fd))
      | _, _ => false)
  | none, _ => true
  | _, _ => false
def eltB (ti : TI) (n : Nat) (sz : Nat) (f : Nat) : Bool :=
  match ti.offs[f]? with
  | some o => Nat.blt f n && ((o == f * sz) && (sz == (ti.offs[f + 1]?).getD ti.ty.sz - o))
  | none => true

def tiB (P : Program) (t : TypeId) (ti : TI) : Bool :=
  infoB P t ti.ty && (ti.an.ok && (match P.underlying t with
    | some d => (aggD d == ti.ty.isPair) && (match ti.ty with
      | .sl e => (match d, ti.an with
        | .slice el, .own el' _ => (el == el') && infoB P el e
        | _, _ => false)
      | .int k => (match d with | .int k' => decide (k' = k) | _ => false)
      | .str => (match d with | .string => true | _ => false)
      | .pair _ _ => (match ti.arr with
        | false => (match d with
          | .struct fs => (fs.size == ti.offs.length) && (List.range ti.offs.length).all (fldB P ti fs)
          | _ => false)
        | true => (match d with
          | .array n el => (match P.info? el, P.underlying el with
            | some i, some fd => (!(i.size == 1) || !aggD fd) && (List.range ti.offs.length).all (eltB ti n i.size)
            | _, _ => false)
          | _ => false))
      | .bool => !ti.arr)
    | none => false))

theorem tiB_ok {t : TypeId} {ti : TI} (harr : ti.ty.isPair = false → ti.arr = false) (h : tiB P t ti = true) : TIok P t ti := by
  unfold tiB at h
  simp only [Bool.and_eq_true] at h
  obtain ⟨h1, h2, h3⟩ := h
  cases hu : P.underlying t with
  | none => rw [hu] at h3; cases h3
  | some d =>
    rw [hu] at h3
    simp only [Bool.and_eq_true, beq_iff_eq] at h3
    obtain ⟨h3, h4⟩ := h3
    refine ⟨infoB_ok h1, ⟨d, hu, h3⟩, h2, ?_, ?_, ?_, ?_, ?_⟩
    · intro e he
      rw [he] at h4
      simp only at h4
      split at h4
      · rename_i el el' ae han
        simp only [Bool.and_eq_true, beq_iff_eq] at h4
        obtain ⟨rfl, h5⟩ := h4
        exact ⟨el, ae, hu, han, infoB_ok h5⟩
      · cases h4
    · intro k he
      rw [he] at h4
      simp only at h4
      split at h4
      · simp at h4; rw [← h4]; exact hu
      · cases h4
    · intro he
      rw [he] at h4
      simp only at h4
      split at h4
      · exact hu
      · cases h4
    · intro ha hp
      cases hty : ti.ty with
      | pair a b =>
        rw [hty] at h4
        simp only [ha] at h4
        split at h4
        · rename_i fs
          simp only [Bool.and_eq_true, beq_iff_eq, List.all_eq_true] at h4
          refine ⟨fs, hu, h4.1, fun f o hf => ?_⟩
          have hlt : f < ti.offs.length := (List.getElem?_eq_some_iff.1 hf).1
          have h5 := h4.2 f (by simpa using hlt)
          unfold fldB at h5
          rw [hf] at h5
          split at h5
          · rename_i o' fld ho' hfld
            simp only [Option.some.injEq] at ho'
            subst ho'
            simp only [Bool.and_eq_true, beq_iff_eq] at h5
            obtain ⟨h6, h7⟩ := h5
            split at h7
            · rename_i i fd hi hfd
              simp only [Bool.and_eq_true, Bool.not_eq_true', beq_eq_false_iff_ne, beq_iff_eq, Bool.or_eq_true] at h7
              refine ⟨fld, i, hfld, h6, hi, h7.1, by rw [← hty]; exact h7.2.1, fd, hfd, fun h8 => ?_⟩
              rcases h7.2.2 with h9 | h9
              · exact absurd h8 h9
              · exact h9
            · cases h7
          · rename_i hx; cases hx
          · cases h5
        · cases h4
      | _ => rw [hty] at hp; simp [Ty.isPair] at hp
    · intro ha
      cases hty : ti.ty with
      | pair a b =>
        rw [hty] at h4
        simp only [ha] at h4
        split at h4
        · rename_i n el
          split at h4
          · rename_i i fd hi hfd
            simp only [Bool.and_eq_true, List.all_eq_true, Bool.or_eq_true, Bool.not_eq_true', beq_eq_false_iff_ne] at h4
            refine ⟨n, el, i, hu, hi, fun f o hf => ?_, fd, hfd, fun h8 => ?_⟩
            · have hlt : f < ti.offs.length := (List.getElem?_eq_some_iff.1 hf).1
              have h5 := h4.2 f (by simpa using hlt)
              unfold eltB at h5
              rw [hf] at h5
              simp only [Bool.and_eq_true, beq_iff_eq] at h5
              exact ⟨by simpa [Nat.blt_eq] using h5.1, h5.2.1, by rw [← hty]; exact h5.2.2⟩
            · rcases h4.1 with h9 | h9
              · exact absurd h8 h9
              · exact h9
          · cases h4
        · cases h4
      | _ => have := harr (by rw [hty]; rfl); rw [ha] at this; cases this

theorem bytes_beq (x y : ByteArray) : (x.toList == y.toList) = decide (x = y) := by
  by_cases e : x = y
  · subst e; simp
  · have : ¬ x.toList = y.toList := by
      rw [ByteArray.toList_eq, ByteArray.toList_eq]
      intro h
      apply e
      obtain ⟨⟨a⟩⟩ := x
      obtain ⟨⟨b⟩⟩ := y
      simp at h
      rw [h]
    simp [e, this]

/-- a type whose values are compared as one cell -/
def scalB (P : Program) (t : TypeId) (ty : Ty) : Bool :=
  match ty, P.underlying t with
  | .int _, some (.int _) => true
  | .bool, some .bool => true
  | .str, some .string => true
  | _, _ => false

theorem scal_eq {t : TypeId} {ty : Ty} (h : scalB P t ty = true) {x y : ty.den} {a b : Value} {O R O' R' : List Nat} (hx : Rep w ty .ro x [a] O R) (hy : Rep w ty .ro y [b] O' R') (d : Nat) :
    (Op.equalIn (d + 1) t a b).run P w = .ok (tyEq ty x y) w ∧ ∃ dd, P.underlying t = some dd ∧ aggD dd = false := by
  unfold scalB at h
  split at h
  · rename_i k k' hu
    obtain ⟨-, -, hxa, -⟩ := hx
    obtain ⟨-, -, hya, -⟩ := hy
    simp only [List.cons.injEq, and_true] at hxa hya
    subst hxa; subst hya
    refine ⟨?_, _, hu, rfl⟩
    simp [Op.equalIn, run_underlying hu, tyEq]; rfl
  · rename_i hu
    obtain ⟨-, -, hxa⟩ := hx
    obtain ⟨-, -, hya⟩ := hy
    simp only [List.cons.injEq, and_true] at hxa hya
    subst hxa; subst hya
    refine ⟨?_, _, hu, rfl⟩
    simp [Op.equalIn, run_underlying hu, tyEq]
  · rename_i hu
    obtain ⟨-, -, hxa, -⟩ := hx
    obtain ⟨-, -, hya, -⟩ := hy
    simp only [List.cons.injEq, and_true] at hxa hya
    subst hxa; subst hya
    refine ⟨?_, _, hu, rfl⟩
    simp [Op.equalIn, run_underlying hu, tyEq]; rw [beq_toListBytes, bytes_beq]
  · cases h

theorem part_cell {t : TypeId} {dd : TypeDesc} {cs : Array Value} {off : Nat} {v : Value} (hu : P.underlying t = some dd) (ha : aggD dd = false) (hv : cs[off]? = some v) : (part t cs off).run P w = .ok v w := by
  have : (isAgg t).run P w = .ok false w := by
    unfold isAgg
    simp only [Sem.run_bind, run_underlying hu, Result.andThen_ok]
    cases dd <;> first | rfl | simp [aggD] at ha
  unfold part
  simp [this, hv]

def fsD (P : Program) (f : TypeId → Ty → Bool) : List Field → Nat → Ty → Bool
  | [], _, _ => false
  | fl :: [], off, t => !(fl.name == "_") && ((fl.offset == off) && (f fl.type t && (!t.isPair || (match P.info? fl.type with | some i => i.size == t.sz | none => false))))
  | fl :: fs, off, .pair t u => !(fl.name == "_") && ((fl.offset == off) && ((f fl.type t && (!t.isPair || (match P.info? fl.type with | some i => i.size == t.sz | none => false))) && fsD P f fs (off + t.sz) u))
  | _, _, _ => false

theorem scal_sz {t : TypeId} {ty : Ty} (h : scalB P t ty = true) : ty.sz = 1 := by
  unfold scalB at h; split at h <;> first | rfl | cases h

theorem rep_one {ty : Ty} (h : ty.sz = 1) {a : An} {x : ty.den} {cs : List Value} {O R : List Nat} (hr : Rep w ty a x cs O R) : ∃ v, cs = [v] := by
  have := hr.len.1
  rw [h] at this
  match cs, this with
  | [v], _ => exact ⟨v, rfl⟩

/-- what is asked of a type's comparison -/
def CmpOk (P : Program) (w : World) (d : Nat) (t : TypeId) (ty : Ty) : Prop :=
  (∀ (x y : ty.den) (a b : Value) (cx cy : List Value) (O R O' R' : List Nat), Packed ty cx a → Packed ty cy b → Rep w ty .ro x cx O R → Rep w ty .ro y cy O' R' → (Op.equalIn d t a b).run P w = .ok (tyEq ty x y) w) ∧
    ∃ dd, P.underlying t = some dd ∧ aggD dd = ty.isPair

theorem part_any {t : TypeId} {ty : Ty} {dd : TypeDesc} {cs : Array Value} {off : Nat} {c1 c2 : List Value} (hu : P.underlying t = some dd) (ha : aggD dd = ty.isPair)
    (hi : ty.isPair = false ∨ ∃ i, P.info? t = some i ∧ i.size = ty.sz) (hc : cs.toList.drop off = c1 ++ c2) (hl : c1.length = ty.sz) : ∃ v, (part t cs off).run P w = .ok v w ∧ Packed ty c1 v := by
  cases hp : ty.isPair with
  | false =>
    rw [hp] at ha
    have hs : ty.sz = 1 := by cases ty <;> simp [Ty.isPair] at hp <;> rfl
    rw [hs] at hl
    match c1, hl with
    | [v], _ =>
      have hv : cs[off]? = some v := by
        have : (cs.toList.drop off)[0]? = some v := by rw [hc]; rfl
        simpa using this
      refine ⟨v, part_cell hu ha hv, ?_⟩
      cases ty <;> simp [Ty.isPair] at hp <;> rfl
  | true =>
    rw [hp] at ha
    obtain ⟨i, hi, hsz⟩ := hi.resolve_left (by rw [hp]; simp)
    have hag : (isAgg t).run P w = .ok true w := by
      unfold isAgg
      simp only [Sem.run_bind, run_underlying hu, Result.andThen_ok]
      cases dd <;> first | rfl | simp [aggD] at ha
    refine ⟨.agg (cs.extract off (off + ty.sz)), ?_, ?_⟩
    · unfold part
      simp [hag, sizeOf, typeInfo, hi, hsz]
    · cases ty with
      | pair a b =>
        show _ = _
        congr 1
        apply Array.ext'
        simp only [Array.toList_extract, List.extract_eq_take_drop, hc]
        rw [show off + (Ty.pair a b).sz - off = c1.length by rw [hl]; omega, List.take_left]
      | _ => simp [Ty.isPair] at hp

theorem fs_eq (d : Nat) {f : TypeId → Ty → Bool} (hf : ∀ t ty, f t ty = true → CmpOk P w d t ty) : ∀ (fs : List Field) (off : Nat) (ty : Ty) (x y : ty.den) (xs ys : Array Value) (O R O' R' : List Nat), fsD P f fs off ty = true →
    Rep w ty .ro x (xs.toList.drop off) O R → Rep w ty .ro y (ys.toList.drop off) O' R' → (Op.eqFields d xs ys fs).run P w = .ok (tyEq ty x y) w := by
  intro fs
  induction fs with
  | nil => intro off ty x y xs ys O R O' R' h; simp [fsD] at h
  | cons fl fs ih =>
    intro off ty x y xs ys O R O' R' h hx hy
    have one : ∀ {t : Ty} {x y : t.den} {c1 c2 e1 e2 : List Value} {O R O' R' : List Nat}, (fl.name == "_") = false → fl.offset = off → f fl.type t = true →
        (t.isPair = false ∨ (match P.info? fl.type with | some i => i.size == t.sz | none => false) = true) → Rep w t .ro x c1 O R → Rep w t .ro y e1 O' R' →
        xs.toList.drop off = c1 ++ c2 → ys.toList.drop off = e1 ++ e2 → ∀ rest r, (if tyEq t x y = true then (Op.eqFields d xs ys rest).run P w else .ok false w) = .ok r w → (Op.eqFields d xs ys (fl :: rest)).run P w = .ok r w := by
      intro t x y c1 c2 e1 e2 O R O' R' hn ho hs hinf ha hb hxa hyb rest r hr
      obtain ⟨hcmp, dd, hu, hag⟩ := hf _ _ hs
      have hinf' : t.isPair = false ∨ ∃ i, P.info? fl.type = some i ∧ i.size = t.sz := by
        rcases hinf with h1 | h1
        · exact .inl h1
        · right
          split at h1
          · rename_i i hi; exact ⟨i, hi, by simpa using h1⟩
          · cases h1
      obtain ⟨va, p1, k1⟩ := part_any (w := w) hu hag hinf' hxa ha.len.1
      obtain ⟨vb, p2, k2⟩ := part_any (w := w) hu hag hinf' hyb hb.len.1
      have he := hcmp x y va vb _ _ _ _ _ _ k1 k2 ha hb
      have hn' : fl.name ≠ "_" := by simpa using hn
      rw [← ho] at p1 p2
      simp only [Op.eqFields, hn', ne_eq, not_false_eq_true, if_true, Sem.run_bind, p1, p2, he, Result.andThen_ok]
      cases ht : tyEq t x y
      · rw [ht] at hr; simpa using hr
      · rw [ht] at hr; simpa using hr
    cases fs with
    | nil =>
      simp only [fsD, Bool.and_eq_true, Bool.not_eq_true', beq_iff_eq, Bool.or_eq_true] at h
      obtain ⟨h1, h2, h3, h4⟩ := h
      refine one (c2 := []) (e2 := []) h1 h2 h3 h4 hx hy (by simp) (by simp) [] _ ?_
      cases ht : tyEq ty x y <;> simp [Op.eqFields]
    | cons g fs =>
      cases ty with
      | pair t u =>
        simp only [fsD, Bool.and_eq_true, Bool.not_eq_true', beq_iff_eq, Bool.or_eq_true] at h
        obtain ⟨h1, h2, ⟨h3, h5⟩, h4⟩ := h
        obtain ⟨c1, c2, O1, O2, R1, R2, ec, -, -, hx1, hx2⟩ := hx
        obtain ⟨e1, e2, O1', O2', R1', R2', ee, -, -, hy1, hy2⟩ := hy
        have hx1' : Rep w t .ro x.1 c1 O1 R1 := hx1
        have hy1' : Rep w t .ro y.1 e1 O1' R1' := hy1
        have hdx : xs.toList.drop (off + t.sz) = c2 := by
          have := congrArg (List.drop t.sz) ec
          rw [List.drop_drop] at this
          rw [this, ← hx1'.len.1, List.drop_left]
        have hdy : ys.toList.drop (off + t.sz) = e2 := by
          have := congrArg (List.drop t.sz) ee
          rw [List.drop_drop] at this
          rw [this, ← hy1'.len.1, List.drop_left]
        refine one h1 h2 h3 h5 hx1' hy1' ec ee (g :: fs) _ ?_
        cases ht : tyEq t x.1 y.1
        · simp [tyEq, ht]
        · simp only [if_true, tyEq, ht, Bool.true_and]
          exact ih (off + t.sz) u x.2 y.2 xs ys O2 R2 O2' R2' h4 (by rw [hdx]; exact hx2) (by rw [hdy]; exact hy2)
      | _ => simp [fsD] at h

def itEqB (P : Program) (e : TypeId) : Nat → Ty → Bool
  | 1, t => scalB P e t
  | n + 2, .pair t u => scalB P e t && itEqB P e (n + 1) u
  | _, _ => false

theorem it_eq (d : Nat) {e : TypeId} (hc : P.cellsOf e = 1) : ∀ (n off : Nat) (ty : Ty) (x y : ty.den) (xs ys : Array Value) (O R O' R' : List Nat), itEqB P e n ty = true →
    Rep w ty .ro x (xs.toList.drop off) O R → Rep w ty .ro y (ys.toList.drop off) O' R' → (Op.eqItems (d + 1) e (P.cellsOf e) xs ys (List.range' off n)).run P w = .ok (tyEq ty x y) w := by
  intro n
  induction n with
  | zero => intro off ty x y xs ys O R O' R' h; simp [itEqB] at h
  | succ n ih =>
    intro off ty x y xs ys O R O' R' h hx hy
    have one : ∀ {t : Ty} {x y : t.den} {a b : Value} {O R O' R' : List Nat}, scalB P e t = true → Rep w t .ro x [a] O R → Rep w t .ro y [b] O' R' →
        xs[off]? = some a → ys[off]? = some b → ∀ rest r, (if tyEq t x y = true then (Op.eqItems (d + 1) e (P.cellsOf e) xs ys rest).run P w else .ok false w) = .ok r w → (Op.eqItems (d + 1) e (P.cellsOf e) xs ys (off :: rest)).run P w = .ok r w := by
      intro t x y a b O R O' R' hs ha hb hxa hyb rest r hr
      obtain ⟨he, dd, hu, hag⟩ := scal_eq hs ha hb d
      have p1 := part_cell (w := w) hu hag (cs := xs) (off := off * P.cellsOf e) (by rw [hc, Nat.mul_one]; exact hxa)
      have p2 := part_cell (w := w) hu hag (cs := ys) (off := off * P.cellsOf e) (by rw [hc, Nat.mul_one]; exact hyb)
      simp only [Op.eqItems, Sem.run_bind, p1, p2, he, Result.andThen_ok]
      cases ht : tyEq t x y
      · rw [ht] at hr; simpa using hr
      · rw [ht] at hr; simpa using hr
    have hd0 : ∀ (zs : Array Value) (v : Value) (l : List Value), zs.toList.drop off = v :: l → zs[off]? = some v := by
      intro zs v l hz
      have : (zs.toList.drop off)[0]? = some v := by rw [hz]; rfl
      simpa using this
    cases n with
    | zero =>
      have h3 : scalB P e ty = true := h
      have hsz := scal_sz h3
      obtain ⟨a, ha⟩ := rep_one hsz hx
      obtain ⟨b, hb⟩ := rep_one hsz hy
      rw [ha] at hx; rw [hb] at hy
      refine one h3 hx hy (hd0 _ _ _ ha) (hd0 _ _ _ hb) [] _ ?_
      cases ht : tyEq ty x y <;> simp [Op.eqItems]
    | succ n =>
      cases ty with
      | pair t u =>
        simp only [itEqB, Bool.and_eq_true] at h
        obtain ⟨h3, h4⟩ := h
        have hsz := scal_sz h3
        obtain ⟨c1, c2, O1, O2, R1, R2, ec, -, -, hx1, hx2⟩ := hx
        obtain ⟨e1, e2, O1', O2', R1', R2', ee, -, -, hy1, hy2⟩ := hy
        obtain ⟨a, rfl⟩ := rep_one hsz hx1
        obtain ⟨b, rfl⟩ := rep_one hsz hy1
        have hdx : xs.toList.drop (off + 1) = c2 := by
          have := congrArg (List.drop 1) ec
          simpa [List.drop_drop] using this
        have hdy : ys.toList.drop (off + 1) = e2 := by
          have := congrArg (List.drop 1) ee
          simpa [List.drop_drop] using this
        rw [List.range'_succ]
        refine one h3 hx1 hy1 (hd0 _ _ _ ec) (hd0 _ _ _ ee) _ _ ?_
        cases ht : tyEq t x.1 y.1
        · simp [tyEq, ht]
        · simp only [if_true, tyEq, ht, Bool.true_and]
          exact ih (off + 1) u x.2 y.2 xs ys O2 R2 O2' R2' h4 (by rw [hdx]; exact hx2) (by rw [hdy]; exact hy2)
      | _ => simp [itEqB] at h

/-- types whose values are compared part by part -/
def eqD (P : Program) : Nat → TypeId → Ty → Bool
  | 0, _, _ => false
  | n + 1, t, ty => scalB P t ty || (match ty with
    | .pair _ _ => (match P.underlying t with
      | some (.struct fs) => !P.stoodInHeld t && fsD P (eqD P n) fs.toList 0 ty
      | some (.array m e) => (match P.info? e with | some _ => (P.cellsOf e == 1) && itEqB P e m ty | none => false)
      | _ => false)
    | _ => false)

theorem eqD_ok : ∀ (n : Nat) (t : TypeId) (ty : Ty), eqD P n t ty = true → ∀ d, CmpOk P w (d + (n + 1)) t ty := by
  intro n
  induction n with
  | zero => intro t ty h; simp [eqD] at h
  | succ n ih =>
    intro t ty h d
    simp only [eqD, Bool.or_eq_true] at h
    rcases h with h | h
    · have hs := scal_sz h
      have hnp : ty.isPair = false := by
        unfold scalB at h
        split at h <;> first | rfl | cases h
      refine ⟨fun x y a b cx cy O R O' R' k1 k2 hx hy => ?_, ?_⟩
      · have e1 : cx = [a] := by cases ty <;> simp [Ty.isPair] at hnp <;> exact k1
        have e2 : cy = [b] := by cases ty <;> simp [Ty.isPair] at hnp <;> exact k2
        subst e1; subst e2
        exact (scal_eq h hx hy _).1
      · obtain ⟨dd, hu, hag⟩ : ∃ dd, P.underlying t = some dd ∧ aggD dd = false := by
          unfold scalB at h
          split at h
          · rename_i hu; exact ⟨_, hu, rfl⟩
          · rename_i hu; exact ⟨_, hu, rfl⟩
          · rename_i hu; exact ⟨_, hu, rfl⟩
          · cases h
        exact ⟨dd, hu, by rw [hag, hnp]⟩
    · cases ty with
      | pair t1 t2 =>
        simp only at h
        split at h
        · rename_i fs hu
          simp only [Bool.and_eq_true, Bool.not_eq_true'] at h
          refine ⟨fun x y a b cx cy O R O' R' k1 k2 hx hy => ?_, _, hu, rfl⟩
          have e1 : a = .agg cx.toArray := k1
          have e2 : b = .agg cy.toArray := k2
          subst e1; subst e2
          have hf : P.fieldsOf t = fs := by simp [Program.fieldsOf, hu]
          show (Op.equalIn ((d + (n + 1)) + 1) t _ _).run P w = _
          rw [run_equalIn_struct (P := P) w (d + (n + 1)) t _ _ (by rw [hf]; exact hu) h.1, hf]
          exact fs_eq (d + (n + 1)) (fun t' ty' h' => ih t' ty' h' d) fs.toList 0 (.pair t1 t2) x y _ _ _ _ _ _ h.2 (by simpa using hx) (by simpa using hy)
        · rename_i m e hu
          split at h
          · rename_i i hi
            simp only [Bool.and_eq_true, beq_iff_eq] at h
            refine ⟨fun x y a b cx cy O R O' R' k1 k2 hx hy => ?_, _, hu, rfl⟩
            have e1 : a = .agg cx.toArray := k1
            have e2 : b = .agg cy.toArray := k2
            subst e1; subst e2
            show (Op.equalIn ((d + (n + 1)) + 1) t _ _).run P w = _
            rw [run_equalIn_array (P := P) w (d + (n + 1)) _ _ hu hi, List.range_eq_range']
            exact it_eq (d + n) h.1 m 0 (.pair t1 t2) x y _ _ _ _ _ _ h.2 (by simpa using hx) (by simpa using hy)
          · cases h
        · cases h
      | _ => cases h

def eqB (P : Program) (t : TypeId) (ty : Ty) : Bool :=
  match ty with
  | .bool => (match P.underlying t with | some .bool => true | _ => false)
  | .str => (match P.underlying t with | some .string => true | _ => false)
  | .pair _ _ => !P.eqGuardType P.depth t && eqD P 6 t ty
  | _ => false

theorem eqB_ok {t : TypeId} {ty : Ty} (h : eqB P t ty = true) : EqOk P t ty := by
  intro w op X Y x y vx vy cx cy Ox Rx Oy Ry hpx hpy hx hy
  cases ty with
  | int k => simp [eqB] at h
  | sl e => simp [eqB] at h
  | bool =>
    simp only [eqB] at h
    split at h
    · rename_i hu
      have ex : cx = [vx] := hpx
      have ey : cy = [vy] := hpy
      subst ex; subst ey
      obtain ⟨-, -, e1⟩ := hx
      obtain ⟨-, -, e2⟩ := hy
      simp only [List.cons.injEq, and_true] at e1 e2
      subst e1; subst e2
      have hm : ∀ d : Nat, (Op.equalIn (d + 1) t (.bool x) (.bool y)).run P w = .ok (tyEq .bool x y) w := by
        intro d
        simp only [Op.equalIn, Sem.run_bind, run_underlying hu, Result.andThen_ok, Sem.run_pure, tyEq]
      have hmain := hm 9999
      refine ⟨?_, ?_, ?_⟩
      · unfold eqGuard; cases op <;> simp
      · simp only [Go.binOp, Op.equal, Op.maxDepth, Sem.run_bind, hmain, Result.andThen_ok, Sem.run_pure]
      · simp only [Go.binOp, Op.equal, Op.maxDepth, Sem.run_bind, hmain, Result.andThen_ok, Sem.run_pure]
    · cases h
  | str =>
    simp only [eqB] at h
    split at h
    · rename_i hu
      have ex : cx = [vx] := hpx
      have ey : cy = [vy] := hpy
      subst ex; subst ey
      obtain ⟨-, -, e1, -⟩ := hx
      obtain ⟨-, -, e2, -⟩ := hy
      simp only [List.cons.injEq, and_true] at e1 e2
      subst e1; subst e2
      refine ⟨?_, ?_, ?_⟩
      · unfold eqGuard; cases op <;> simp
      · show (Op.stringOp .eql x y).run P w = _
        have := bytes_beq x y
        simp only [Op.stringOp, tyEq, Sem.run_pure, this]
      · show (Op.stringOp .neq x y).run P w = _
        have := bytes_beq x y
        simp only [Op.stringOp, tyEq, Sem.run_pure, this]
    · cases h
  | pair a b =>
    simp only [eqB, Bool.and_eq_true, Bool.not_eq_true'] at h
    obtain ⟨h1, h2⟩ := h
    have ex : vx = .agg cx.toArray := hpx
    have ey : vy = .agg cy.toArray := hpy
    subst ex; subst ey
    have hg : (eqGuard op t X Y (.agg cx.toArray) (.agg cy.toArray)).run P w = .ok () w := by
      unfold eqGuard; cases op <;> simp [h1]
    have hmain : (Op.equalIn 10000 t (.agg cx.toArray) (.agg cy.toArray)).run P w = .ok (tyEq (.pair a b) x y) w :=
      (eqD_ok (w := w) 6 t (.pair a b) h2 9993).1 x y _ _ _ _ _ _ _ _ hpx hpy hx hy
    refine ⟨hg, ?_, ?_⟩
    · simp only [Go.binOp, Op.equal, Op.maxDepth, Sem.run_bind, hmain, Result.andThen_ok, Sem.run_pure]
    · simp only [Go.binOp, Op.equal, Op.maxDepth, Sem.run_bind, hmain, Result.andThen_ok, Sem.run_pure]

/-- a row of the table -/
def TiOk (P : Program) (t : TypeId) (ti : TI) : Prop := TIok P t ti ∧ (ti.cmp = true → EqOk P t ti.ty)
def tiOkB (P : Program) (t : TypeId) (ti : TI) : Bool := tiB P t ti && ((ti.ty.isPair || !ti.arr) && (!ti.cmp || eqB P t ti.ty))
theorem TiOk.of {t : TypeId} {ti : TI} (h : tiOkB P t ti = true) : TiOk P t ti := by
  simp only [tiOkB, Bool.and_eq_true, Bool.or_eq_true, Bool.not_eq_true'] at h
  refine ⟨tiB_ok (fun hp => ?_) h.1, fun hc => ?_⟩
  · rcases h.2.1 with h1 | h1
    · rw [hp] at h1; cases h1
    · exact h1
  · rcases h.2.2 with h1 | h1
    · rw [hc] at h1; cases h1
    · exact eqB_ok h1
theorem TabOk.nil : TabOk P [] := by intro t ti h; simp [Tab.at] at h
theorem TabOk.cons {t : TypeId} {ti : TI} {T : Tab} (h : TiOk P t ti) (hs : TabOk P T) : TabOk P ((t, ti) :: T) := by
  intro t' ti' h'
  simp only [Tab.at, List.lookup] at h'
  split at h'
  · rename_i e
    have : t' = t := by simpa using e
    subst this
    cases h'
    exact h
  · exact hs t' ti' h'

def fnB (P : Program) (g : FuncId) : Bool := match P.funcs[g]? with | some fn => !fn.body.isNone && !(fn.name == "runtime.NumGoroutine") | none => false
theorem fnB_ok {g : FuncId} (h : fnB P g = true) : FnOk P g := by
  unfold fnB at h
  split at h
  · rename_i fn hf
    simp only [Bool.and_eq_true, Bool.not_eq_true'] at h
    exact ⟨fn, hf, h.1, h.2⟩
  · cases h
theorem SigOk.nil : SigOk P [] := by intro e h; simp at h
theorem SigOk.cons {g : FuncId} {fs : List FuncId} {sg : Sig} {S : SigTab} (h : FnOk P g) (hs : SigOk P S) : SigOk P (((g, fs), sg) :: S) := by
  intro e he
  rcases List.mem_cons.1 he with rfl | he
  · exact h
  · exact hs e he

end
end Go.Vm
