/- What the evaluator's table says of types is so, and what is read at a place. Own work; lemmas. No condition. -/
import Derived.Test.YthnkkchlgepdaaaVmK
namespace Go.Vm
open Go.RowKit
set_option linter.unusedVariables false

/-- the cells of a type's zero value -/
def zeroCs : Ty → List Value
  | .int k => [.int k 0]
  | .bool => [.bool false]
  | .str => [.string ByteArray.empty]
  | .pair t u => zeroCs t ++ zeroCs u
  | .sl _ => [.slice none 0 0]

def aggD : TypeDesc → Bool
  | .struct _ => true
  | .array _ _ => true
  | _ => false

/-- a type's row in the program: cells and zero -/
def InfoOk (P : Program) (t : TypeId) (ty : Ty) : Prop := ∃ i z, P.info? t = some i ∧ i.size = ty.sz ∧ i.bytes ≤ 32768 ∧ i.zero = some z ∧ Packed ty (zeroCs ty) z

structure TIok (P : Program) (t : TypeId) (ti : TI) : Prop where
  info : InfoOk P t ti.ty
  und : ∃ d, P.underlying t = some d ∧ aggD d = ti.ty.isPair
  anok : ti.an.ok = true
  slice : ∀ e, ti.ty = .sl e → ∃ el ae, P.underlying t = some (.slice el) ∧ ti.an = .own el ae ∧ InfoOk P el e
  int : ∀ k, ti.ty = .int k → P.underlying t = some (.int k)
  strg : ti.ty = .str → P.underlying t = some .string
  str : ti.arr = false → ti.ty.isPair = true → ∃ fs, P.underlying t = some (.struct fs) ∧ fs.size = ti.offs.length ∧
    ∀ f o, ti.offs[f]? = some o → ∃ fld i, fs[f]? = some fld ∧ fld.offset = o ∧ P.info? fld.type = some i ∧ i.size ≠ 0 ∧ i.size = (ti.offs[f + 1]?).getD ti.ty.sz - o ∧
      ∃ fd, P.underlying fld.type = some fd ∧ (i.size = 1 → aggD fd = false)
  arr : ti.arr = true → ∃ n el i, P.underlying t = some (.array n el) ∧ P.info? el = some i ∧ (∀ f o, ti.offs[f]? = some o → f < n ∧ o = f * i.size ∧ i.size = (ti.offs[f + 1]?).getD ti.ty.sz - o) ∧
    ∃ fd, P.underlying el = some fd ∧ (i.size = 1 → aggD fd = false)

/-- values of a type are compared as their data are -/
def EqOk (P : Program) (t : TypeId) (ty : Ty) : Prop := ∀ (w : World) (op : BinOp) (X Y : Operand) (x y : ty.den) (vx vy : Value) (cx cy : List Value) (Ox Rx Oy Ry : List Nat),
  Packed ty cx vx → Packed ty cy vy → Rep w ty .ro x cx Ox Rx → Rep w ty .ro y cy Oy Ry →
    (eqGuard op t X Y vx vy).run P w = .ok () w ∧ (Go.binOp .eql t vx vy).run P w = .ok (.bool (tyEq ty x y)) w ∧ (Go.binOp .neq t vx vy).run P w = .ok (.bool (!tyEq ty x y)) w

def TabOk (P : Program) (T : Tab) : Prop := ∀ t ti, T.at t = some ti → TIok P t ti ∧ (ti.cmp = true → EqOk P t ti.ty)

/-- zero is represented by zero's cells, however it is owned -/
theorem zero_rep (w : World) (t : Ty) {a : An} (ha : a.ok = true) : Rep w t a t.dflt (zeroCs t) [] [] := by
  induction t generalizing a with
  | int k =>
    have : inK k 0 := by cases k <;> simp [inK, IntKind.min, IntKind.max, IntKind.signed, IntKind.bits]
    cases a <;> simp [An.ok] at ha <;> exact ⟨rfl, rfl, rfl, this⟩
  | bool => cases a <;> simp [An.ok] at ha <;> exact ⟨rfl, rfl, rfl⟩
  | str => cases a <;> simp [An.ok] at ha <;> exact ⟨rfl, rfl, rfl, by simp [Ty.dflt]⟩
  | pair t u iht ihu =>
    have hl : a.l.ok = true := by cases a <;> simp_all [An.l, An.ok]
    have hr : a.r.ok = true := by cases a <;> simp_all [An.r, An.ok]
    exact ⟨zeroCs t, zeroCs u, [], [], [], [], rfl, rfl, rfl, iht hl, ihu hr⟩
  | sl e ih =>
    cases a with
    | hole => simp [An.ok] at ha
    | own el ae => exact ⟨_, [], [], rfl, World.ownsRow_nil w 0 el e.sz, by simp [Ty.dflt, maxEl], rfl, rfl, rfl, rfl⟩
    | ro => exact ⟨rfl, .inl ⟨rfl, rfl, none, 0, rfl⟩⟩
    | pair a b => exact ⟨rfl, .inl ⟨rfl, rfl, none, 0, rfl⟩⟩

/-- the content of a slot that has one -/
theorem Rel.content {w : World} {env : Env} {tmps : Array Value} {Of Rf : Nat → List Nat} (h : Rel w env tmps Of Rf) {s : Nat} {D : Dat} (hv : (get env s).v.obj? = some D) :
    ∃ cs bk O pre, obj w (get env s).v (tv tmps s) = some (D, cs, bk) ∧ Rep w D.t D.a D.x cs O (Rf s) ∧ Of s = pre ++ O ∧
      ((bk = none ∧ pre = [] ∧ (∃ t a x, (get env s).v = .dat t a x) ∧ Packed D.t cs (tv tmps s)) ∨
        ∃ b C el, bk = some (b, 0) ∧ pre = [b] ∧ w.heap[b]? = some (.cells C el (0, 0)) ∧ cs = C.toList ∧ (∃ t a x, (get env s).v = .box t a x) ∧ tv tmps s = .pointer (some ⟨b, 0, none⟩)) := by
  have hs := h.slot s
  cases he : (get env s).v with
  | dat t a x =>
    rw [he] at hv hs
    simp only [V.obj?, Option.some.injEq] at hv
    subst hv
    obtain ⟨cs, hk, hr⟩ := hs
    refine ⟨cs, none, Of s, [], ?_, hr, rfl, .inl ⟨rfl, rfl, ⟨t, a, x, rfl⟩, hk⟩⟩
    cases hx : tv tmps s <;> (simp only [obj]; rw [← hx, hk.unpack hr])
  | box t a x =>
    rw [he] at hv hs
    simp only [V.obj?, Option.some.injEq] at hv
    subst hv
    obtain ⟨b, C, el, O', hx, hb, hr, hO⟩ := hs
    simp only [List.cons.injEq, and_true] at hx
    refine ⟨C.toList, some (b, 0), O', [b], ?_, hr, by simpa using hO, .inr ⟨b, C, el, rfl, rfl, hb, rfl, ⟨t, a, x, rfl⟩, hx⟩⟩
    simp only [obj, hx]
    rw [cellsAt_all hb hr.len.1]
  | _ => rw [he] at hv; simp [V.obj?] at hv

theorem Rel.content_nd {w : World} {env : Env} {tmps : Array Value} {Of Rf : Nat → List Nat} (h : Rel w env tmps Of Rf) {s : Nat} {O pre : List Nat} (hO : Of s = pre ++ O) :
    O.Nodup ∧ (∀ b ∈ O, b ∉ Rf s) ∧ (∀ b ∈ pre, b ∉ O) ∧ (∀ b ∈ pre, b ∉ Rf s) := by
  have hnd := h.nodup s
  rw [hO, List.nodup_append] at hnd
  exact ⟨hnd.2.1, fun b hb => h.unread s s b (by rw [hO]; simp [hb]), fun b hb hb' => hnd.2.2 b hb b hb' rfl, fun b hb => h.unread s s b (by rw [hO]; simp [hb])⟩

theorem cells_mid {cs c0 c1 c2 : List Value} {off n : Nat} (h : cs = c0 ++ c1 ++ c2) (h0 : c0.length = off) (h1 : c1.length = n) : (cs.drop off).take n = c1 := take_drop_mid h h0 h1

/-- READ BEHIND A POINTER. -/
theorem rdP_ok {w : World} {env : Env} {tmps : Array Value} {Of Rf : Nat → List Nat} (h : Rel w env tmps Of Rf) {l : Lk} {x : Value} (hp : PtrOk w env tmps l x) {n : Nat} {dd : Dat} (hr : rdP env l n = some dd) :
    ∃ b k C el cs1 cs O1 R1, x = .pointer (some ⟨b, k + l.off, none⟩) ∧ w.heap[b]? = some (.cells C el (0, 0)) ∧ b ∈ Of l.s ∧ locOf w env tmps l = some (cs1, some (b, k)) ∧
      (∀ j, j < n → cs1[l.off + j]? = C.toList[k + l.off + j]?) ∧ cs = (C.toList.drop (k + l.off)).take n ∧ cs.length = n ∧ k + l.off + n ≤ C.size ∧ n = dd.t.sz ∧ Rep w dd.t dd.a dd.x cs O1 R1 ∧
      (∀ b ∈ O1, b ∈ Of l.s) ∧ (∀ b ∈ R1, b ∈ Rf l.s) := by
  unfold rdP at hr
  cases hf : freshP env l with
  | false => simp [hf] at hr
  | true =>
    simp only [hf, cond_true] at hr
    obtain ⟨cs1, b, k, hloc, hx⟩ := hp.2 hf
    cases hv : (get env l.s).v.obj? with
    | none => simp [hv] at hr
    | some D =>
      obtain ⟨cs0, bk0, O, pre, hob, hrep, hO, hkind⟩ := h.content hv
      simp only [hv, Option.bind_some] at hr
      cases hg : getP D l.st with
      | none => simp [hg] at hr
      | some d1 =>
        simp only [hg, Option.bind_some] at hr
        have hnd := h.content_nd hO
        have hloc' := hloc
        unfold locOf at hloc'
        simp only [hob] at hloc'
        obtain ⟨O0, O1, O2, R0, R1, R2, hOs, hRs, hd1, hnil, hcons⟩ := hrep.path hnd.1 hnd.2.1 hloc' hg
        obtain ⟨c0, c1, c2, P0, P1, P2, Q0, Q1, Q2, hcs1, hl, hn, hP, hQ, hdd, -⟩ := hd1.focus hr
        -- where the object lies
        obtain ⟨C, el, hbh, hbO, hcsC, hle⟩ : ∃ C el, w.heap[b]? = some (.cells C el (0, 0)) ∧ b ∈ Of l.s ∧ cs1 = (C.toList.drop k).take d1.t.sz ∧ k + d1.t.sz ≤ C.size := by
          by_cases hst : l.st = []
          · obtain ⟨h1, h2, -⟩ := hnil hst
            rcases hkind with ⟨h3, -⟩ | ⟨b', C, el, h3, h4, h5, h6, -, -⟩
            · rw [h3] at h2; cases h2
            · rw [h3] at h2; simp only [Option.some.injEq, Prod.mk.injEq] at h2
              obtain ⟨rfl, rfl⟩ := h2
              have hlen := hd1.len.1
              have hlC : C.size = d1.t.sz := by rw [← hlen, h1, h6, Array.length_toList]
              exact ⟨C, el, h5, by rw [hO, h4]; simp, by rw [h1, h6, List.drop_zero, ← hlC, ← Array.length_toList, List.take_length], by omega⟩
          · obtain ⟨b', k', C, el, h1, h2, h3, h4, h5, -⟩ := hcons hst
            simp only [Option.some.injEq, Prod.mk.injEq] at h1
            obtain ⟨rfl, rfl⟩ := h1
            exact ⟨C, el, h3, by rw [hO, hOs]; simp; grind, h4, h5⟩
        have hlen1 := hdd.len.1
        have hlen := hd1.len.1
        have hfit : l.off + n ≤ d1.t.sz := by rw [← hlen, hcs1]; simp; omega
        have hc1 : c1 = (C.toList.drop (k + l.off)).take n := by
          rw [← cells_mid hcs1 hl (n := n) (by omega), hcsC, List.drop_take, List.take_take, List.drop_drop]
          congr 1; omega
        refine ⟨b, k, C, el, cs1, c1, P1, Q1, hx, hbh, hbO, hloc, ?_, hc1, by omega, by omega, hn, hdd, ?_, ?_⟩
        · intro j hj
          rw [hcsC, List.getElem?_take, if_pos (by omega), List.getElem?_drop, Nat.add_assoc]
        · intro b' hb'; rw [hO, hOs, hP]; simp [hb']
        · intro b' hb'; rw [hRs, hQ]; simp [hb']

/-- READ BEHIND A HEADER: the header, and the slice that it heads. -/
theorem rdR_ok {w : World} {env : Env} {tmps : Array Value} {Of Rf : Nat → List Nat} (h : Rel w env tmps Of Rf) {l : Lk} {cut : Option (Nat × Nat × Nat)} {x : Value} (hp : RefOk w env tmps l cut x) {dd : Dat}
    (hr : rdR env l = some dd) : ∃ cs1 bk hd O1 R1, x = cutV hd cut ∧ CutOk hd cut ∧ locOf w env tmps l = some (cs1, bk) ∧ cs1[l.off]? = some hd ∧ Rep w dd.t dd.a dd.x [hd] O1 R1 ∧ (∀ b ∈ O1, b ∈ Of l.s) ∧ (∀ b ∈ R1, b ∈ Rf l.s) ∧ O1.Nodup := by
  unfold rdR at hr
  cases hf : freshR env l with
  | false => simp [hf] at hr
  | true =>
    simp only [hf, cond_true] at hr
    obtain ⟨cs1, bk, hd, hloc, hcs, hck, hx⟩ := hp.2 hf
    cases hv : (get env l.s).v.obj? with
    | none => simp [hv] at hr
    | some D =>
      obtain ⟨cs0, bk0, O, pre, hob, hrep, hO, hkind⟩ := h.content hv
      simp only [hv, Option.bind_some] at hr
      cases hg : getP D l.st with
      | none => simp [hg] at hr
      | some d1 =>
        simp only [hg, Option.bind_some] at hr
        have hnd := h.content_nd hO
        have hloc' := hloc
        unfold locOf at hloc'
        simp only [hob] at hloc'
        obtain ⟨O0, O1, O2, R0, R1, R2, hOs, hRs, hd1, -, -⟩ := hrep.path hnd.1 hnd.2.1 hloc' hg
        obtain ⟨c0, c1, c2, P0, P1, P2, Q0, Q1, Q2, hcs1, hl, hn, hP, hQ, hdd, -⟩ := hd1.focus hr
        have hlen1 := hdd.len.1
        rw [← hn] at hlen1
        obtain ⟨v, rfl⟩ : ∃ v, c1 = [v] := by
          cases c1 with
          | nil => simp at hlen1
          | cons v c => cases c with
            | nil => exact ⟨v, rfl⟩
            | cons => simp at hlen1
        have : cs1[l.off]? = some v := by rw [hcs1]; simp [← hl]
        rw [this] at hcs
        simp only [Option.some.injEq] at hcs
        subst hcs
        refine ⟨cs1, bk, v, P1, Q1, hx, hck, hloc, this, hdd, ?_, ?_, ?_⟩
        · intro b' hb'; rw [hO, hOs, hP]; simp [hb']
        · intro b' hb'; rw [hRs, hQ]; simp [hb']
        · have h1 := hnd.1
          rw [hOs] at h1
          have h2 := (nodup_mid h1).1
          rw [hP] at h2
          exact (nodup_mid h2).1

theorem cell_at {w : World} {b : Nat} {C : Array Value} {el : TypeId} {fz : Nat × Nat} (h : w.heap[b]? = some (.cells C el fz)) (o : Nat) : w.cell? ⟨b, o, none⟩ = C.toList[o]? := by
  simp [World.cell?, h]

/-- a variable of a known type loaded -/
theorem run_loadVar {P : Program} {w : World} {t : TypeId} {ti : TI} (hT : TIok P t ti) {b o : Nat} {cs : List Value} (hl : cs.length = ti.ty.sz) (hc : ∀ j u, cs[j]? = some u → w.cell? ⟨b, o + j, none⟩ = some u) :
    ∃ x, (loadVar t ⟨b, o, none⟩).run P w = .ok x w ∧ Packed ti.ty cs x := by
  obtain ⟨i, z, hi, hsz, -⟩ := hT.info
  obtain ⟨d, hd, ha⟩ := hT.und
  have hagg : (isAgg t).run P w = .ok ti.ty.isPair w := by
    have hu := run_underlying hd w
    simp only [isAgg]
    cases d <;> simp [hu, ← ha, aggD]
  have hld := run_loadCells_list (P := P) w ⟨b, o, none⟩ cs (fun j v hj => by rw [Addr.add_lit]; exact hc j v hj)
  cases hty : ti.ty with
  | pair t u =>
    refine ⟨.agg cs.toArray, ?_, rfl⟩
    rw [hl] at hld
    simp [loadVar, hagg, hty, Ty.isPair, sizeOf, typeInfo, hi, hsz] at hld ⊢
    simp [hld]
  | int k | bool | str | sl e =>
    rw [hty] at hl
    simp only [Ty.sz] at hl
    obtain ⟨v, rfl⟩ : ∃ v, cs = [v] := by
      cases cs with
      | nil => simp at hl
      | cons v c => cases c with
        | nil => exact ⟨v, rfl⟩
        | cons => simp at hl
    refine ⟨v, ?_, rfl⟩
    have := hc 0 v (by simp)
    simp at this
    simp [loadVar, hagg, hty, Ty.isPair, this]

end Go.Vm
