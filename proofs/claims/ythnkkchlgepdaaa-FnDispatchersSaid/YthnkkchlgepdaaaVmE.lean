/- Ways into data: what lies behind one, and what a change there does. Own work; lemmas. No condition. -/
import Derived.Test.YthnkkchlgepdaaaVmD
namespace Go.Vm
open Go.RowKit

/-- what lies behind a way -/
def getP : Dat → List (Nat × Nat) → Option Dat
  | d, [] => some d
  | d, (o, i) :: st => match sub d.t d.a d.x o 1 with
    | some ⟨.sl e, .own _ ae, xs⟩ => getP ⟨e, ae, xs.getD i e.dflt⟩ st
    | _ => none

/-- a change behind a way -/
def putP : Dat → List (Nat × Nat) → (Dat → Option Dat) → Option Dat
  | d, [], f => f d
  | d, (o, i) :: st, f => match sub d.t d.a d.x o 1 with
    | some ⟨.sl e, .own el ae, xs⟩ =>
      (putP ⟨e, ae, xs.getD i e.dflt⟩ st f).bind fun d' => (d'.as e).bind fun p =>
        if p.1 = ae then (upd d.t d.a d.x o 1 ⟨.sl e, .own el ae, xs.set i p.2⟩).map fun q => ⟨d.t, q.1, q.2⟩ else none
    | _ => none

theorem nodup_mid {A B C : List Nat} (h : (A ++ B ++ C).Nodup) : B.Nodup ∧ (∀ b ∈ B, b ∉ A) ∧ (∀ b ∈ B, b ∉ C) := by
  rw [List.nodup_append] at h
  obtain ⟨h1, h2, h3⟩ := h
  rw [List.nodup_append] at h1
  exact ⟨h1.2.1, fun b hb ha => h1.2.2 b ha b hb rfl, fun b hb hc => h3 b (by simp [hb]) b hc rfl⟩

theorem take_drop_mid {cells : List Value} {d0 d1 d2 : List Value} {i n : Nat} (h : cells = d0 ++ d1 ++ d2) (h0 : d0.length = i) (h1 : d1.length = n) : (cells.drop i).take n = d1 := by
  subst h; subst h0; subst h1
  rw [List.append_assoc, List.drop_left, List.take_left]

/-- A WAY: what is represented behind it, where it lies, and what a change there does to the whole. -/
theorem Rep.path {w : World} {t : Ty} {a : An} {x : t.den} {cs : List Value} {O R : List Nat} (h : Rep w t a x cs O R) (hnd : O.Nodup) (hur : ∀ b ∈ O, b ∉ R)
    {st : List (Nat × Nat)} {bk bk1 : Option (Nat × Nat)} {cs1 : List Value} (hloc : loc w t a x cs bk st = some (cs1, bk1)) {d : Dat} (hg : getP ⟨t, a, x⟩ st = some d) :
    ∃ O0 O1 O2 R0 R1 R2, O = O0 ++ O1 ++ O2 ∧ R = R0 ++ R1 ++ R2 ∧ Rep w d.t d.a d.x cs1 O1 R1 ∧
      (st = [] → cs1 = cs ∧ bk1 = bk ∧ O0 = [] ∧ O2 = [] ∧ R0 = [] ∧ R2 = []) ∧
      (st ≠ [] → ∃ b k C el, bk1 = some (b, k) ∧ (b ∈ O0 ∨ b ∈ O2) ∧ w.heap[b]? = some (.cells C el (0, 0)) ∧ cs1 = (C.toList.drop k).take d.t.sz ∧ k + d.t.sz ≤ C.size ∧
        ∀ (w' : World) (f : Dat → Option Dat) (d' dd : Dat) (C' : Array Value) (c1' : List Value) (O1' R1' : List Nat), f d = some d' → d'.t = d.t →
          w'.heap[b]? = some (.cells C' el (0, 0)) → C'.toList = C.toList.take k ++ c1' ++ C.toList.drop (k + d.t.sz) →
          (∀ b', b' ≠ b → b' ∈ O0 ∨ b' ∈ O2 ∨ b' ∈ R0 ∨ b' ∈ R2 → w'.heap[b']? = w.heap[b']?) →
          Rep w' d'.t d'.a d'.x c1' O1' R1' → putP ⟨t, a, x⟩ st f = some dd → dd.t = t ∧ Rep w' dd.t dd.a dd.x cs (O0 ++ O1' ++ O2) (R0 ++ R1' ++ R2)) := by
  induction st generalizing t a cs bk O R with
  | nil =>
    simp only [loc, Option.some.injEq, Prod.mk.injEq] at hloc
    simp only [getP, Option.some.injEq] at hg
    subst hg
    obtain ⟨rfl, rfl⟩ := hloc
    exact ⟨[], O, [], [], R, [], by simp, by simp, h, fun _ => ⟨rfl, rfl, rfl, rfl, rfl, rfl⟩, fun hn => absurd rfl hn⟩
  | cons p st ih =>
    obtain ⟨o, i⟩ := p
    cases hs : sub t a x o 1 with
    | none => simp [getP, hs] at hg
    | some ds =>
      obtain ⟨dt, da, dx⟩ := ds
      obtain ⟨c0, c1, c2, A0, A1, A2, B0, B1, B2, rfl, hl, hn, rfl, rfl, hd, hupd⟩ := h.focus hs
      cases dt with
      | sl e =>
        cases da with
        | own el ae =>
          obtain ⟨v, cells, O', rfl, ho, hm, rfl, hL⟩ := hd
          have hc : (c0 ++ [v] ++ c2)[o]? = some v := by simp [← hl]
          simp only [loc, hs, hc] at hloc
          simp only [getP, hs] at hg
          rcases ho.2 with ⟨rfl, h0⟩ | ⟨g, cap, cur, rfl, -, hgh, hn1, hn2, hn3, htake⟩
          · simp at hloc
          · simp only at hloc
            split at hloc
            case isFalse => cases hloc
            rename_i hi
            have hgx : dx[i]? = some dx[i] := by simp [hi]
            have hget : dx.getD i e.dflt = dx[i] := by simp [List.getD, hi]
            obtain ⟨d0, d1, d2, P0, P1, P2, Q0, Q1, Q2, hcells, hl', rfl, rfl, hd', hupd'⟩ := hL.focus (f := fun w => Rep w e ae) (n := e.sz) (w := w)
              (fun w x c O1 R1 h => h.len.1) (fun w w' x c O1 R1 h ho hr => h.frame ho hr) hgx
            rw [hget] at hloc hg
            simp only [Value.ownBlock, Option.toList_some, List.singleton_append] at hnd hur
            have hnd' := (nodup_mid hnd).1
            rw [List.nodup_cons] at hnd'
            have hndm := nodup_mid hnd
            have hnP := nodup_mid hnd'.2
            have hle : i * e.sz + e.sz ≤ dx.length * e.sz := by rw [← Nat.succ_mul]; exact Nat.mul_le_mul_right _ hi
            have hcap : dx.length * e.sz ≤ cap * e.sz := Nat.mul_le_mul_right _ hn1
            have hcs : cellsAt w g (i * e.sz) e.sz = d1 := by
              simp only [cellsAt, hgh]
              have : (cur.toList.drop (i * e.sz)).take e.sz = ((cur.toList.take (dx.length * e.sz)).drop (i * e.sz)).take e.sz := by
                rw [List.drop_take, List.take_take]; congr 1; omega
              rw [this, htake]
              exact take_drop_mid hcells hl' hd'.len.1
            rw [hcs] at hloc
            obtain ⟨S0, S1, S2, T0, T1, T2, rfl, rfl, hd1, hnil, hcons⟩ := ih hd' hnP.1 (fun b hb => by
              have := hur b (by simp; grind)
              intro hb'; apply this; simp; grind) hloc hg
            refine ⟨A0 ++ (g :: P0) ++ S0, S1, S2 ++ P2 ++ A2, B0 ++ Q0 ++ T0, T1, T2 ++ Q2 ++ B2, by simp [Value.ownBlock], by simp, hd1, fun h => by simp at h, fun _ => ?_⟩
            by_cases hst : st = []
            · subst hst
              obtain ⟨rfl, rfl, rfl, rfl, rfl, rfl⟩ := hnil rfl
              simp only [getP, Option.some.injEq] at hg
              subst hg
              refine ⟨g, i * e.sz, cur, el, rfl, .inl (by simp), hgh, ?_, ?_, ?_⟩
              · have := hcs; simp only [cellsAt, hgh] at this; exact this.symm
              · simp only; omega
              intro w' f d' dd C' c1' O1' R1' hf htt hw1 hC' hw2 hr' hput
              simp only [putP, hs, hget, hf, Option.bind_some] at hput
              cases hp : d'.as e with
              | none => simp [hp] at hput
              | some p =>
                have hde := Dat.as_eq hp
                subst hde
                simp only [hp, Option.bind_some] at hput
                split at hput
                case isFalse => cases hput
                rename_i hpa
                have hlc := hr'.len.1
                simp only at hlc hr'
                -- the list with the element changed
                have hLL : RepL (Rep w' e ae) (dx.set i p.2) (d0 ++ c1' ++ d2) (P0 ++ O1' ++ P2) (Q0 ++ R1' ++ Q2) := by
                  refine hupd' w' p.2 c1' O1' R1' ?_ (by rw [← hpa]; exact hr')
                  intro b hb
                  refine hw2 b ?_ (by simp; grind)
                  rintro rfl
                  rcases hb with hb | hb | hb | hb
                  · exact hnd'.1 (by simp [hb])
                  · exact hnd'.1 (by simp [hb])
                  · exact hur b (by simp) (by simp [hb])
                  · exact hur b (by simp) (by simp [hb])
                have hd0 : cur.toList.take (i * e.sz) = d0 := by
                  have h5 : cur.toList.take (i * e.sz) = (cur.toList.take (dx.length * e.sz)).take (i * e.sz) := by rw [List.take_take]; congr 1; omega
                  rw [h5, htake, hcells, ← hl', List.append_assoc, List.take_left]
                have hsplit : cur.toList = cells ++ cur.toList.drop (dx.length * e.sz) := by rw [← htake, List.take_append_drop]
                have hd2 : cur.toList.drop (i * e.sz + e.sz) = d2 ++ cur.toList.drop (dx.length * e.sz) := by
                  have h6 : (cells ++ cur.toList.drop (dx.length * e.sz)).drop (i * e.sz + e.sz) = d2 ++ cur.toList.drop (dx.length * e.sz) := by
                    rw [hcells]
                    have h7 : (d0 ++ cs1).length = i * e.sz + e.sz := by simp [hl', hd'.len.1]
                    rw [← h7, List.append_assoc (d0 ++ cs1), List.drop_left]
                  rw [← hsplit] at h6; exact h6
                simp only at hC'
                rw [hd0, hd2] at hC'
                have hcl : cells.length = dx.length * e.sz := by
                  have := hL.len (n := e.sz) (fun x c O1 R1 h => h.len); exact this.1
                have hsz : C'.size = cap * e.sz := by
                  have h8 := congrArg List.length hC'
                  have h10 := congrArg List.length hsplit
                  have h11 := congrArg List.length hcells
                  have h12 := hd'.len.1
                  simp only [List.length_append, Array.length_toList] at h8 h10 h11
                  omega
                have hown : w'.ownsRow 0 el e.sz (.slice (some ⟨g, 0, none⟩) (dx.set i p.2).length cap) (dx.set i p.2).length (d0 ++ c1' ++ d2) := by
                  refine ⟨?_, .inr ⟨g, cap, C', rfl, Nat.zero_le _, hw1, by simpa using hn1, hn2, hsz, ?_⟩⟩
                  · have := hcl; rw [hcells] at this; simp at this ⊢; rw [hd'.len.1] at this; rw [hlc]; exact this
                  · rw [hC', ← List.append_assoc]
                    have h9 : (dx.set i p.2).length * e.sz = (d0 ++ c1' ++ d2).length := by
                      have := hcl; rw [hcells] at this; simp at this ⊢; rw [hd'.len.1] at this; rw [hlc]; exact this.symm
                    rw [h9, List.take_left]
                have hsl : Rep w' (.sl e) (.own el ae) (dx.set i p.2) [.slice (some ⟨g, 0, none⟩) dx.length cap] (g :: (P0 ++ O1' ++ P2)) (Q0 ++ R1' ++ Q2) := by
                  refine ⟨_, d0 ++ c1' ++ d2, P0 ++ O1' ++ P2, ?_, hown, by simpa using hm, by simp [Value.ownBlock], hLL⟩
                  simp
                obtain ⟨q, hq, hrq⟩ := hupd w' (.own el ae) (dx.set i p.2) _ _ _ (fun b hb => by
                  refine hw2 b ?_ (by simp; grind)
                  rintro rfl
                  rcases hb with hb | hb | hb | hb
                  · exact hndm.2.1 b (by simp) hb
                  · exact hndm.2.2 b (by simp) hb
                  · exact hur b (by simp) (by simp [hb])
                  · exact hur b (by simp) (by simp [hb])) hsl
                simp only [hq, Option.map_some, Option.some.injEq] at hput
                subst hput
                exact ⟨rfl, by simpa using hrq⟩
            · obtain ⟨b, k, C, el', rfl, hbO, hbh, hcs1, hk, hch⟩ := hcons hst
              refine ⟨b, k, C, el', rfl, by simp; grind, hbh, hcs1, hk, ?_⟩
              intro w' f d' dd C' c1' O1' R1' hf htt hw1 hC' hw2 hr' hput
              have hgb : g ≠ b := by
                rintro rfl
                exact hnd'.1 (by simp; grind)
              simp only [putP, hs, hget] at hput
              cases hp0 : putP ⟨e, ae, dx[i]⟩ st f with
              | none => simp [hp0] at hput
              | some d'' =>
                simp only [hp0, Option.bind_some] at hput
                obtain ⟨hte, hre⟩ := hch w' f d' d'' C' c1' O1' R1' hf htt hw1 hC' (fun b' hb' hb'' => hw2 b' hb' (by simp; grind)) hr' hp0
                cases hp : d''.as e with
                | none => simp [hp] at hput
                | some p =>
                  have hde := Dat.as_eq hp
                  subst hde
                  simp only [hp, Option.bind_some] at hput
                  split at hput
                  case isFalse => cases hput
                  rename_i hpa
                  simp only at hre
                  have hLL : RepL (Rep w' e ae) (dx.set i p.2) (d0 ++ d1 ++ d2) (P0 ++ (S0 ++ O1' ++ S2) ++ P2) (Q0 ++ (T0 ++ R1' ++ T2) ++ Q2) := by
                    refine hupd' w' p.2 d1 _ _ ?_ (by rw [← hpa]; exact hre)
                    intro b' hb'
                    refine hw2 b' ?_ (by simp; grind)
                    rintro rfl
                    rcases hb' with h5 | h5 | h5 | h5
                    · exact hnP.2.1 b' (by simp; grind) h5
                    · exact hnP.2.2 b' (by simp; grind) h5
                    · exact hur b' (by simp; grind) (by simp [h5])
                    · exact hur b' (by simp; grind) (by simp [h5])
                  have hgw : w'.heap[g]? = w.heap[g]? := hw2 g hgb (.inl (by simp))
                  have hsl : Rep w' (.sl e) (.own el ae) (dx.set i p.2) [.slice (some ⟨g, 0, none⟩) dx.length cap] (g :: (P0 ++ (S0 ++ O1' ++ S2) ++ P2)) (Q0 ++ (T0 ++ R1' ++ T2) ++ Q2) := by
                    refine ⟨_, cells, P0 ++ (S0 ++ O1' ++ S2) ++ P2, rfl, ⟨by simpa using ho.1, .inr ⟨g, cap, cur, by simp, Nat.zero_le _, by rw [hgw]; exact hgh, by simpa using hn1, hn2, hn3, by simpa using htake⟩⟩, by simpa using hm, by simp [Value.ownBlock], by rw [hcells]; exact hLL⟩
                  obtain ⟨q, hq, hrq⟩ := hupd w' (.own el ae) (dx.set i p.2) _ _ _ (fun b' hb' => by
                    refine hw2 b' ?_ (by simp; grind)
                    rintro rfl
                    rcases hb' with h5 | h5 | h5 | h5
                    · exact hndm.2.1 b' (by simp; grind) h5
                    · exact hndm.2.2 b' (by simp; grind) h5
                    · exact hur b' (by simp; grind) (by simp [h5])
                    · exact hur b' (by simp; grind) (by simp [h5])) hsl
                  simp only [hq, Option.map_some, Option.some.injEq] at hput
                  subst hput
                  exact ⟨rfl, by simpa using hrq⟩
        | _ => simp [getP, hs] at hg
      | _ => simp [getP, hs] at hg

end Go.Vm
