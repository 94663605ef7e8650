/- Contracts of the functions of the law FnDispatchers. Own work. No condition. -/
import Derived.Test.YthnkkchlgepdaaaDFm0
import Derived.Test.YthnkkchlgepdaaaDFm1
import Derived.Test.YthnkkchlgepdaaaDFm2
import Derived.Test.YthnkkchlgepdaaaDFm3
import Derived.Test.YthnkkchlgepdaaaDFm4
import Derived.Test.YthnkkchlgepdaaaDFm5
import Derived.Test.YthnkkchlgepdaaaDFm6
import Derived.Test.YthnkkchlgepdaaaDFm7
import Derived.Test.YthnkkchlgepdaaaDFm8
/- Contracts of small functions. Own work. No condition. -/
namespace Go.Vm
open Go.Proofs
set_option linter.unusedVariables false
set_option linter.unusedSimpArgs false

theorem cnd_t {A B : Prop} : cnd true A B = A := rfl
theorem cnd_f {A B : Prop} : cnd false A B = B := rfl
theorem cnd_of {b : Bool} {A B : Prop} (h1 : b = true → A) (h2 : b = false → B) : cnd b A B := by cases b; exact h2 rfl; exact h1 rfl
theorem cnd_dec {p : Prop} [Decidable p] {A B : Prop} (h1 : p → A) (h2 : ¬ p → B) : cnd (decide p) A B := by
  by_cases h : p
  · rw [decide_eq_true h]; exact h1 h
  · rw [decide_eq_false h]; exact h2 h

/-- an element told by its number -/
def el {α : Type} (xs : List α) (d : α) (i : Int) : α := xs.getD i.toNat d

namespace DM
def inR (n lo hi : Int) : Bool := decide (lo ≤ n ∧ n ≤ hi)
def jobB (j : D.Job) : Bool := inR j.1 1 50 && (inR j.2.1 0 50 && (inR j.2.2.1 0 500 && inR j.2.2.2 0 500))
def jobsB (js : List D.Job) : Bool := decide (js.length ≤ 8) && js.all jobB
end DM
open DM

theorem impl_within.spec {n low high : Int} {Q : Bool → Prop} (h : Q (inR n low high)) : impl_within.call n low high Q := by
  refine impl_within.call_ _ _ _ _ (cnd_dec (fun h1 => ?_) (fun h1 => ?_))
  · have : inR n low high = decide (n ≤ high) := by simp [inR, h1]
    rw [this] at h; exact h
  · have : inR n low high = false := by simp [inR, h1]
    rw [this] at h; exact h
theorem spec_l1In.spec {n low high : Int} {Q : Bool → Prop} (h : Q (inR n low high)) : spec_l1In.call n low high Q := by
  refine spec_l1In.call_ _ _ _ _ (cnd_dec (fun h1 => ?_) (fun h1 => ?_))
  · have : inR n low high = decide (n ≤ high) := by simp [inR, h1]
    rw [this] at h; exact h
  · have : inR n low high = false := by simp [inR, h1]
    rw [this] at h; exact h
theorem impl_isDate.spec {n : Int} {Q : Bool → Prop} (h : Q (inR n 0 500)) : impl_isDate.call n Q := impl_isDate.call_ _ _ (impl_within.spec h)
theorem impl_isNumber.spec {i n : Int} {Q : Bool → Prop} (hn : 0 ≤ n ∧ n ≤ 281474976710656) (h : Q (inR i 0 (n - 1))) : impl_isNumber.call i n Q :=
  impl_isNumber.call_ _ _ _ ⟨by omega, impl_within.spec h⟩
theorem spec_l3Job.spec {jobs : List D.Job} {i : Int} {Q : Bool → Prop} (h : Q (inR i 0 ((jobs.length : Int) - 1))) : spec_l3Job.call jobs i Q :=
  spec_l3Job.call_ _ _ _ fun hl => ⟨by omega, spec_l1In.spec h⟩
theorem spec_l2Job.spec {j : D.Job} {Q : Bool → Prop} (h : Q (jobB j)) : spec_l2Job.call j Q := by
  unfold jobB at h
  refine spec_l2Job.call_ _ _ (spec_l1In.spec (cnd_of (fun h1 => spec_l1In.spec (cnd_of (fun h2 => spec_l1In.spec (cnd_of (fun h3 => spec_l1In.spec ?_) fun h3 => ?_)) fun h2 => ?_)) fun h1 => ?_))
  all_goals try simp only [cond_true, cond_false] at *
  all_goals simp_all

theorem impl_IsJobs.loop {jobs : List D.Job} {Q : Bool → Prop} (hl : jobs.length ≤ 8) (h : Q (jobs.all jobB)) : ∀ (k n : Nat), n + k = jobs.length → (∀ j, j < n → jobB (el jobs (0, 0, 0, 0) j) = true) → impl_IsJobs.at4 jobs Q n := by
  intro k
  induction k with
  | zero =>
    intro n hn hj
    refine impl_IsJobs.at4_ _ _ _ (cnd_dec (fun h1 => by omega) fun _ => ?_)
    have : jobs.all jobB = true := by
      rw [List.all_eq_true]
      intro x hx
      obtain ⟨i, hi, rfl⟩ := List.getElem_of_mem hx
      have := hj i (by omega)
      simpa [el, List.getD_eq_getElem?_getD, hi] using this
    rw [this] at h; exact h
  | succ k ih =>
    intro n hn hj
    have hlt : n < jobs.length := by omega
    have hnot : jobB (el jobs (0, 0, 0, 0) n) = false → Q false := by
      intro hf
      have : jobs.all jobB = false := by
        rw [List.all_eq_false]
        refine ⟨jobs[n], List.getElem_mem hlt, ?_⟩
        simpa [el, List.getD_eq_getElem?_getD, hlt] using hf
      rw [this] at h; exact h
    refine impl_IsJobs.at4_ _ _ _ (cnd_dec (fun h1 => ⟨by omega, ?_⟩) fun h1 => absurd (by omega) h1)
    have hb : jobB (el jobs (0, 0, 0, 0) n) = jobB (List.getD jobs (Int.toNat (n : Int)) (0, (0, (0, 0)))) := rfl
    generalize List.getD jobs (Int.toNat (n : Int)) (0, (0, (0, 0))) = j at hb ⊢
    refine impl_within.spec (cnd_of (fun h2 => ?_) fun h2 => impl_within.spec (cnd_of (fun h3 => ?_) fun h3 => impl_isDate.spec (cnd_of (fun h4 => ?_) fun h4 => impl_isDate.spec (cnd_of (fun h5 => ?_) fun h5 => ⟨by omega, ?_⟩))))
    all_goals try simp only [cond_true, cond_false] at *
    · exact hnot (by rw [hb]; simp_all [jobB])
    · exact hnot (by rw [hb]; simp_all [jobB])
    · exact hnot (by rw [hb]; simp_all [jobB])
    · exact hnot (by rw [hb]; simp_all [jobB])
    · refine ih (n + 1) (by omega) fun i hi => ?_
      by_cases e : i = n
      · subst e; rw [hb]; simp_all [jobB]
      · exact hj i (by omega)

theorem impl_IsJobs.spec {jobs : List D.Job} {Q : Bool → Prop} (h : Q (jobsB jobs)) : impl_IsJobs.call jobs Q := by
  refine impl_IsJobs.call_ _ _ fun hl => cnd_dec (fun h1 => ?_) fun h1 => fun _ => ?_
  · have : jobsB jobs = false := by simp [jobsB]; intro h2; omega
    rw [this] at h; exact h
  · have h8 : jobs.length ≤ 8 := by omega
    have : jobsB jobs = jobs.all jobB := by simp [jobsB, h8]
    rw [this] at h
    exact impl_IsJobs.loop h8 h jobs.length 0 (by omega) (by simp)

theorem spec_l2Good.loop {jobs : List D.Job} {Q : Bool → Prop} (hl : jobs.length ≤ 281474976710656) (h : Q (jobsB jobs)) : ∀ (k n : Nat), n + k = jobs.length → (∀ j, j < n → jobB (el jobs (0, 0, 0, 0) j) = true) → spec_l2Good.at2 jobs Q n := by
  intro k
  induction k with
  | zero =>
    intro n hn hj
    refine spec_l2Good.at2_ _ _ _ fun _ => (cnd_dec (fun h1 => by omega) fun _ => fun _ => ?_)
    have : jobs.all jobB = true := by
      rw [List.all_eq_true]
      intro x hx
      obtain ⟨i, hi, rfl⟩ := List.getElem_of_mem hx
      have := hj i (by omega)
      simpa [el, List.getD_eq_getElem?_getD, hi] using this
    have h2 : jobsB jobs = decide ((jobs.length : Int) ≤ 8) := by
      simp only [jobsB, this, Bool.and_true]
      congr 1; apply propext; omega
    rw [h2] at h; exact h
  | succ k ih =>
    intro n hn hj
    have hlt : n < jobs.length := by omega
    refine spec_l2Good.at2_ _ _ _ fun _ => (cnd_dec (fun h1 => ⟨by omega, ?_⟩) fun h1 => absurd (by omega) h1)
    have hb : jobB (el jobs (0, 0, 0, 0) n) = jobB (List.getD jobs (Int.toNat (n : Int)) (0, (0, (0, 0)))) := rfl
    refine spec_l2Job.spec (cnd_of (fun h2 => ?_) fun h2 => ⟨by omega, ?_⟩)
    · have : jobs.all jobB = false := by
        rw [List.all_eq_false]
        refine ⟨jobs[n], List.getElem_mem hlt, ?_⟩
        rw [← hb] at h2
        simpa [el, List.getD_eq_getElem?_getD, hlt] using h2
      have h3 : jobsB jobs = false := by simp [jobsB, this]
      rw [h3] at h; exact h
    · refine ih (n + 1) (by omega) fun i hi => ?_
      by_cases e : i = n
      · subst e; rw [hb]; simpa using h2
      · exact hj i (by omega)

theorem spec_l2Good.spec {jobs : List D.Job} {Q : Bool → Prop} (h : Q (jobsB jobs)) : spec_l2Good.call jobs Q := by
  by_cases hl : jobs.length ≤ 281474976710656
  · exact spec_l2Good.call_ _ _ (spec_l2Good.loop hl h jobs.length 0 (by omega) (by simp))
  · exact spec_l2Good.call_ _ _ (spec_l2Good.at2_ _ _ _ fun hx => absurd hx hl)

end Go.Vm

/- Contracts: valid dispatchers. Own work. No condition. -/
namespace Go.Vm
open Go.Proofs
set_option linter.unusedVariables false
set_option linter.unusedSimpArgs false
open DM
namespace DM
abbrev tk (d : D.Dispatcher) (i : Int) : D.Task := List.getD d.2.2.2.2 (Int.toNat i) (0, (0, 0))
abbrev jb (js : List D.Job) (i : Int) : D.Job := List.getD js (Int.toNat i) (0, (0, (0, 0)))
/-- the task k of a dispatcher is right -/
structure TOk (d : D.Dispatcher) (k : Int) : Prop where
  job : 0 ≤ (tk d k).1 ∧ (tk d k).1 < (d.2.2.2.1.length : Int)
  mac : 0 ≤ (tk d k).2.1 ∧ (tk d k).2.1 < d.1
  sta : (jb d.2.2.2.1 (tk d k).1).2.2.1 ≤ (tk d k).2.2 ∧ (tk d k).2.2 < d.2.2.1
  ord : 0 < k → ¬ (tk d k).2.2 < (tk d (k - 1)).2.2 ∧ ((tk d (k - 1)).2.2 = (tk d k).2.2 → ¬ (tk d k).2.1 ≤ (tk d (k - 1)).2.1)
  oth : ∀ j : Int, 0 ≤ j → j < k → (tk d j).1 ≠ (tk d k).1 ∧ ((tk d j).2.1 = (tk d k).2.1 → ¬ (tk d k).2.2 < (tk d j).2.2 + (jb d.2.2.2.1 (tk d j).1).1)
structure Good (d : D.Dispatcher) : Prop where
  mac : 1 ≤ d.1 ∧ d.1 ≤ 4
  pick : 1 ≤ d.2.1 ∧ d.2.1 ≤ 4
  now : 0 ≤ d.2.2.1 ∧ d.2.2.1 ≤ 1000
  jobs : jobsB d.2.2.2.1 = true
  tasks : ∀ k : Int, 0 ≤ k → k < (d.2.2.2.2.length : Int) → TOk d k

theorem inR_iff {n a b : Int} : inR n a b = true ↔ a ≤ n ∧ n ≤ b := by simp [inR]
theorem job_in {js : List D.Job} (h : jobsB js = true) {i : Int} (h1 : 0 ≤ i) (h2 : i < (js.length : Int)) :
    (1 ≤ (jb js i).1 ∧ (jb js i).1 ≤ 50) ∧ (0 ≤ (jb js i).2.1 ∧ (jb js i).2.1 ≤ 50) ∧ (0 ≤ (jb js i).2.2.1 ∧ (jb js i).2.2.1 ≤ 500) ∧ (0 ≤ (jb js i).2.2.2 ∧ (jb js i).2.2.2 ≤ 500) := by
  simp only [jobsB, Bool.and_eq_true, List.all_eq_true] at h
  have hlt : i.toNat < js.length := by omega
  have := h.2 (jb js i) (by
    have : jb js i = js[i.toNat] := by simp [jb, List.getD_eq_getElem?_getD, hlt]
    rw [this]; exact List.getElem_mem hlt)
  simpa [jobB, inR_iff] using this
theorem jobs_len {js : List D.Job} (h : jobsB js = true) : js.length ≤ 8 := by
  simp [jobsB] at h; exact h.1
end DM

theorem impl_Dispatcher_endOf.spec {d : D.Dispatcher} {t : D.Task} {Q : Int → Prop} (h1 : 0 ≤ t.1 ∧ t.1 < (d.2.2.2.1.length : Int)) (hj : jobsB d.2.2.2.1 = true) (h2 : 0 ≤ t.2.2 ∧ t.2.2 ≤ 1000) (h : Q (t.2.2 + (jb d.2.2.2.1 t.1).1)) : impl_Dispatcher_endOf.call d t Q := by
  have := job_in hj h1.1 h1.2
  simp only [jb] at this
  exact impl_Dispatcher_endOf.call_ _ _ _ ⟨h1, by omega, h⟩

theorem take_tk {xs : List D.Task} {n : Int} {j : Int} (h0 : 0 ≤ j) (h1 : j < n) : List.getD (List.drop (Int.toNat 0) (List.take (Int.toNat n) xs)) (Int.toNat j) (0, (0, 0)) = List.getD xs (Int.toNat j) (0, (0, 0)) := by
  have : j.toNat < n.toNat := by omega
  simp only [List.getD_eq_getElem?_getD, Int.toNat_zero, List.drop_zero, List.getElem?_take, this, if_true]

theorem impl_IsDispatcher.inner {d : D.Dispatcher} {Q : Bool → Prop} (hj : jobsB d.2.2.2.1 = true) (hnow : 0 ≤ d.2.2.1 ∧ d.2.2.1 ≤ 1000) (hlen : (d.2.2.2.2.length : Int) ≤ 281474976710656) {n : Int} (hn : 0 ≤ n ∧ n < (d.2.2.2.2.length : Int)) (hT : ∀ k : Int, 0 ≤ k → k < n → TOk d k)
    (hbad : ¬ TOk d n → Q false) (hgood : TOk d n → impl_IsDispatcher.at4 d Q (n + 1)) (h1 : 0 ≤ (tk d n).1 ∧ (tk d n).1 < (d.2.2.2.1.length : Int)) (h2 : 0 ≤ (tk d n).2.1 ∧ (tk d n).2.1 < d.1) (h3 : (jb d.2.2.2.1 (tk d n).1).2.2.1 ≤ (tk d n).2.2 ∧ (tk d n).2.2 < d.2.2.1)
    (h4 : 0 < n → ¬ (tk d n).2.2 < (tk d (n - 1)).2.2 ∧ ((tk d (n - 1)).2.2 = (tk d n).2.2 → ¬ (tk d n).2.1 ≤ (tk d (n - 1)).2.1)) :
    ∀ (k : Nat) (m : Int), m + k = n → 0 ≤ m → (∀ j : Int, 0 ≤ j → j < m → (tk d j).1 ≠ (tk d n).1 ∧ ((tk d j).2.1 = (tk d n).2.1 → ¬ (tk d n).2.2 < (tk d j).2.2 + (jb d.2.2.2.1 (tk d j).1).1)) →
      impl_IsDispatcher.at11 d Q (tk d n) n (List.drop (Int.toNat 0) (List.take (Int.toNat n) d.2.2.2.2)) (((List.length (List.drop (Int.toNat 0) (List.take (Int.toNat n) d.2.2.2.2))) : Nat) : Int) m := by
  have hl : (((List.length (List.drop (Int.toNat 0) (List.take (Int.toNat n) d.2.2.2.2))) : Nat) : Int) = n := by
    simp only [Int.toNat_zero, List.drop_zero, List.length_take]; omega
  intro k
  induction k with
  | zero =>
    intro m hm h0 hall
    refine impl_IsDispatcher.at11_ _ _ _ _ _ _ _ (cnd_dec (fun h => absurd h (by omega)) fun _ => ⟨by omega, ?_⟩)
    exact hgood ⟨h1, h2, h3, h4, fun j a b => hall j a (by omega)⟩
  | succ k ih =>
    intro m hm h0 hall
    have hmn : m < n := by omega
    have hu := hT m h0 hmn
    have hjb := job_in hj hu.job.1 hu.job.2
    have hst := hu.sta
    refine impl_IsDispatcher.at11_ _ _ _ _ _ _ _ (cnd_dec (fun _ => ⟨by omega, ?_⟩) fun h => absurd (show m < _ by omega) h)
    rw [take_tk h0 hmn]
    refine cnd_dec (fun e => hbad fun t => (t.oth m h0 hmn).1 e) fun e1 => cnd_dec (fun e2 => ?_) fun e2 => ?_
    · refine impl_Dispatcher_endOf.spec hu.job hj ?_ ?_
      · simp only [tk, jb] at hst hjb ⊢; omega
      · simp only [cond_true, cond_false]
        refine cnd_dec (fun e3 => hbad fun t => (t.oth m h0 hmn).2 e2 e3) fun e3 => ⟨by omega, ?_⟩
        refine ih (m + 1) (by omega) (by omega) fun j a b => ?_
        by_cases e : j = m
        · subst e; exact ⟨e1, fun _ => e3⟩
        · exact hall j a (by omega)
    · simp only [cond_true, cond_false, cnd_f]
      refine ⟨by omega, ih (m + 1) (by omega) (by omega) fun j a b => ?_⟩
      by_cases e : j = m
      · subst e; exact ⟨e1, fun h => absurd h e2⟩
      · exact hall j a (by omega)

theorem impl_IsDispatcher.outer {d : D.Dispatcher} {Q : Bool → Prop} (hm : 1 ≤ d.1 ∧ d.1 ≤ 4) (hj : jobsB d.2.2.2.1 = true) (hnow : 0 ≤ d.2.2.1 ∧ d.2.2.1 ≤ 1000) (hlen : (d.2.2.2.2.length : Int) ≤ 281474976710656)
    (hbad : ∀ n : Int, 0 ≤ n → n < (d.2.2.2.2.length : Int) → ¬ TOk d n → Q false) (hgood : (∀ k : Int, 0 ≤ k → k < (d.2.2.2.2.length : Int) → TOk d k) → Q true) :
    ∀ (k : Nat) (n : Int), n + k = (d.2.2.2.2.length : Int) → 0 ≤ n → (∀ j : Int, 0 ≤ j → j < n → TOk d j) → impl_IsDispatcher.at4 d Q n := by
  have h8 := jobs_len hj
  intro k
  induction k with
  | zero =>
    intro n hn h0 hT
    refine impl_IsDispatcher.at4_ _ _ _ (cnd_dec (fun h => absurd h (by omega)) fun _ => hgood fun k a b => hT k a (by omega))
  | succ k ih =>
    intro n hn h0 hT
    have hnl : n < (d.2.2.2.2.length : Int) := by omega
    have hb := hbad n h0 hnl
    have inn := impl_IsDispatcher.inner (Q := Q) hj hnow hlen ⟨h0, hnl⟩ hT hb (fun t => ih (n + 1) (by omega) (by omega) fun j a b => by
      by_cases e : j = n
      · subst e; exact t
      · exact hT j a (by omega))
    refine impl_IsDispatcher.at4_ _ _ _ (cnd_dec (fun _ => ⟨by omega, impl_isNumber.spec (by omega) (cnd_of (fun r1 _ => hb fun t => ?_) fun r1 => impl_isNumber.spec (by omega) (cnd_of (fun r2 _ => hb fun t => ?_) fun r2 => ?_))⟩) fun h => absurd hnl h)
    · have := t.job
      rw [inR_iff.2 (by simp only [tk] at this; omega)] at r1; cases r1
    · have := t.mac
      rw [inR_iff.2 (by simp only [tk] at this; omega)] at r2; simp at r2
    · have r1' := inR_iff.1 (by simpa using r1 : inR (tk d n).1 0 ((d.2.2.2.1.length : Int) - 1) = true)
      have r2' := inR_iff.1 (by simpa using r2 : inR (tk d n).2.1 0 (d.1 - 1) = true)
      refine ⟨by simp only [tk] at r1'; omega, by omega, impl_within.spec fun _ => cnd_of (fun r3 => hb fun t => ?_) fun r3 => ?_⟩
      · have := t.sta
        rw [inR_iff.2 (by simp only [tk, jb] at this; omega)] at r3; simp at r3
      · have r3' := inR_iff.1 (by simpa using r3 : inR (tk d n).2.2 (jb d.2.2.2.1 (tk d n).1).2.2.1 (d.2.2.1 - 1) = true)
        have inn2 := fun h4 => inn (by omega) (by omega) (by omega) h4 n.toNat 0 (by omega) (by omega) (fun j a b => absurd b (by omega))
        have hle : n ≤ (d.2.2.2.2.length : Int) := by omega
        refine cnd_dec (fun p => ⟨by omega, by omega, cnd_dec (fun e1 => ?_) fun e1 => ⟨by omega, by omega, cnd_dec (fun e2 => ⟨by omega, by omega, ?_⟩) fun e2 => ?_⟩⟩) fun p => ⟨by omega, fun _ => inn2 fun h => absurd h p⟩
        · simp only [cond_true, cond_false, cnd_t]
          exact hb fun t => (t.ord p).1 e1
        · simp only [cond_true, cond_false]
          refine cnd_dec (fun e3 => hb fun t => (t.ord p).2 e2 e3) fun e3 => ⟨by omega, fun _ => inn2 fun _ => ⟨e1, fun _ => e3⟩⟩
        · simp only [cond_true, cond_false, cnd_f]
          exact ⟨by omega, fun _ => inn2 fun _ => ⟨e1, fun h => absurd h e2⟩⟩

theorem impl_IsDispatcher.spec {d : D.Dispatcher} {Q : Bool → Prop} (hf : ¬ Good d → Q false) (ht : Good d → Q true) : impl_IsDispatcher.call d Q := by
  refine impl_IsDispatcher.call_ _ _ (impl_within.spec (cnd_of (fun r => hf fun g => ?_) fun r1 => impl_within.spec (cnd_of (fun r => hf fun g => ?_) fun r2 => impl_within.spec (cnd_of (fun r => hf fun g => ?_) fun r3 => impl_IsJobs.spec (cnd_of (fun r => hf fun g => ?_) fun r4 => fun hl => ?_)))))
  · rw [inR_iff.2 g.mac] at r; simp at r
  · rw [inR_iff.2 g.pick] at r; simp at r
  · rw [inR_iff.2 g.now] at r; simp at r
  · rw [g.jobs] at r; simp at r
  · have r1' := inR_iff.1 (by simpa using r1 : inR d.1 1 4 = true)
    have r2' := inR_iff.1 (by simpa using r2 : inR d.2.1 1 4 = true)
    have r3' := inR_iff.1 (by simpa using r3 : inR d.2.2.1 0 1000 = true)
    have r4' : jobsB d.2.2.2.1 = true := by simpa using r4
    exact impl_IsDispatcher.outer r1' r4' r3' (by omega) (fun n a b h => hf fun g => h (g.tasks n a b)) (fun h => ht ⟨r1', r2', r3', r4', h⟩) d.2.2.2.2.length 0 (by omega) (by omega) fun j a b => absurd b (by omega)

end Go.Vm

/- Contracts: valid dispatchers of the reference; jobs with tasks, waiting jobs. Own work. No condition. -/
namespace Go.Vm
open Go.Proofs
set_option linter.unusedVariables false
set_option linter.unusedSimpArgs false
open DM

theorem spec_l12Tasks.loop {d : D.Dispatcher} {Q : Bool → Prop} (hm : 1 ≤ d.1 ∧ d.1 ≤ 4) (hj : jobsB d.2.2.2.1 = true) (hnow : 0 ≤ d.2.2.1 ∧ d.2.2.1 ≤ 1000) (hlen : (d.2.2.2.2.length : Int) ≤ 281474976710656)
    (hbad : ∀ n : Int, 0 ≤ n → n < (d.2.2.2.2.length : Int) → ¬ TOk d n → Q false) (hgood : (∀ k : Int, 0 ≤ k → k < (d.2.2.2.2.length : Int) → TOk d k) → Q true) :
    ∀ (k : Nat) (n : Int), n + k = (d.2.2.2.2.length : Int) → 0 ≤ n → (∀ j : Int, 0 ≤ j → j < n → TOk d j) → spec_l12Tasks.at2 d Q n := by
  have h8 := jobs_len hj
  intro k
  induction k with
  | zero =>
    intro n hn h0 hT
    refine spec_l12Tasks.at2_ _ _ _ fun _ => (cnd_dec (fun h => absurd h (by omega)) fun _ => hgood fun k a b => hT k a (by omega))
  | succ k ih =>
    intro n hn h0 hT
    have hnl : n < (d.2.2.2.2.length : Int) := by omega
    have hb := hbad n h0 hnl
    refine spec_l12Tasks.at2_ _ _ _ fun _ => (cnd_dec (fun _ => ⟨by omega, spec_l3Job.spec (cnd_of (fun r1 => hb fun t => ?_) fun r1 => ⟨by omega, spec_l1In.spec (cnd_of (fun r2 => hb fun t => ?_) fun r2 => ?_)⟩)⟩) fun h => absurd hnl h)
    · have := t.job
      rw [inR_iff.2 (by simp only [tk] at this; omega)] at r1; cases r1
    · have := t.mac
      rw [inR_iff.2 (by simp only [tk] at this; omega)] at r2; simp at r2
    · have r1' := inR_iff.1 (by simpa using r1 : inR (tk d n).1 0 ((d.2.2.2.1.length : Int) - 1) = true)
      have r2' := inR_iff.1 (by simpa using r2 : inR (tk d n).2.1 0 (d.1 - 1) = true)
      simp only [cond_false]
      refine cnd_dec (fun r3 => hb fun t => absurd t.sta.2 (by simp only [tk]; omega)) fun r3 => ⟨by simp only [tk] at r1'; omega, cnd_dec (fun r4 => hb fun t => absurd t.sta.1 (by simp only [tk, jb]; omega)) fun r4 => ?_⟩
      have inner : ∀ (k : Nat) (m : Int), m + k = n → 0 ≤ m → (∀ j : Int, 0 ≤ j → j < m → (tk d j).1 ≠ (tk d n).1 ∧ ((tk d j).2.1 = (tk d n).2.1 → ¬ (tk d n).2.2 < (tk d j).2.2 + (jb d.2.2.2.1 (tk d j).1).1)) →
          spec_l12Tasks.at8 d Q n (tk d n) m := by
        intro k'
        induction k' with
        | zero =>
          intro m hm h0' hall
          have next : (0 < n → ¬ (tk d n).2.2 < (tk d (n - 1)).2.2 ∧ ((tk d (n - 1)).2.2 = (tk d n).2.2 → ¬ (tk d n).2.1 ≤ (tk d (n - 1)).2.1)) → spec_l12Tasks.at2 d Q (n + 1) := fun h4 =>
            ih (n + 1) (by omega) (by omega) fun j a b => by
              by_cases e : j = n
              · subst e; exact ⟨by omega, by omega, by simp only [tk, jb] at *; omega, h4, fun i a b => hall i a (by omega)⟩
              · exact hT j a (by omega)
          refine spec_l12Tasks.at8_ _ _ _ _ _ (cnd_dec (fun h => absurd h (by omega)) fun _ => cnd_dec (fun p => ⟨by omega, by omega, cnd_dec (fun e1 => ?_) fun e1 => ⟨by omega, by omega, cnd_dec (fun e2 => ⟨by omega, by omega, ?_⟩) fun e2 => ?_⟩⟩) fun p => ⟨by omega, next fun h => absurd h p⟩)
          · simp only [cond_true, cnd_t]
            exact hb fun t => (t.ord p).1 e1
          · simp only [cond_true, cond_false]
            refine cnd_dec (fun e3 => hb fun t => (t.ord p).2 e2 e3) fun e3 => ⟨by omega, next fun _ => ⟨e1, fun _ => e3⟩⟩
          · simp only [cond_true, cond_false, cnd_f]
            exact ⟨by omega, next fun _ => ⟨e1, fun h => absurd h e2⟩⟩
        | succ k' ih' =>
          intro m hm h0' hall
          have hmn : m < n := by omega
          have hu := hT m h0' hmn
          have hjb := job_in hj hu.job.1 hu.job.2
          have hst := hu.sta
          refine spec_l12Tasks.at8_ _ _ _ _ _ (cnd_dec (fun _ => ⟨by omega, ?_⟩) fun h => absurd (show m < _ by omega) h)
          refine cnd_dec (fun e => hb fun t => (t.oth m h0' hmn).1 e) fun e1 => cnd_dec (fun e2 => ⟨hu.job, by simp only [tk, jb] at hst hjb; omega, ?_⟩) fun e2 => ?_
          · simp only [cond_true, cond_false]
            refine cnd_dec (fun e3 => hb fun t => (t.oth m h0' hmn).2 e2 e3) fun e3 => ⟨by omega, ?_⟩
            refine ih' (m + 1) (by omega) (by omega) fun j a b => ?_
            by_cases e : j = m
            · subst e; exact ⟨e1, fun _ => e3⟩
            · exact hall j a (by omega)
          · simp only [cond_true, cond_false, cnd_f]
            refine ⟨by omega, ih' (m + 1) (by omega) (by omega) fun j a b => ?_⟩
            by_cases e : j = m
            · subst e; exact ⟨e1, fun h => absurd h e2⟩
            · exact hall j a (by omega)
      exact inner n.toNat 0 (by omega) (by omega) fun j a b => absurd b (by omega)

theorem spec_l12Good.spec {d : D.Dispatcher} {Q : Bool → Prop} (hf : ¬ Good d → Q false) (ht : Good d → Q true) : spec_l12Good.call d Q := by
  refine spec_l12Good.call_ _ _ (spec_l1In.spec (cnd_of (fun r1 => spec_l1In.spec (cnd_of (fun r2 => spec_l1In.spec (cnd_of (fun r3 => spec_l2Good.spec (cnd_of (fun r4 => ?_) fun r => hf fun g => ?_)) fun r => hf fun g => ?_)) fun r => hf fun g => ?_)) fun r => hf fun g => ?_))
  · have r1' := inR_iff.1 r1
    have r2' := inR_iff.1 (by simpa using r2 : inR d.2.1 1 4 = true)
    have r3' := inR_iff.1 (by simpa using r3 : inR d.2.2.1 0 1000 = true)
    have r4' : jobsB d.2.2.2.1 = true := by simpa using r4
    by_cases hlen : (d.2.2.2.2.length : Int) ≤ 281474976710656
    · refine spec_l12Tasks.call_ _ _ (spec_l12Tasks.loop (Q := fun r5 => Q (cond true r5 false)) r1' r4' r3' hlen (fun n a b h => hf fun g => h (g.tasks n a b)) (fun h => ht ⟨r1', r2', r3', r4', h⟩) d.2.2.2.2.length 0 (by omega) (by omega) fun j a b => absurd b (by omega))
    · exact spec_l12Tasks.call_ _ _ (spec_l12Tasks.at2_ _ _ _ fun hx => absurd hx (by omega))
  · rw [g.jobs] at r; simp at r
  · rw [inR_iff.2 g.now] at r; simp at r
  · rw [inR_iff.2 g.pick] at r; simp at r
  · rw [inR_iff.2 g.mac] at r; simp at r
theorem spec_IsDispatcher.spec {d : D.Dispatcher} {Q : Bool → Prop} (hf : ¬ Good d → Q false) (ht : Good d → Q true) : spec_IsDispatcher.call d Q :=
  spec_IsDispatcher.call_ _ _ (spec_l12Good.spec hf ht)

namespace DM
/-- a dispatcher that is under way -/
structure Semi (d : D.Dispatcher) : Prop where
  mac : 1 ≤ d.1 ∧ d.1 ≤ 4
  pick : 1 ≤ d.2.1 ∧ d.2.1 ≤ 4
  now : 0 ≤ d.2.2.1 ∧ d.2.2.1 ≤ 1000
  jobs : jobsB d.2.2.2.1 = true
  tasks : ∀ t ∈ d.2.2.2.2, (0 ≤ t.1 ∧ t.1 < (d.2.2.2.1.length : Int)) ∧ (0 ≤ t.2.2 ∧ t.2.2 ≤ 1000)
  len : d.2.2.2.2.length ≤ 100000

theorem mem_el {α : Type} {xs : List α} {x dflt : α} : x ∈ xs ↔ ∃ i : Int, 0 ≤ i ∧ i < (xs.length : Int) ∧ x = List.getD xs (Int.toNat i) dflt := by
  constructor
  · intro h
    obtain ⟨i, hi, rfl⟩ := List.getElem_of_mem h
    exact ⟨i, by omega, by omega, by simp [List.getD_eq_getElem?_getD, hi]⟩
  · rintro ⟨i, h0, h1, rfl⟩
    have : i.toNat < xs.length := by omega
    simp [List.getD_eq_getElem?_getD, this]
theorem el_mem {α : Type} {xs : List α} {dflt : α} {i : Int} (h0 : 0 ≤ i) (h1 : i < (xs.length : Int)) : List.getD xs (Int.toNat i) dflt ∈ xs := mem_el.2 ⟨i, h0, h1, rfl⟩
theorem take_el {α : Type} {xs : List α} {dflt : α} {n : Int} (h0 : 0 ≤ n) (h1 : n < (xs.length : Int)) : xs.take (n + 1).toNat = xs.take n.toNat ++ [List.getD xs (Int.toNat n) dflt] := by
  have hn : n.toNat < xs.length := by omega
  have : (n + 1).toNat = n.toNat + 1 := by omega
  rw [this, List.take_add_one]
  simp [List.getD_eq_getElem?_getD, hn]

def hasT (d : D.Dispatcher) (i : Int) : Bool := d.2.2.2.2.any fun t => decide (t.1 = i)
def nums (n : Nat) : List Int := (List.range n).map Int.ofNat
def waitB (d : D.Dispatcher) (i : Int) : Bool := !hasT d i && decide ((jb d.2.2.2.1 i).2.2.1 ≤ d.2.2.1)
def waitM (d : D.Dispatcher) : List Int := (nums d.2.2.2.1.length).filter (waitB d)
theorem nums_len (n : Nat) : (nums n).length = n := by simp [nums]
theorem nums_succ (n : Nat) : nums (n + 1) = nums n ++ [(n : Int)] := by simp [nums, List.range_succ]
end DM

theorem impl_Dispatcher_has.spec {d : D.Dispatcher} {i : Int} {Q : Bool → Prop} (h : Q (hasT d i)) : impl_Dispatcher_has.call d i Q := by
  refine impl_Dispatcher_has.call_ _ _ _ fun hl => ?_
  have loop : ∀ (k : Nat) (n : Int), n + k = (d.2.2.2.2.length : Int) → 0 ≤ n → (∀ j : Int, 0 ≤ j → j < n → (tk d j).1 ≠ i) → impl_Dispatcher_has.at2 d i Q n := by
    intro k
    induction k with
    | zero =>
      intro n hn h0 hall
      refine impl_Dispatcher_has.at2_ _ _ _ _ (cnd_dec (fun h => absurd h (by omega)) fun _ => ?_)
      have : hasT d i = false := by
        simp only [hasT, List.any_eq_false, decide_eq_true_eq]
        intro x hx
        obtain ⟨j, a, b, rfl⟩ := (mem_el (dflt := ((0, (0, 0)) : D.Task))).1 hx
        exact hall j a (by omega)
      rw [this] at h; exact h
    | succ k ih =>
      intro n hn h0 hall
      refine impl_Dispatcher_has.at2_ _ _ _ _ (cnd_dec (fun _ => ⟨by omega, cnd_dec (fun e => ?_) fun e => ⟨by omega, ih (n + 1) (by omega) (by omega) fun j a b => ?_⟩⟩) fun h => absurd (show n < _ by omega) h)
      · have : hasT d i = true := by
          simp only [hasT, List.any_eq_true, decide_eq_true_eq]
          exact ⟨_, el_mem h0 (by omega), e⟩
        rw [this] at h; exact h
      · by_cases e2 : j = n
        · subst e2; exact e
        · exact hall j a (by omega)
  exact loop d.2.2.2.2.length 0 (by omega) (by omega) fun j a b => absurd b (by omega)

theorem spec_l12Task.spec {d : D.Dispatcher} {i : Int} {Q : Bool → Prop} (h : Q (hasT d i)) : spec_l12Task.call d i Q := by
  refine spec_l12Task.call_ _ _ _ ?_
  have loop : ∀ (k : Nat) (n : Int), n + k = (d.2.2.2.2.length : Int) → 0 ≤ n → (∀ j : Int, 0 ≤ j → j < n → (tk d j).1 ≠ i) → spec_l12Task.at2 d i Q n := by
    intro k
    induction k with
    | zero =>
      intro n hn h0 hall
      refine spec_l12Task.at2_ _ _ _ _ fun _ => (cnd_dec (fun h => absurd h (by omega)) fun _ => ?_)
      have : hasT d i = false := by
        simp only [hasT, List.any_eq_false, decide_eq_true_eq]
        intro x hx
        obtain ⟨j, a, b, rfl⟩ := (mem_el (dflt := ((0, (0, 0)) : D.Task))).1 hx
        exact hall j a (by omega)
      rw [this] at h; exact h
    | succ k ih =>
      intro n hn h0 hall
      refine spec_l12Task.at2_ _ _ _ _ fun _ => (cnd_dec (fun _ => ⟨by omega, cnd_dec (fun e => ?_) fun e => ⟨by omega, ih (n + 1) (by omega) (by omega) fun j a b => ?_⟩⟩) fun h => absurd (show n < _ by omega) h)
      · have : hasT d i = true := by
          simp only [hasT, List.any_eq_true, decide_eq_true_eq]
          exact ⟨_, el_mem h0 (by omega), e⟩
        rw [this] at h; exact h
      · by_cases e2 : j = n
        · subst e2; exact e
        · exact hall j a (by omega)
  exact loop d.2.2.2.2.length 0 (by omega) (by omega) fun j a b => absurd b (by omega)

theorem impl_Dispatcher_waiting.spec {d : D.Dispatcher} {Q : List Int → Prop} (hj : jobsB d.2.2.2.1 = true) (h : Q (waitM d)) : impl_Dispatcher_waiting.call d Q := by
  have h8 := jobs_len hj
  refine impl_Dispatcher_waiting.call_ _ _ fun hl => ?_
  have loop : ∀ (k n : Nat), n + k = d.2.2.2.1.length → impl_Dispatcher_waiting.at3 d Q ((nums n).filter (waitB d)) n := by
    intro k
    induction k with
    | zero =>
      intro n hn
      refine impl_Dispatcher_waiting.at3_ _ _ _ _ (cnd_dec (fun h => absurd h (by omega)) fun _ => ?_)
      have : n = d.2.2.2.1.length := by omega
      rw [this]; exact h
    | succ k ih =>
      intro n hn
      have hle : ((nums n).filter (waitB d)).length ≤ 8 := Nat.le_trans (List.length_filter_le _ _) (by rw [nums_len]; omega)
      have nx := ih (n + 1) (by omega)
      rw [nums_succ, List.filter_append] at nx
      refine impl_Dispatcher_waiting.at3_ _ _ _ _ (cnd_dec (fun _ => ⟨by omega, impl_Dispatcher_has.spec (cnd_of (fun r1 => ?_) fun r1 => ?_)⟩) fun h => absurd (show (n : Int) < _ by omega) h)
      · simp only [cond_true]
        refine cnd_dec (fun r2 => ⟨by simp only [List.length_singleton]; omega, by omega, ?_⟩) fun r2 => ⟨by omega, ?_⟩
        · have : waitB d n = true := by simp only [waitB, r1, Bool.true_and]; exact decide_eq_true r2
          simpa [this] using nx
        · have : waitB d n = false := by simp only [waitB, r1, Bool.true_and]; exact decide_eq_false r2
          simpa [this] using nx
      · have : waitB d n = false := by simp only [waitB, r1, Bool.false_and]
        exact ⟨by omega, by simpa [this] using nx⟩
  exact loop d.2.2.2.1.length 0 (by omega)

theorem spec_l12Waiting.spec {d : D.Dispatcher} {Q : List Int → Prop} (hj : jobsB d.2.2.2.1 = true) (h : Q (waitM d)) : spec_l12Waiting.call d Q := by
  have h8 := jobs_len hj
  refine spec_l12Waiting.call_ _ _ ?_
  have loop : ∀ (k n : Nat), n + k = d.2.2.2.1.length → spec_l12Waiting.at3 d Q ((nums n).filter (waitB d)) n := by
    intro k
    induction k with
    | zero =>
      intro n hn
      refine spec_l12Waiting.at3_ _ _ _ _ fun _ => (cnd_dec (fun h => absurd h (by omega)) fun _ => ?_)
      have : n = d.2.2.2.1.length := by omega
      rw [this]; exact h
    | succ k ih =>
      intro n hn
      have hle : ((nums n).filter (waitB d)).length ≤ 8 := Nat.le_trans (List.length_filter_le _ _) (by rw [nums_len]; omega)
      have nx := ih (n + 1) (by omega)
      rw [nums_succ, List.filter_append] at nx
      refine spec_l12Waiting.at3_ _ _ _ _ fun _ => (cnd_dec (fun _ => ⟨by omega, cnd_dec (fun r2 => spec_l12Task.spec (cnd_of (fun r1 => ?_) fun r1 => ?_)) fun r2 => ⟨by omega, ?_⟩⟩) fun h => absurd (show (n : Int) < _ by omega) h)
      · simp only [cond_true] at r1
        have : waitB d n = true := by simp only [waitB, r1, Bool.true_and]; exact decide_eq_true r2
        exact ⟨by simp only [List.length_singleton]; omega, by omega, by simpa [this] using nx⟩
      · simp only [cond_true] at r1
        have : waitB d n = false := by simp only [waitB, r1, Bool.false_and]
        exact ⟨by omega, by simpa [this] using nx⟩
      · have : waitB d n = false := by
          simp only [waitB]; rw [Bool.and_eq_false_iff]; right; exact decide_eq_false r2
        simpa [this] using nx
  exact loop d.2.2.2.1.length 0 (by omega)

end Go.Vm

/- Contracts: running jobs, the next job. Own work. No condition. -/
namespace Go.Vm
open Go.Proofs
set_option linter.unusedVariables false
set_option linter.unusedSimpArgs false
open DM
namespace DM
/-- a task is done on a machine now -/
def onB (d : D.Dispatcher) (m : Int) (t : D.Task) : Bool := decide (t.2.1 = m ∧ t.2.2 ≤ d.2.2.1 ∧ d.2.2.1 < t.2.2 + (jb d.2.2.2.1 t.1).1)
/-- the first such job, -1 if there is none -/
def runM (d : D.Dispatcher) (m : Int) : Int := match d.2.2.2.2.find? (onB d m) with | some t => t.1 | none => -1
/-- the last such job -/
def lastM (d : D.Dispatcher) (m : Int) (ts : List D.Task) : Int := ts.foldl (fun a t => if onB d m t then t.1 else a) (-1)
def aheadM (d : D.Dispatcher) (i j : Int) : Int :=
  if d.2.1 = 2 then (jb d.2.2.2.1 i).1 - (jb d.2.2.2.1 j).1
  else if d.2.1 = 3 then (jb d.2.2.2.1 i).1 * (jb d.2.2.2.1 j).2.1 - (jb d.2.2.2.1 j).1 * (jb d.2.2.2.1 i).2.1
  else if d.2.1 = 4 then (jb d.2.2.2.1 i).2.2.2 - (jb d.2.2.2.1 j).2.2.2
  else i - j
def pickM (d : D.Dispatcher) (b x : Int) : Int := if aheadM d x b < 0 then x else b
def firstM (d : D.Dispatcher) : Int := match waitM d with | [] => -1 | x :: xs => xs.foldl (pickM d) x

theorem take_succ_getD {α : Type} {xs : List α} {dflt : α} {n : Nat} (h : n < xs.length) : xs.take (n + 1) = xs.take n ++ [List.getD xs n dflt] := by
  rw [List.take_add_one]; simp [List.getD_eq_getElem?_getD, h]
theorem mul_bd {a b : Int} (h1 : 0 ≤ a ∧ a ≤ 50) (h2 : 0 ≤ b ∧ b ≤ 50) : 0 ≤ a * b ∧ a * b ≤ 2500 :=
  ⟨Int.mul_nonneg h1.1 h2.1, by have := Int.mul_le_mul h1.2 h2.2 h2.1 (by omega : (0:Int) ≤ 50); omega⟩
theorem waitM_mem {d : D.Dispatcher} {i : Int} (h : i ∈ waitM d) : 0 ≤ i ∧ i < (d.2.2.2.1.length : Int) := by
  simp only [waitM, nums, List.mem_filter, List.mem_map, List.mem_range] at h
  obtain ⟨⟨k, hk, rfl⟩, -⟩ := h
  exact ⟨Int.natCast_nonneg k, by simpa using hk⟩
end DM

theorem spec_l12Running.spec {d : D.Dispatcher} {m : Int} {Q : Int → Prop} (hs : Semi d) (h : Q (runM d m)) : spec_l12Running.call d m Q := by
  have hlen := hs.len
  refine spec_l12Running.call_ _ _ _ ?_
  have loop : ∀ (k n : Nat), n + k = d.2.2.2.2.length → (∀ t ∈ d.2.2.2.2.take n, onB d m t = false) → spec_l12Running.at2 d m Q n := by
    intro k
    induction k with
    | zero =>
      intro n hn hall
      refine spec_l12Running.at2_ _ _ _ _ fun _ => (cnd_dec (fun h => absurd h (by omega)) fun _ => ?_)
      rw [List.take_of_length_le (by omega)] at hall
      have : runM d m = -1 := by
        have h2 : d.2.2.2.2.find? (onB d m) = none := List.find?_eq_none.2 fun t ht => by rw [hall t ht]; simp
        simp only [runM, h2]
      rw [this] at h; exact h
    | succ k ih =>
      intro n hn hall
      have hlt : n < d.2.2.2.2.length := by omega
      have ht := hs.tasks (List.getD d.2.2.2.2 n (0, (0, 0))) (by simp [List.getD_eq_getElem?_getD, hlt])
      have hjb := job_in hs.jobs ht.1.1 ht.1.2
      have nx : onB d m (List.getD d.2.2.2.2 n (0, (0, 0))) = false → spec_l12Running.at2 d m Q ((n : Int) + 1) := fun hb => ih (n + 1) (by omega) fun t htm => by
        rw [take_succ_getD (dflt := ((0, (0, 0)) : D.Task)) hlt, List.mem_append, List.mem_singleton] at htm
        rcases htm with htm | rfl
        · exact hall t htm
        · exact hb
      have e : Int.toNat (n : Int) = n := by omega
      refine spec_l12Running.at2_ _ _ _ _ fun _ => (cnd_dec (fun _ => ⟨by omega, ?_⟩) fun h => absurd (show (n : Int) < _ by omega) h)
      rw [e]
      simp only [cond_true]
      refine cnd_dec (fun e1 => cnd_dec (fun e2 => ⟨ht.1, by simp only [jb] at hjb; omega, cnd_dec (fun e3 => ?_) fun e3 => ⟨by omega, nx ?_⟩⟩) fun e2 => ⟨by omega, nx ?_⟩) fun e1 => ⟨by omega, nx ?_⟩
      · have hb : onB d m (List.getD d.2.2.2.2 n (0, (0, 0))) = true := by simp only [onB, decide_eq_true_eq]; exact ⟨e1, e2, e3⟩
        have : runM d m = (List.getD d.2.2.2.2 n (0, (0, 0))).1 := by
          have h2 : d.2.2.2.2.find? (onB d m) = some (List.getD d.2.2.2.2 n (0, (0, 0))) := by
            have h3 : d.2.2.2.2 = d.2.2.2.2.take n ++ List.getD d.2.2.2.2 n (0, (0, 0)) :: d.2.2.2.2.drop (n + 1) := by
              conv => lhs; rw [← List.take_append_drop n d.2.2.2.2]
              congr 1
              rw [List.drop_eq_getElem_cons hlt]
              congr 1
              simp [List.getD_eq_getElem?_getD, hlt]
            generalize hx : List.getD d.2.2.2.2 n (0, (0, 0)) = x at h3 hb ⊢
            rw [h3, List.find?_append]
            have h4 : (d.2.2.2.2.take n).find? (onB d m) = none := List.find?_eq_none.2 fun t ht => by rw [hall t ht]; simp
            rw [h4]
            simp [hb]
          simp only [runM, h2]
        rw [this] at h; exact h
      · simp only [onB, decide_eq_false_iff_not]; exact fun hx => e3 hx.2.2
      · simp only [onB, decide_eq_false_iff_not]; exact fun hx => e2 hx.2.1
      · simp only [onB, decide_eq_false_iff_not]; exact fun hx => e1 hx.1
  exact loop d.2.2.2.2.length 0 (by omega) (by simp)

theorem impl_Dispatcher_running.spec {d : D.Dispatcher} {Q : List Int → Prop} (hs : Semi d) (h : Q ((nums d.1.toNat).map fun m => lastM d m d.2.2.2.2)) : impl_Dispatcher_running.call d Q := by
  have hlen := hs.len
  have hmac := hs.mac
  refine impl_Dispatcher_running.call_ _ _ ?_
  have outer : ∀ (k n : Nat), n + k = d.1.toNat → impl_Dispatcher_running.at3 d Q ((nums n).map fun m => lastM d m d.2.2.2.2) n := by
    intro k
    induction k with
    | zero =>
      intro n hn
      refine impl_Dispatcher_running.at3_ _ _ _ _ (cnd_dec (fun h => absurd h (by omega)) fun _ => ?_)
      have : n = d.1.toNat := by omega
      rw [this]; exact h
    | succ k ih =>
      intro n hn
      have nx := ih (n + 1) (by omega)
      rw [nums_succ, List.map_append] at nx
      refine impl_Dispatcher_running.at3_ _ _ _ _ (cnd_dec (fun _ _ => ?_) fun h => absurd (show (n : Int) < _ by omega) h)
      have inner : ∀ (k i : Nat), i + k = d.2.2.2.2.length → impl_Dispatcher_running.at7 d Q ((nums n).map fun m => lastM d m d.2.2.2.2) n (lastM d n (d.2.2.2.2.take i)) i := by
        intro k
        induction k with
        | zero =>
          intro i hi
          refine impl_Dispatcher_running.at7_ _ _ _ _ _ _ (cnd_dec (fun h => absurd h (by omega)) fun _ => ⟨by simp [nums]; omega, by omega, ?_⟩)
          rw [List.take_of_length_le (by omega)]
          simpa using nx
        | succ k ih2 =>
          intro i hi
          have hlt : i < d.2.2.2.2.length := by omega
          have ht := hs.tasks (List.getD d.2.2.2.2 i (0, (0, 0))) (by simp [List.getD_eq_getElem?_getD, hlt])
          have nx2 := ih2 (i + 1) (by omega)
          rw [take_succ_getD (dflt := ((0, (0, 0)) : D.Task)) hlt] at nx2
          simp only [lastM, List.foldl_append, List.foldl_cons, List.foldl_nil] at nx2 ⊢
          have e : Int.toNat (i : Int) = i := by omega
          refine impl_Dispatcher_running.at7_ _ _ _ _ _ _ (cnd_dec (fun _ => ⟨by omega, ?_⟩) fun h => absurd (show (i : Int) < _ by omega) h)
          rw [e]
          simp only [cond_true]
          refine cnd_dec (fun e1 => cnd_dec (fun e2 => impl_Dispatcher_endOf.spec ht.1 hs.jobs ht.2 (cnd_dec (fun e3 => ⟨by omega, ?_⟩) fun e3 => ⟨by omega, ?_⟩)) fun e2 => ⟨by omega, ?_⟩) fun e1 => ⟨by omega, ?_⟩
          · rw [if_pos (by simp only [onB, decide_eq_true_eq]; exact ⟨e1, e2, e3⟩)] at nx2; exact nx2
          · rw [if_neg (by simp only [onB, decide_eq_true_eq]; exact fun hx => e3 hx.2.2)] at nx2; exact nx2
          · rw [if_neg (by simp only [onB, decide_eq_true_eq]; exact fun hx => e2 hx.2.1)] at nx2; exact nx2
          · rw [if_neg (by simp only [onB, decide_eq_true_eq]; exact fun hx => e1 hx.1)] at nx2; exact nx2
      exact inner d.2.2.2.2.length 0 (by omega)
  exact outer d.1.toNat 0 (by omega)

theorem impl_Dispatcher_rule.spec {d : D.Dispatcher} {Q : Int → Prop} (h : Q (if d.2.1 = 2 then 2 else if d.2.1 = 3 then 3 else 4)) : impl_Dispatcher_rule.call d Q := by
  refine impl_Dispatcher_rule.call_ _ _ (cnd_dec (fun e => ?_) fun e => cnd_dec (fun e2 => ?_) fun e2 => ?_)
  · rw [if_pos e] at h; exact h
  · rw [if_neg e, if_pos e2] at h; exact h
  · rw [if_neg e, if_neg e2] at h; exact h

theorem spec_l3Gap.spec {jobs : List D.Job} {o i j : Int} {Q : Int → Prop} (hj : jobsB jobs = true) (hi : 0 ≤ i ∧ i < (jobs.length : Int)) (hk : 0 ≤ j ∧ j < (jobs.length : Int))
    (h : Q (if o = 1 then (jb jobs i).2.2.1 - (jb jobs j).2.2.1 else if o = 2 then (jb jobs i).1 - (jb jobs j).1 else if o = 3 then (jb jobs i).1 * (jb jobs j).2.1 - (jb jobs j).1 * (jb jobs i).2.1 else (jb jobs i).2.2.2 - (jb jobs j).2.2.2)) :
    spec_l3Gap.call jobs o i j Q := by
  have a := job_in hj hi.1 hi.2
  have b := job_in hj hk.1 hk.2
  have m1 := mul_bd (show 0 ≤ (jb jobs i).1 ∧ (jb jobs i).1 ≤ 50 by omega) b.2.1
  have m2 := mul_bd (show 0 ≤ (jb jobs j).1 ∧ (jb jobs j).1 ≤ 50 by omega) a.2.1
  simp only [jb] at a b m1 m2
  refine spec_l3Gap.call_ _ _ _ _ _ ⟨hi, hk, cnd_dec (fun e => ⟨by omega, ?_⟩) fun e => cnd_dec (fun e2 => ⟨by omega, ?_⟩) fun e2 => cnd_dec (fun e3 => ⟨by omega, by omega, by omega, ?_⟩) fun e3 => ⟨by omega, ?_⟩⟩
  · rw [if_pos e] at h; exact h
  · rw [if_neg e, if_pos e2] at h; exact h
  · rw [if_neg e, if_neg e2, if_pos e3] at h; exact h
  · rw [if_neg e, if_neg e2, if_neg e3] at h; exact h

theorem impl_difference.spec {jobs : List D.Job} {o i j : Int} {Q : Int → Prop} (hj : jobsB jobs = true) (hi : 0 ≤ i ∧ i < (jobs.length : Int)) (hk : 0 ≤ j ∧ j < (jobs.length : Int))
    (h : Q (if o = 1 then (jb jobs i).2.2.1 - (jb jobs j).2.2.1 else if o = 2 then (jb jobs i).1 - (jb jobs j).1 else if o = 3 then (jb jobs i).1 * (jb jobs j).2.1 - (jb jobs j).1 * (jb jobs i).2.1 else (jb jobs i).2.2.2 - (jb jobs j).2.2.2)) :
    impl_difference.call (jb jobs i) (jb jobs j) o Q := by
  have a := job_in hj hi.1 hi.2
  have b := job_in hj hk.1 hk.2
  have m1 := mul_bd (show 0 ≤ (jb jobs i).1 ∧ (jb jobs i).1 ≤ 50 by omega) b.2.1
  have m2 := mul_bd (show 0 ≤ (jb jobs j).1 ∧ (jb jobs j).1 ≤ 50 by omega) a.2.1
  refine impl_difference.call_ _ _ _ _ (cnd_dec (fun e => ⟨by omega, ?_⟩) fun e => cnd_dec (fun e2 => ⟨by omega, ?_⟩) fun e2 => cnd_dec (fun e3 => ⟨by omega, by omega, by omega, ?_⟩) fun e3 => ⟨by omega, ?_⟩)
  · rw [if_pos e] at h; exact h
  · rw [if_neg e, if_pos e2] at h; exact h
  · rw [if_neg e, if_neg e2, if_pos e3] at h; exact h
  · rw [if_neg e, if_neg e2, if_neg e3] at h; exact h

theorem spec_l12Ahead.spec {d : D.Dispatcher} {i j : Int} {Q : Int → Prop} (hj : jobsB d.2.2.2.1 = true) (hi : 0 ≤ i ∧ i < (d.2.2.2.1.length : Int)) (hk : 0 ≤ j ∧ j < (d.2.2.2.1.length : Int)) (h : Q (aheadM d i j)) : spec_l12Ahead.call d i j Q := by
  have h8 := jobs_len hj
  unfold aheadM at h
  refine spec_l12Ahead.call_ _ _ _ _ (cnd_dec (fun e => spec_l3Gap.spec hj hi hk ?_) fun e => cnd_dec (fun e2 => spec_l3Gap.spec hj hi hk ?_) fun e2 => cnd_dec (fun e3 => spec_l3Gap.spec hj hi hk ?_) fun e3 => ⟨by omega, ?_⟩)
  · rw [if_pos e] at h; simpa using h
  · rw [if_neg e, if_pos e2] at h; simpa using h
  · rw [if_neg e, if_neg e2, if_pos e3] at h; simpa using h
  · rw [if_neg e, if_neg e2, if_neg e3] at h; exact h

theorem spec_l12First.spec {d : D.Dispatcher} {Q : Int → Prop} (hj : jobsB d.2.2.2.1 = true) (h : Q (firstM d)) : spec_l12First.call d Q := by
  have h8 := jobs_len hj
  refine spec_l12First.call_ _ _ (spec_l12Waiting.spec hj fun hl => ?_)
  cases hw : waitM d with
  | nil =>
    refine cnd_dec (fun _ => ?_) fun h => absurd (by simp) h
    have : firstM d = -1 := by simp only [firstM, hw]
    rw [this] at h; exact h
  | cons x xs =>
    refine cnd_dec (fun e => absurd e (by simp only [List.length_cons]; omega)) fun _ => ⟨by simp only [List.length_cons]; omega, ?_⟩
    have hin : ∀ y ∈ x :: xs, 0 ≤ y ∧ y < (d.2.2.2.1.length : Int) := fun y hy => waitM_mem (by rw [hw]; exact hy)
    rw [hw] at hl
    have hfold : firstM d = xs.foldl (pickM d) x := by simp only [firstM, hw]
    have loop : ∀ (k n : Nat), n + k = xs.length → (0 ≤ (xs.take n).foldl (pickM d) x ∧ (xs.take n).foldl (pickM d) x < (d.2.2.2.1.length : Int)) → spec_l12First.at6 d Q (x :: xs) ((xs.take n).foldl (pickM d) x) ((n : Int) + 1) := by
      intro k
      induction k with
      | zero =>
        intro n hn hb
        refine spec_l12First.at6_ _ _ _ _ _ fun _ => (cnd_dec (fun h => absurd h (by simp only [List.length_cons]; omega)) fun _ => ?_)
        rw [List.take_of_length_le (by omega), ← hfold]; exact h
      | succ k ih =>
        intro n hn hb
        have hlt : n < xs.length := by omega
        have e : List.getD (x :: xs) (0 + Int.toNat ((n : Int) + 1)) 0 = List.getD xs n 0 := by
          have : 0 + Int.toNat ((n : Int) + 1) = n + 1 := by omega
          rw [this]; rfl
        have hy := hin (List.getD xs n 0) (by simp [List.getD_eq_getElem?_getD, hlt])
        have nx := ih (n + 1) (by omega)
        rw [take_succ_getD (dflt := (0 : Int)) hlt, List.foldl_append] at nx
        simp only [List.foldl_cons, List.foldl_nil, pickM] at nx
        have c : (((n + 1 : Nat) : Int) + 1) = (n : Int) + 1 + 1 := by omega
        rw [c] at nx
        refine spec_l12First.at6_ _ _ _ _ _ fun _ => (cnd_dec (fun _ => ⟨by omega, ?_⟩) fun h => absurd (by simp only [List.length_cons]; omega) h)
        rw [e]
        refine spec_l12Ahead.spec hj hy hb (cnd_dec (fun e1 => ⟨by simp only [List.length_cons]; omega, by simp only [List.length_cons] at hl; omega, ?_⟩) fun e1 => ⟨by simp only [List.length_cons] at hl; omega, ?_⟩)
        · rw [if_pos e1] at nx; exact nx hy
        · rw [if_neg e1] at nx; exact nx hb
    have hx := hin x (by simp)
    have := loop xs.length 0 (by omega) (by simpa using hx)
    simpa using this

end Go.Vm

/- Contracts: a time step. Own work. No condition. -/
namespace Go.Vm
open Go.Proofs
set_option linter.unusedVariables false
set_option linter.unusedSimpArgs false
open DM
namespace DM
theorem nums_pairwise (n : Nat) : (nums n).Pairwise (· < ·) := by
  unfold nums
  rw [List.pairwise_map]
  exact (List.pairwise_lt_range (n := n)).imp fun h => by simp only [Int.ofNat_eq_natCast]; omega
theorem waitM_pairwise (d : D.Dispatcher) : (waitM d).Pairwise (· < ·) := (nums_pairwise _).filter _
theorem pickM_lt {d : D.Dispatcher} {b x : Int} (h : aheadM d x b < 0) : pickM d b x = x := if_pos h
theorem pickM_ge {d : D.Dispatcher} {b x : Int} (h : ¬ aheadM d x b < 0) : pickM d b x = b := if_neg h
/-- with PickNumber the first waiting job is the next one -/
theorem fold_first {d : D.Dispatcher} (h : d.2.1 = 1) {x : Int} : ∀ {xs : List Int}, (∀ y ∈ xs, x < y) → xs.foldl (pickM d) x = x
  | [], _ => rfl
  | y :: ys, hx => by
    have : pickM d x y = x := by
      have h1 : aheadM d y x = y - x := by unfold aheadM; simp [h]
      have := hx y (by simp)
      unfold pickM
      rw [h1, if_neg (by omega)]
    simp only [List.foldl_cons, this]
    exact fold_first h fun z hz => hx z (by simp [hz])

def pushT (d : D.Dispatcher) (i m : Int) : D.Dispatcher := (d.1, d.2.1, d.2.2.1, d.2.2.2.1, d.2.2.2.2 ++ [(i, m, d.2.2.1)])
/-- what a machine gets; d0: the dispatcher at the step's begin -/
def giveM (d0 : D.Dispatcher) (o : D.Dispatcher) (m : Int) : D.Dispatcher := if runM d0 m < 0 ∧ 0 ≤ firstM o then pushT o (firstM o) m else o
def givesM (d0 : D.Dispatcher) (o : D.Dispatcher) (ms : List Int) : D.Dispatcher := ms.foldl (giveM d0) o
def tickM (o : D.Dispatcher) : D.Dispatcher := (o.1, o.2.1, o.2.2.1 + 1, o.2.2.2)
def stepM (d : D.Dispatcher) : D.Dispatcher := tickM (givesM d d (nums d.1.toNat))
theorem giveM_same (d0 o : D.Dispatcher) (m : Int) : (giveM d0 o m).1 = o.1 ∧ (giveM d0 o m).2.1 = o.2.1 ∧ (giveM d0 o m).2.2.1 = o.2.2.1 ∧ (giveM d0 o m).2.2.2.1 = o.2.2.2.1 := by
  unfold giveM; split <;> exact ⟨rfl, rfl, rfl, rfl⟩
theorem firstM_in {d : D.Dispatcher} (h : 0 ≤ firstM d) : firstM d ∈ waitM d := by
  unfold firstM at h ⊢
  cases hw : waitM d with
  | nil => rw [hw] at h; simp at h
  | cons x xs =>
    simp only
    have : ∀ (ys : List Int) (b : Int), ys.foldl (pickM d) b = b ∨ ys.foldl (pickM d) b ∈ ys := by
      intro ys
      induction ys with
      | nil => intro b; exact .inl rfl
      | cons y ys ih =>
        intro b
        simp only [List.foldl_cons]
        rcases ih (pickM d b y) with h1 | h1
        · rw [h1]
          unfold pickM
          split
          · exact .inr (by simp)
          · exact .inl rfl
        · exact .inr (by simp [h1])
    rcases this xs x with h1 | h1
    · rw [h1]; simp
    · simp [h1]
theorem giveM_semi {d0 o : D.Dispatcher} {m : Int} (h : Semi o) (hl : o.2.2.2.2.length < 100000) : Semi (giveM d0 o m) := by
  unfold giveM
  split
  · rename_i hc
    have hf := waitM_mem (firstM_in hc.2)
    have hn := h.now
    refine ⟨h.mac, h.pick, h.now, h.jobs, fun t ht => ?_, by simp [pushT]; omega⟩
    simp only [pushT, List.mem_append, List.mem_singleton] at ht
    rcases ht with ht | rfl
    · exact h.tasks t ht
    · exact ⟨hf, hn⟩
  · exact h
theorem giveM_len (d0 o : D.Dispatcher) (m : Int) : (giveM d0 o m).2.2.2.2.length ≤ o.2.2.2.2.length + 1 := by
  unfold giveM; split
  · simp [pushT]
  · omega
theorem givesM_semi {d0 : D.Dispatcher} : ∀ (ms : List Int) {o : D.Dispatcher}, Semi o → o.2.2.2.2.length + ms.length ≤ 100000 → Semi (givesM d0 o ms) ∧ (givesM d0 o ms).2.2.2.2.length ≤ o.2.2.2.2.length + ms.length
  | [], o, h, _ => ⟨h, by simp [givesM]⟩
  | m :: ms, o, h, hl => by
    simp only [List.length_cons] at hl
    have h1 := giveM_len d0 o m
    have := givesM_semi (d0 := d0) ms (giveM_semi (d0 := d0) (m := m) h (by omega)) (by omega)
    refine ⟨this.1, ?_⟩
    have h2 := this.2
    simp only [List.length_cons]
    show (givesM d0 (giveM d0 o m) ms).2.2.2.2.length ≤ _
    omega
/-- giving to other machines doesn't change what a machine does -/
theorem runM_push {d : D.Dispatcher} {i m m' : Int} (h : m' ≠ m) : runM (pushT d i m') m = runM d m := by
  have e : ∀ t, onB (pushT d i m') m t = onB d m t := fun t => rfl
  have e2 : onB (pushT d i m') m = onB d m := funext e
  unfold runM
  rw [e2]
  simp only [pushT, List.find?_append]
  have : [((i, m', d.2.2.1) : D.Task)].find? (onB d m) = none := by
    simp only [List.find?_cons, List.find?_nil, onB]
    rw [decide_eq_false (fun hx => h hx.1)]
  rw [this]; simp
theorem runM_gives {d0 : D.Dispatcher} {m : Int} : ∀ (ms : List Int) (o : D.Dispatcher), (∀ m' ∈ ms, m' ≠ m) → runM (givesM d0 o ms) m = runM o m
  | [], _, _ => rfl
  | m' :: ms, o, h => by
    show runM (givesM d0 (giveM d0 o m') ms) m = _
    rw [runM_gives ms _ (fun x hx => h x (by simp [hx]))]
    unfold giveM
    split
    · exact runM_push (h m' (by simp))
    · rfl
theorem givesM_same {d0 : D.Dispatcher} : ∀ (ms : List Int) (o : D.Dispatcher), (givesM d0 o ms).1 = o.1 ∧ (givesM d0 o ms).2.1 = o.2.1 ∧ (givesM d0 o ms).2.2.1 = o.2.2.1 ∧ (givesM d0 o ms).2.2.2.1 = o.2.2.2.1
  | [], _ => ⟨rfl, rfl, rfl, rfl⟩
  | m :: ms, o => by
    have h1 := giveM_same d0 o m
    have h2 := givesM_same (d0 := d0) ms (giveM d0 o m)
    exact ⟨h2.1.trans h1.1, h2.2.1.trans h1.2.1, h2.2.2.1.trans h1.2.2.1, h2.2.2.2.trans h1.2.2.2⟩
end DM

theorem impl_Dispatcher_own.spec {d : D.Dispatcher} {Q : D.Dispatcher → Prop} (h1 : d.2.2.2.1.length ≤ 4294967296) (h2 : d.2.2.2.2.length ≤ 4294967296) (h : Q d) : impl_Dispatcher_own.call d Q :=
  impl_Dispatcher_own.call_ _ _ ⟨by simpa using h1, by simpa using h2, by simpa using h⟩
theorem spec_l12Own.spec {d : D.Dispatcher} {Q : D.Dispatcher → Prop} (h1 : d.2.2.2.1.length ≤ 4294967296) (h2 : d.2.2.2.2.length ≤ 4294967296) (h : Q d) : spec_l12Own.call d Q :=
  spec_l12Own.call_ _ _ ⟨by simpa using h1, by simpa using h2, by simpa using h⟩

theorem impl_Dispatcher_picked.spec {d : D.Dispatcher} {Q : Int → Prop} (hp : 1 ≤ d.2.1 ∧ d.2.1 ≤ 4) (hj : jobsB d.2.2.2.1 = true) (h : Q (firstM d)) : impl_Dispatcher_picked.call d Q := by
  have h8 := jobs_len hj
  refine impl_Dispatcher_picked.call_ _ _ (impl_Dispatcher_waiting.spec hj fun hl => ?_)
  cases hw : waitM d with
  | nil =>
    refine impl_Dispatcher_picked.at3_ _ _ _ _ _ _ (cnd_dec (fun h => absurd h (by simp)) fun _ => ?_)
    have : firstM d = -1 := by simp only [firstM, hw]
    rw [this] at h; exact h
  | cons x xs =>
    have hin : ∀ y ∈ x :: xs, 0 ≤ y ∧ y < (d.2.2.2.1.length : Int) := fun y hy => waitM_mem (by rw [hw]; exact hy)
    have hx := hin x (by simp)
    rw [hw] at hl
    simp only [List.length_cons] at hl
    have hfold : firstM d = xs.foldl (pickM d) x := by simp only [firstM, hw]
    have hpw := waitM_pairwise d
    rw [hw, List.pairwise_cons] at hpw
    refine impl_Dispatcher_picked.at3_ _ _ _ _ _ _ (cnd_dec (fun _ => ⟨by simp only [List.length_cons]; omega, cnd_dec (fun _ => ⟨by omega, ?_⟩) fun h => absurd (by omega) h⟩) fun h => absurd (by simp only [List.length_cons]; omega) h)
    have loop : ∀ (k n : Nat), n + k = xs.length → (0 ≤ (xs.take n).foldl (pickM d) x ∧ (xs.take n).foldl (pickM d) x < (d.2.2.2.1.length : Int)) → impl_Dispatcher_picked.at3 d Q ((xs.take n).foldl (pickM d) x) (x :: xs) (((x :: xs).length : Nat) : Int) ((n : Int) + 1) := by
      intro k
      induction k with
      | zero =>
        intro n hn hb
        refine impl_Dispatcher_picked.at3_ _ _ _ _ _ _ (cnd_dec (fun h => absurd h (by simp only [List.length_cons]; omega)) fun _ => ?_)
        rw [List.take_of_length_le (by omega), ← hfold]; exact h
      | succ k ih =>
        intro n hn hb
        have hlt : n < xs.length := by omega
        have e : List.getD (x :: xs) (0 + Int.toNat ((n : Int) + 1)) 0 = List.getD xs n 0 := by
          have : 0 + Int.toNat ((n : Int) + 1) = n + 1 := by omega
          rw [this]; rfl
        have hym : List.getD xs n 0 ∈ xs := by simp [List.getD_eq_getElem?_getD, hlt]
        have hy := hin (List.getD xs n 0) (List.mem_cons_of_mem _ hym)
        have nx := ih (n + 1) (by omega)
        rw [take_succ_getD (dflt := (0 : Int)) hlt, List.foldl_append] at nx
        simp only [List.foldl_cons, List.foldl_nil] at nx
        have c : (((n + 1 : Nat) : Int) + 1) = (n : Int) + 1 + 1 := by omega
        rw [c] at nx
        refine impl_Dispatcher_picked.at3_ _ _ _ _ _ _ (cnd_dec (fun _ => ⟨by simp only [List.length_cons]; omega, ?_⟩) fun h => absurd (by simp only [List.length_cons]; omega) h)
        rw [e]
        refine cnd_dec (fun hneg => absurd hneg (by omega)) fun _ => cnd_dec (fun p1 => ⟨hy, hb, impl_Dispatcher_rule.spec (impl_difference.spec (jobs := d.2.2.2.1) hj hy hb ?_)⟩) fun p1 => ?_
        · simp only [cond_true, cond_false]
          have ha : (if (if d.2.1 = 2 then 2 else if d.2.1 = 3 then 3 else 4 : Int) = 1 then (jb d.2.2.2.1 (List.getD xs n 0)).2.2.1 - (jb d.2.2.2.1 ((xs.take n).foldl (pickM d) x)).2.2.1
              else if (if d.2.1 = 2 then 2 else if d.2.1 = 3 then 3 else 4 : Int) = 2 then (jb d.2.2.2.1 (List.getD xs n 0)).1 - (jb d.2.2.2.1 ((xs.take n).foldl (pickM d) x)).1
              else if (if d.2.1 = 2 then 2 else if d.2.1 = 3 then 3 else 4 : Int) = 3 then (jb d.2.2.2.1 (List.getD xs n 0)).1 * (jb d.2.2.2.1 ((xs.take n).foldl (pickM d) x)).2.1 - (jb d.2.2.2.1 ((xs.take n).foldl (pickM d) x)).1 * (jb d.2.2.2.1 (List.getD xs n 0)).2.1
              else (jb d.2.2.2.1 (List.getD xs n 0)).2.2.2 - (jb d.2.2.2.1 ((xs.take n).foldl (pickM d) x)).2.2.2) = aheadM d (List.getD xs n 0) ((xs.take n).foldl (pickM d) x) := by
            unfold aheadM
            by_cases a2 : d.2.1 = 2
            · simp [a2]
            · by_cases a3 : d.2.1 = 3
              · simp [a3]
              · have a4 : d.2.1 = 4 := by omega
                simp [a4]
          rw [ha]
          refine cnd_dec (fun e1 => ⟨by omega, ?_⟩) fun e1 => ⟨by omega, ?_⟩
          · rw [pickM_lt e1] at nx; exact nx hy
          · rw [pickM_ge e1] at nx; exact nx hb
        · simp only [cond_true, cond_false, cnd_f]
          have h1 : d.2.1 = 1 := by omega
          have hfx : (xs.take n).foldl (pickM d) x = x := fold_first h1 fun y hy => hpw.1 y (List.mem_of_mem_take hy)
          have : pickM d ((xs.take n).foldl (pickM d) x) (List.getD xs n 0) = (xs.take n).foldl (pickM d) x := by
            rw [hfx]
            have := fold_first h1 (x := x) (xs := [List.getD xs n 0]) fun y hy => by
              simp only [List.mem_singleton] at hy
              subst hy; exact hpw.1 _ hym
            simpa using this
          rw [this] at nx
          exact ⟨by omega, nx hb⟩
    have := loop xs.length 0 (by omega) (by simpa using hx)
    simpa using this

theorem spec_l12Step.spec {d : D.Dispatcher} {Q : D.Dispatcher → Prop} (hs : Semi d) (hl : d.2.2.2.2.length ≤ 99990) (h : Q (stepM d)) : spec_l12Step.call d Q := by
  have h8 := jobs_len hs.jobs
  have hmac := hs.mac
  refine spec_l12Step.call_ _ _ (spec_l12Own.spec (by omega) (by omega) ?_)
  have loop : ∀ (k n : Nat), n + k = d.1.toNat → spec_l12Step.at3 d Q (givesM d d (nums n)) n := by
    intro k
    induction k with
    | zero =>
      intro n hn
      have hsm := givesM_same (d0 := d) (nums n) d
      have hnw := hs.now
      refine spec_l12Step.at3_ _ _ _ _ (cnd_dec (fun h => absurd h (by omega)) fun _ => ⟨by rw [hsm.2.2.1]; omega, ?_⟩)
      have : n = d.1.toNat := by omega
      subst this
      exact h
    | succ k ih =>
      intro n hn
      have nx := ih (n + 1) (by omega)
      have hse := givesM_semi (d0 := d) (nums n) hs (by rw [nums_len]; omega)
      rw [nums_len] at hse
      have hsm := givesM_same (d0 := d) (nums n) d
      have hrun : runM (givesM d d (nums n)) n = runM d n := runM_gives _ _ fun m' hm' => by
        simp only [nums, List.mem_map, List.mem_range] at hm'
        obtain ⟨i, hi, rfl⟩ := hm'
        simp only [Int.ofNat_eq_natCast]; omega
      rw [nums_succ] at nx
      simp only [givesM, List.foldl_append, List.foldl_cons, List.foldl_nil] at nx
      change spec_l12Step.at3 d Q (giveM d (givesM d d (nums n)) n) _ at nx
      generalize givesM d d (nums n) = o at nx hse hsm hrun ⊢
      refine spec_l12Step.at3_ _ _ _ _ (cnd_dec (fun _ => spec_l12First.spec hse.1.jobs (spec_l12Running.spec hse.1 ?_)) fun h => absurd (show (n : Int) < _ by omega) h)
      rw [hrun]
      unfold giveM at nx
      refine cnd_dec (fun e1 => ?_) fun e1 => ⟨by omega, ?_⟩
      · simp only [cond_true]
        refine cnd_dec (fun e2 => ⟨by simp only [List.length_singleton]; omega, by omega, ?_⟩) fun e2 => ⟨by omega, ?_⟩
        · rw [if_pos ⟨e1, e2⟩] at nx; exact nx
        · rw [if_neg fun hx => e2 hx.2] at nx; exact nx
      · rw [if_neg fun hx => e1 hx.1] at nx; exact nx
  exact loop d.1.toNat 0 (by omega)

/-- what is the last job is the first one, on a valid dispatcher -/
theorem last_run {d : D.Dispatcher} (g : Good d) (m : Int) : lastM d m d.2.2.2.2 = runM d m := by
  have uniq : ∀ i j : Int, 0 ≤ i → i < (d.2.2.2.2.length : Int) → 0 ≤ j → j < (d.2.2.2.2.length : Int) → onB d m (tk d i) = true → onB d m (tk d j) = true → i = j := by
    have key : ∀ i j : Int, 0 ≤ i → i < j → j < (d.2.2.2.2.length : Int) → onB d m (tk d i) = true → onB d m (tk d j) = true → False := by
      intro i j hi hij hj h1 h2
      have t := (g.tasks j (by omega) hj).oth i hi hij
      simp only [onB, decide_eq_true_eq] at h1 h2
      have := t.2 (by rw [h1.1, h2.1])
      omega
    intro i j hi hi' hj hj' h1 h2
    rcases Int.lt_trichotomy i j with h | h | h
    · exact (key i j hi h hj' h1 h2).elim
    · exact h
    · exact (key j i hj h hi' h2 h1).elim
  have main : ∀ (n : Nat), n ≤ d.2.2.2.2.length → lastM d m (d.2.2.2.2.take n) = match (d.2.2.2.2.take n).find? (onB d m) with | some t => t.1 | none => -1 := by
    intro n
    induction n with
    | zero => intro _; simp [lastM]
    | succ n ih =>
      intro hn
      have hlt : n < d.2.2.2.2.length := by omega
      have ih := ih (by omega)
      rw [take_succ_getD (dflt := ((0, (0, 0)) : D.Task)) hlt, List.find?_append]
      unfold lastM at ih ⊢
      rw [List.foldl_append, ih]
      simp only [List.foldl_cons, List.foldl_nil]
      cases hf : (d.2.2.2.2.take n).find? (onB d m) with
      | none =>
        simp only [Option.none_or, List.find?_cons, List.find?_nil]
        cases hb : onB d m (List.getD d.2.2.2.2 n (0, (0, 0))) <;> simp
      | some t =>
        simp only [Option.some_or]
        rw [if_neg]
        intro hb
        have h1 := List.find?_some hf
        have h2 := List.mem_of_find?_eq_some hf
        obtain ⟨i, hi, rfl⟩ := List.getElem_of_mem h2
        simp only [List.length_take] at hi
        simp only [List.getElem_take] at h1
        have e := uniq i n (by omega) (by omega) (by omega) (by omega) (by simpa [tk, List.getD_eq_getElem?_getD, show i < d.2.2.2.2.length by omega] using h1) (by simpa [tk] using hb)
        omega
  have := main d.2.2.2.2.length (Nat.le_refl _)
  rw [List.take_length] at this
  rw [this]; rfl

theorem impl_Dispatcher_step.spec {d : D.Dispatcher} {Q : D.Dispatcher → Prop} (g : Good d) (hs : Semi d) (hl : d.2.2.2.2.length ≤ 99990) (h : Q (stepM d)) : impl_Dispatcher_step.call d Q := by
  have h8 := jobs_len hs.jobs
  have hmac := hs.mac
  refine impl_Dispatcher_step.call_ _ _ (impl_Dispatcher_running.spec hs fun _ => ?_)
  have hr : ((nums d.1.toNat).map fun m => lastM d m d.2.2.2.2) = (nums d.1.toNat).map (runM d) := List.map_congr_left fun m _ => last_run g m
  rw [hr]
  have hlen : ((nums d.1.toNat).map (runM d)).length = d.1.toNat := by simp [nums]
  have loop : ∀ (k n : Nat), n + k = d.1.toNat → impl_Dispatcher_step.at2 d Q (givesM d d (nums n)) ((nums d.1.toNat).map (runM d)) ((((nums d.1.toNat).map (runM d)).length : Nat) : Int) n := by
    intro k
    induction k with
    | zero =>
      intro n hn
      have hsm := givesM_same (d0 := d) (nums n) d
      have hnw := hs.now
      refine impl_Dispatcher_step.at2_ _ _ _ _ _ _ (cnd_dec (fun h => absurd h (by rw [hlen]; omega)) fun _ => ⟨by rw [hsm.2.2.1]; omega, ?_⟩)
      have : n = d.1.toNat := by omega
      subst this
      exact h
    | succ k ih =>
      intro n hn
      have nx := ih (n + 1) (by omega)
      have hse := givesM_semi (d0 := d) (nums n) hs (by rw [nums_len]; omega)
      rw [nums_len] at hse
      have hel : List.getD ((nums d.1.toNat).map (runM d)) (0 + Int.toNat (n : Int)) 0 = runM d n := by
        have : 0 + Int.toNat (n : Int) = n := by omega
        rw [this]
        simp [nums, List.getD_eq_getElem?_getD, show n < d.1.toNat by omega]
      rw [nums_succ] at nx
      simp only [givesM, List.foldl_append, List.foldl_cons, List.foldl_nil] at nx
      change impl_Dispatcher_step.at2 d Q (giveM d (givesM d d (nums n)) n) _ _ _ at nx
      generalize givesM d d (nums n) = o at nx hse ⊢
      refine impl_Dispatcher_step.at2_ _ _ _ _ _ _ (cnd_dec (fun _ => ⟨by rw [hlen]; omega, ?_⟩) fun h => absurd (show (n : Int) < _ by rw [hlen]; omega) h)
      rw [hel]
      unfold giveM at nx
      refine cnd_dec (fun e1 => ⟨by omega, ?_⟩) fun e1 => impl_Dispatcher_picked.spec hse.1.pick hse.1.jobs (cnd_dec (fun e2 => ⟨by simp only [List.length_singleton]; omega, by omega, ?_⟩) fun e2 => ⟨by omega, ?_⟩)
      · rw [if_neg fun hx => by omega] at nx; exact nx
      · rw [if_pos ⟨by omega, e2⟩] at nx; exact nx
      · rw [if_neg fun hx => e2 hx.2] at nx; exact nx
  exact loop d.1.toNat 0 (by omega)

end Go.Vm

/- A time step keeps a dispatcher valid; running. Own work. No condition. -/
namespace Go.Vm
open Go.Proofs
set_option linter.unusedVariables false
set_option linter.unusedSimpArgs false
open DM
namespace DM
theorem nodup_len : ∀ (n : Nat) (l : List Nat), l.Nodup → (∀ x ∈ l, x < n) → l.length ≤ n := by
  intro n
  induction n with
  | zero =>
    intro l _ h
    cases l with
    | nil => simp
    | cons x l => exact absurd (h x (by simp)) (by omega)
  | succ n ih =>
    intro l hnd h
    by_cases hn : n ∈ l
    · obtain ⟨l1, l2, rfl⟩ := List.append_of_mem hn
      have h1 := nodup_mid' hnd
      rw [List.nodup_cons] at h1
      have := ih (l1 ++ l2) h1.2 fun x hx => by
        have h2 := h x (by simp at hx ⊢; rcases hx with hx | hx <;> simp [hx])
        have : x ≠ n := fun e => h1.1 (e ▸ hx)
        omega
      simp at this ⊢; omega
    · have := ih l hnd fun x hx => by
        have h2 := h x hx
        have : x ≠ n := fun e => hn (e ▸ hx)
        omega
      omega

theorem good_len {d : D.Dispatcher} (g : Good d) : d.2.2.2.2.length ≤ d.2.2.2.1.length := by
  have hnd : (d.2.2.2.2.map fun t => t.1.toNat).Nodup := by
    rw [List.nodup_iff_pairwise_ne, List.pairwise_map, List.pairwise_iff_getElem]
    intro i j hi hj hij e
    have t1 := g.tasks i (by omega) (by omega)
    have t2 := g.tasks j (by omega) (by omega)
    have h1 := (t2.oth i (by omega) (by omega)).1
    have h2 := t1.job
    have h3 := t2.job
    simp only [tk, List.getD_eq_getElem?_getD, Int.toNat_natCast, hi, hj, List.getElem?_eq_getElem, Option.getD_some] at h1 h2 h3
    omega
  have := nodup_len d.2.2.2.1.length _ hnd fun x hx => by
    obtain ⟨t, ht, rfl⟩ := List.mem_map.1 hx
    obtain ⟨i, h0, h1, rfl⟩ := (mem_el (dflt := ((0, (0, 0)) : D.Task))).1 ht
    have := (g.tasks i h0 h1).job
    simp only [tk] at this
    omega
  simpa using this

theorem good_semi {d : D.Dispatcher} (g : Good d) : Semi d ∧ d.2.2.2.2.length ≤ 8 := by
  have h1 := good_len g
  have h2 := jobs_len g.jobs
  have hn := g.now
  refine ⟨⟨g.mac, g.pick, g.now, g.jobs, fun t ht => ?_, by omega⟩, by omega⟩
  obtain ⟨i, h0, h1, rfl⟩ := (mem_el (dflt := ((0, (0, 0)) : D.Task))).1 ht
  have ti := g.tasks i h0 h1
  have hj := ti.job
  have hs := ti.sta
  have := job_in g.jobs hj.1 hj.2
  simp only [tk, jb] at hj hs this
  exact ⟨hj, by omega⟩

theorem tk_push {d : D.Dispatcher} {i m j : Int} (h0 : 0 ≤ j) (h1 : j < (d.2.2.2.2.length : Int)) : tk (pushT d i m) j = tk d j := by
  have : j.toNat < d.2.2.2.2.length := by omega
  simp only [tk, pushT, List.getD_eq_getElem?_getD]
  rw [List.getElem?_append_left this]
theorem tk_new {d : D.Dispatcher} {i m : Int} : tk (pushT d i m) (d.2.2.2.2.length : Int) = (i, m, d.2.2.1) := by
  simp [tk, pushT, List.getD_eq_getElem?_getD]

/-- the dispatcher under way, with k machines looked at -/
structure Way (d o : D.Dispatcher) (k : Int) : Prop where
  good : Good (tickM o)
  late : ∀ t ∈ o.2.2.2.2, t.2.2 < o.2.2.1 ∨ (t.2.2 = o.2.2.1 ∧ t.2.1 < k)
  mac : o.1 = d.1
  run : ∀ m, k ≤ m → runM o m = runM d m

theorem way_give {d o : D.Dispatcher} {k : Int} (w : Way d o k) (h0 : 0 ≤ k) (hk : k < d.1) : Way d (giveM d o k) (k + 1) := by
  unfold giveM
  split
  · rename_i hc
    have hf := firstM_in hc.2
    have hin := waitM_mem hf
    have hwt : waitB o (firstM o) = true := by
      simp only [waitM, List.mem_filter] at hf; exact hf.2
    simp only [waitB, Bool.and_eq_true, Bool.not_eq_true', decide_eq_true_eq] at hwt
    have g := w.good
    have hlen : (0 : Int) ≤ (o.2.2.2.2.length : Int) := by omega
    refine ⟨⟨g.mac, g.pick, g.now, g.jobs, fun j h1 h2 => ?_⟩, fun t ht => ?_, w.mac, fun m hm => ?_⟩
    · have h2 : j < ((o.2.2.2.2 ++ [(firstM o, k, o.2.2.1)]).length : Int) := h2
      simp only [List.length_append, List.length_singleton] at h2
      by_cases e : j < (o.2.2.2.2.length : Int)
      · have t := g.tasks j h1 e
        have ej : tk (tickM (pushT o (firstM o) k)) j = tk (tickM o) j := tk_push (d := o) h1 e
        refine ⟨by rw [ej]; exact t.job, by rw [ej]; exact t.mac, by rw [ej]; exact t.sta, fun hp => ?_, fun i a b => ?_⟩
        · have ep : tk (tickM (pushT o (firstM o) k)) (j - 1) = tk (tickM o) (j - 1) := tk_push (d := o) (by omega) (by omega)
          rw [ej, ep]; exact t.ord hp
        · have ei : tk (tickM (pushT o (firstM o) k)) i = tk (tickM o) i := tk_push (d := o) a (by omega)
          rw [ej, ei]; exact t.oth i a b
      · have ej : j = (o.2.2.2.2.length : Int) := by omega
        subst ej
        have en : tk (tickM (pushT o (firstM o) k)) (o.2.2.2.2.length : Int) = (firstM o, k, o.2.2.1) := tk_new (d := o)
        refine ⟨by rw [en]; exact hin, ?_, ?_, fun hp => ?_, fun i a b => ?_⟩
        · rw [en]
          have : (tickM (pushT o (firstM o) k)).1 = d.1 := w.mac
          rw [this]; exact ⟨h0, hk⟩
        · rw [en]
          refine ⟨hwt.2, ?_⟩
          show o.2.2.1 < o.2.2.1 + 1
          omega
        · have ep : tk (tickM (pushT o (firstM o) k)) ((o.2.2.2.2.length : Int) - 1) = tk o ((o.2.2.2.2.length : Int) - 1) := tk_push (d := o) (by omega) (by omega)
          rw [en, ep]
          have := w.late (tk o ((o.2.2.2.2.length : Int) - 1)) (el_mem (by omega) (by omega))
          refine ⟨?_, fun e => ?_⟩
          · show ¬ o.2.2.1 < _; omega
          · have e' : (tk o ((o.2.2.2.2.length : Int) - 1)).2.2 = o.2.2.1 := e
            show ¬ k ≤ _; omega
        · have ei : tk (tickM (pushT o (firstM o) k)) i = tk o i := tk_push (d := o) a b
          rw [en, ei]
          have hmem : tk o i ∈ o.2.2.2.2 := el_mem a b
          refine ⟨fun e => ?_, fun e => ?_⟩
          · have h1 := hwt.1
            simp only [hasT, List.any_eq_false, decide_eq_true_eq] at h1
            exact h1 _ hmem e
          · have hr : runM o k < 0 := by rw [w.run k (by omega)]; exact hc.1
            have hnone : o.2.2.2.2.find? (onB o k) = none := by
              cases hx : o.2.2.2.2.find? (onB o k) with
              | none => rfl
              | some t =>
                unfold runM at hr
                rw [hx] at hr
                simp only at hr
                have hm := List.mem_of_find?_eq_some hx
                obtain ⟨q, q0, q1, rfl⟩ := (mem_el (dflt := ((0, (0, 0)) : D.Task))).1 hm
                have := (g.tasks q q0 q1).job
                simp only [tk, tickM] at this
                omega
            have h2 := List.find?_eq_none.1 hnone _ hmem
            simp only [onB, decide_eq_true_eq] at h2
            have h3 := w.late _ hmem
            show ¬ o.2.2.1 < _
            intro h4
            exact h2 ⟨e, by omega, h4⟩
    · simp only [pushT, List.mem_append, List.mem_singleton] at ht
      rcases ht with ht | rfl
      · have := w.late t ht
        show t.2.2 < o.2.2.1 ∨ _
        rcases this with h | h
        · exact .inl h
        · exact .inr ⟨h.1, by omega⟩
      · exact .inr ⟨rfl, by show k < k + 1; omega⟩
    · rw [runM_push (by omega)]; exact w.run m (by omega)
  · exact ⟨w.good, fun t ht => (w.late t ht).imp id fun h => ⟨h.1, by omega⟩, w.mac, fun m hm => w.run m (by omega)⟩

theorem step_good {d : D.Dispatcher} (g : Good d) (h : d.2.2.1 < 1000) : Good (stepM d) ∧ (stepM d).2.2.1 = d.2.2.1 + 1 := by
  have base : Way d d 0 := by
    have hn := g.now
    refine ⟨⟨g.mac, g.pick, ⟨?_, ?_⟩, g.jobs, fun k a b => ?_⟩, fun t ht => ?_, rfl, fun _ _ => rfl⟩
    · show 0 ≤ d.2.2.1 + 1; omega
    · show d.2.2.1 + 1 ≤ 1000; omega
    · have t := g.tasks k a b
      have hs := t.sta
      refine ⟨t.job, t.mac, ⟨hs.1, ?_⟩, t.ord, t.oth⟩
      show (tk d k).2.2 < d.2.2.1 + 1; omega
    · obtain ⟨i, h0, h1, rfl⟩ := (mem_el (dflt := ((0, (0, 0)) : D.Task))).1 ht
      exact .inl (g.tasks i h0 h1).sta.2
  have all : ∀ n : Nat, (n : Int) ≤ d.1 → Way d (givesM d d (nums n)) n := by
    intro n
    induction n with
    | zero => intro _; exact base
    | succ n ih =>
      intro hn
      have := way_give (ih (by omega)) (by omega) (by omega)
      rw [nums_succ]
      simp only [givesM, List.foldl_append, List.foldl_cons, List.foldl_nil]
      exact this
  have hm := g.mac
  have := (all d.1.toNat (by omega)).good
  refine ⟨this, ?_⟩
  show (givesM d d (nums d.1.toNat)).2.2.1 + 1 = _
  rw [(givesM_same (d0 := d) _ d).2.2.1]

def runK : Nat → D.Dispatcher → D.Dispatcher
  | 0, d => d
  | n + 1, d => runK n (stepM d)
theorem runK_add : ∀ (a b : Nat) (d : D.Dispatcher), runK (a + b) d = runK b (runK a d)
  | 0, b, d => by simp [runK]
  | a + 1, b, d => by
    have : a + 1 + b = (a + b) + 1 := by omega
    rw [this]; exact runK_add a b (stepM d)
theorem runK_succ (n : Nat) (d : D.Dispatcher) : runK (n + 1) d = stepM (runK n d) := by rw [runK_add]; rfl
theorem runK_good : ∀ (n : Nat) {d : D.Dispatcher}, Good d → d.2.2.1 + n ≤ 1000 → Good (runK n d) ∧ (runK n d).2.2.1 = d.2.2.1 + n
  | 0, d, g, _ => ⟨g, by simp [runK]⟩
  | n + 1, d, g, h => by
    have s := step_good g (by omega)
    have := runK_good n s.1 (by rw [s.2]; omega)
    refine ⟨this.1, ?_⟩
    have h2 := this.2
    rw [s.2] at h2
    show (runK n (stepM d)).2.2.1 = _
    omega
end DM

theorem spec_l12Run.spec {d : D.Dispatcher} {a : Int} {Q : D.Dispatcher → Prop} (g : Good d) (ha : 1 ≤ a ∧ a ≤ 1000 - d.2.2.1) (h : Q (runK a.toNat d)) : spec_l12Run.call d a Q := by
  have hs := good_semi g
  have h8 := jobs_len g.jobs
  have hn := g.now
  refine spec_l12Run.call_ _ _ _ (spec_l12Own.spec (by omega) (by omega) ?_)
  have loop : ∀ (k n : Nat), n + k = a.toNat → spec_l12Run.at3 d a Q (runK n d) n := by
    intro k
    induction k with
    | zero =>
      intro n hn
      refine spec_l12Run.at3_ _ _ _ _ _ (cnd_dec (fun h => absurd h (by omega)) fun _ => ?_)
      have : n = a.toNat := by omega
      rw [this]; exact h
    | succ k ih =>
      intro n hn
      have gr := runK_good n g (by omega)
      have hsr := good_semi gr.1
      refine spec_l12Run.at3_ _ _ _ _ _ (cnd_dec (fun _ => spec_l12Step.spec hsr.1 (by omega) ⟨by omega, ?_⟩) fun h => absurd (show (n : Int) < _ by omega) h)
      have := ih (n + 1) (by omega)
      rw [runK_succ] at this
      exact this
  exact loop a.toNat 0 (by omega)

theorem impl_run {d : D.Dispatcher} {a : D.Act} {Q : D.Dispatcher → Bool → Prop} (g : Good d) (ha : 1 ≤ a.2.1 ∧ a.2.1 ≤ 1000 - d.2.2.1) (h : Q (runK a.2.1.toNat d) true) : impl_Dispatcher_done.at12 d a Q d 0 := by
  have hn := g.now
  have loop : ∀ (k n : Nat), n + k = a.2.1.toNat → impl_Dispatcher_done.at12 d a Q (runK n d) n := by
    intro k
    induction k with
    | zero =>
      intro n hn
      refine impl_Dispatcher_done.at12_ _ _ _ _ _ (cnd_dec (fun h => absurd h (by omega)) fun _ => ?_)
      have : n = a.2.1.toNat := by omega
      rw [this]; exact h
    | succ k ih =>
      intro n hn
      have gr := runK_good n g (by omega)
      have hsr := good_semi gr.1
      refine impl_Dispatcher_done.at12_ _ _ _ _ _ (cnd_dec (fun _ => impl_Dispatcher_step.spec gr.1 hsr.1 (by omega) ⟨by omega, ?_⟩) fun h => absurd (show (n : Int) < _ by omega) h)
      have := ih (n + 1) (by omega)
      rw [runK_succ] at this
      exact this
  exact loop a.2.1.toNat 0 (by omega)

end Go.Vm

/- Contracts: acts. Own work. No condition. -/
namespace Go.Vm
open Go.Proofs
set_option linter.unusedVariables false
set_option linter.unusedSimpArgs false
open DM
namespace DM
theorem q_of {Q : Bool → Prop} {b : Bool} (h1 : b = true → Q true) (h2 : b = false → Q false) : Q b := by cases b; exact h2 rfl; exact h1 rfl
abbrev ZD : D.Dispatcher := (0, (0, (0, (([] : List (D.Job)), ([] : List (D.Task))))))
def J0 (a : D.Act) : Prop := a.2.2.2.1 = 0 ∧ a.2.2.2.2.1 = 0 ∧ a.2.2.2.2.2.1 = 0 ∧ a.2.2.2.2.2.2 = 0
def Named (a : D.Act) : Prop := (a.1 = 1 → a.2.1 = 0 ∧ a.2.2.1 = 0) ∧ (a.1 = 5 → J0 a) ∧ (a.1 = 2 ∨ a.1 = 3 ∨ a.1 = 4 → a.2.2.1 = 0 ∧ J0 a) ∧ (¬ (1 ≤ a.1 ∧ a.1 ≤ 5) → a.2.1 = 0 ∧ a.2.2.1 = 0 ∧ J0 a)
def Plain (a : D.Act) : Prop := (1 ≤ a.1 ∧ a.1 ≤ 7) ∧ Named a
def May (d : D.Dispatcher) (a : D.Act) : Prop :=
  (a.1 = 1 ∧ d.2.2.1 ≤ a.2.2.2.2.2.1) ∨ (a.1 = 2 ∧ 1 ≤ a.2.1 ∧ a.2.1 ≤ 1000 - d.2.2.1) ∨ a.1 = 3 ∨ ((a.1 = 4 ∨ a.1 = 5) ∧ (0 ≤ a.2.1 ∧ a.2.1 < (d.2.2.2.1.length : Int)) ∧ hasT d a.2.1 = false) ∨ a.1 = 6 ∨
    (a.1 = 7 ∧ ∀ t ∈ d.2.2.2.2, t.2.1 ≠ d.1 - 1)
def lessT (i : Int) (t : D.Task) : D.Task := if i < t.1 then (t.1 - 1, t.2) else t
def cancelM (d : D.Dispatcher) (i : Int) : D.Dispatcher := (d.1, d.2.1, d.2.2.1, d.2.2.2.1.take i.toNat ++ d.2.2.2.1.drop (i + 1).toNat, d.2.2.2.2.map (lessT i))
def rawM (d : D.Dispatcher) (a : D.Act) : D.Dispatcher :=
  if a.1 = 1 then (d.1, d.2.1, d.2.2.1, d.2.2.2.1 ++ [a.2.2.2], d.2.2.2.2)
  else if a.1 = 2 then runK a.2.1.toNat d
  else if a.1 = 3 then (d.1, a.2.1, d.2.2)
  else if a.1 = 4 then cancelM d a.2.1
  else if a.1 = 5 then (d.1, d.2.1, d.2.2.1, d.2.2.2.1.set a.2.1.toNat ((jb d.2.2.2.1 a.2.1).1, (jb d.2.2.2.1 a.2.1).2.1, (jb d.2.2.2.1 a.2.1).2.2.1, a.2.2.1), d.2.2.2.2)
  else if a.1 = 6 then (d.1 + 1, d.2)
  else (d.1 - 1, d.2)
theorem prog_get {α : Type} {f : α → α} {xs : List α} {dflt : α} {k : Nat} (h : k < xs.length) : List.getD ((xs.take k).map f ++ xs.drop k) k dflt = List.getD xs k dflt := by
  have hl : ((xs.take k).map f).length = k := by simp; omega
  simp only [List.getD_eq_getElem?_getD]
  rw [List.getElem?_append_right (by omega), hl]
  simp
theorem prog_set {α : Type} {f : α → α} {xs : List α} {dflt : α} {k : Nat} (h : k < xs.length) : List.set ((xs.take k).map f ++ xs.drop k) k (f (List.getD xs k dflt)) = (xs.take (k + 1)).map f ++ xs.drop (k + 1) := by
  have hl : ((xs.take k).map f).length = k := by simp; omega
  rw [List.set_append_right _ _ (by omega), hl, Nat.sub_self, List.drop_eq_getElem_cons h, List.set_cons_zero, take_succ_getD (dflt := dflt) h, List.map_append, List.append_assoc]
  rfl
theorem prog_keep {α : Type} {f : α → α} {xs : List α} {dflt : α} {k : Nat} (h : k < xs.length) (hf : f (List.getD xs k dflt) = List.getD xs k dflt) : (xs.take k).map f ++ xs.drop k = (xs.take (k + 1)).map f ++ xs.drop (k + 1) := by
  rw [← prog_set (dflt := dflt) h, hf]
  have hl : ((xs.take k).map f).length = k := by simp; omega
  rw [List.set_append_right _ _ (by omega), hl, Nat.sub_self, List.drop_eq_getElem_cons h, List.set_cons_zero]
  simp [List.getD_eq_getElem?_getD, h]
end DM

theorem impl_Act_named.spec {a : D.Act} {Q : Bool → Prop} (ht : Named a → Q true) (hf : ¬ Named a → Q false) : impl_Act_named.call a Q := by
  refine impl_Act_named.call_ _ _ (cnd_dec (fun e => ?_) fun e => cnd_dec (fun e => ?_) fun e => cnd_dec (fun e => cnd_dec (fun e => ?_) fun h => absurd e h) fun e => cnd_dec (fun e => cnd_dec (fun e => ?_) fun h => absurd e h) fun e => cnd_dec (fun e => ?_) fun e => ?_)
  all_goals
    refine q_of (fun b => ht ?_) (fun b => hf ?_)
    · simp only [Bool.and_eq_true, decide_eq_true_eq] at b
      unfold Named J0
      refine ⟨fun h => ?_, fun h => ?_, fun h => ?_, fun h => ?_⟩ <;> omega
    · unfold Named J0
      rintro ⟨h1, h2, h3, h4⟩
      first | (have t := h1 (by omega); simp [t] at b; done) | (have t := h2 (by omega); simp [t] at b; done) | (have t := h3 (by omega); simp [t] at b; done) | (have t := h4 (by omega); simp [t] at b; done)

theorem spec_l12Plain.spec {a : D.Act} {Q : Bool → Prop} (ht : Plain a → Q true) (hf : ¬ Plain a → Q false) : spec_l12Plain.call a Q := by
  have fin : ∀ {b : Bool}, (b = true ↔ Plain a) → Q b := fun {b} hb => q_of (fun e => ht (hb.1 e)) (fun e => hf fun p => by rw [hb.2 p] at e; cases e)
  have no : ¬ Plain a → Q false := hf
  refine spec_l12Plain.call_ _ _ (cnd_dec (fun e => cnd_dec (fun e1 => fin ?_) fun e1 => no ?_) fun e => cnd_dec (fun e => fin ?_) fun e => cnd_dec (fun e => cnd_dec (fun _ => cnd_dec (fun e1 => fin ?_) fun e1 => no ?_) fun h => absurd e h)
    fun e => cnd_dec (fun e => cnd_dec (fun _ => cnd_dec (fun e1 => fin ?_) fun e1 => no ?_) fun h => absurd e h) fun e => cnd_dec (fun e => cnd_dec (fun e1 => fin ?_) fun e1 => no ?_) fun e => cnd_dec (fun e => ?_) fun e => ?_)
  case refine_10 =>
    simp only [cond_true]
    refine cnd_dec (fun e1 => cnd_dec (fun e2 => fin ?_) fun e2 => no ?_) fun e1 => no ?_
    · simp only [Bool.and_eq_true, decide_eq_true_eq]
      unfold Plain Named J0
      constructor
      · intro h
        refine ⟨by omega, fun h => ?_, fun h => ?_, fun h => ?_, fun h => ?_⟩ <;> omega
      · rintro ⟨h0, h1, h2, h3, h4⟩
        have := h4 (by omega); omega
    all_goals
      unfold Plain Named J0
      rintro ⟨h0, h1, h2, h3, h4⟩
      have := h4 (by omega); omega
  case refine_11 =>
    simp only [cond_true, cond_false]
    refine cnd_dec (fun e0 => cnd_dec (fun e1 => cnd_dec (fun e2 => fin ?_) fun e2 => no ?_) fun e1 => no ?_) fun e0 => no ?_
    · simp only [Bool.and_eq_true, decide_eq_true_eq]
      unfold Plain Named J0
      constructor
      · intro h
        refine ⟨by omega, fun h => ?_, fun h => ?_, fun h => ?_, fun h => ?_⟩ <;> omega
      · rintro ⟨h0, h1, h2, h3, h4⟩
        have := h4 (by omega); omega
    · unfold Plain Named J0
      rintro ⟨h0, h1, h2, h3, h4⟩
      have := h4 (by omega); omega
    · unfold Plain Named J0
      rintro ⟨h0, h1, h2, h3, h4⟩
      have := h4 (by omega); omega
    · unfold Plain
      rintro ⟨h0, h1⟩
      omega
  all_goals try simp only [cond_true, Bool.and_eq_true, decide_eq_true_eq]
  all_goals unfold Plain Named J0
  all_goals first
    | (constructor
       · intro h
         refine ⟨by omega, fun h => ?_, fun h => ?_, fun h => ?_, fun h => ?_⟩ <;> omega
       · rintro ⟨h0, h1, h2, h3, h4⟩
         first | (have := h1 (by omega); omega) | (have := h2 (by omega); omega) | (have := h3 (by omega); omega) | (have := h4 (by omega); omega))
    | (rintro ⟨h0, h1, h2, h3, h4⟩
       first | (have := h1 (by omega); omega) | (have := h2 (by omega); omega) | (have := h3 (by omega); omega) | (have := h4 (by omega); omega))

theorem spec_l12Used.spec {d : D.Dispatcher} {m : Int} {Q : Bool → Prop} (ht : (∃ t ∈ d.2.2.2.2, t.2.1 = m) → Q true) (hf : (∀ t ∈ d.2.2.2.2, t.2.1 ≠ m) → Q false) : spec_l12Used.call d m Q := by
  refine spec_l12Used.call_ _ _ _ ?_
  have loop : ∀ (k : Nat) (n : Int), n + k = (d.2.2.2.2.length : Int) → 0 ≤ n → (∀ j : Int, 0 ≤ j → j < n → (tk d j).2.1 ≠ m) → spec_l12Used.at2 d m Q n := by
    intro k
    induction k with
    | zero =>
      intro n hn h0 hall
      refine spec_l12Used.at2_ _ _ _ _ fun _ => (cnd_dec (fun h => absurd h (by omega)) fun _ => hf fun x hx => ?_)
      obtain ⟨j, a, b, rfl⟩ := (mem_el (dflt := ((0, (0, 0)) : D.Task))).1 hx
      exact hall j a (by omega)
    | succ k ih =>
      intro n hn h0 hall
      refine spec_l12Used.at2_ _ _ _ _ fun _ => (cnd_dec (fun _ => ⟨by omega, cnd_dec (fun e => ht ⟨_, el_mem h0 (by omega), e⟩) fun e => ⟨by omega, ih (n + 1) (by omega) (by omega) fun j a b => ?_⟩⟩) fun h => absurd (show n < _ by omega) h)
      by_cases e2 : j = n
      · subst e2; exact e
      · exact hall j a (by omega)
  exact loop d.2.2.2.2.length 0 (by omega) (by omega) fun j a b => absurd b (by omega)

theorem spec_l12Idle.spec {d : D.Dispatcher} {i : Int} {Q : Bool → Prop} (h : Q (inR i 0 ((d.2.2.2.1.length : Int) - 1) && !hasT d i)) : spec_l12Idle.call d i Q := by
  refine spec_l12Idle.call_ _ _ _ (spec_l3Job.spec (cnd_of (fun r => spec_l12Task.spec ?_) fun r => ?_))
  · rw [r] at h; simpa using h
  · rw [r] at h; simpa using h

theorem spec_l12May.spec {d : D.Dispatcher} {a : D.Act} {Q : Bool → Prop} (g : Good d) (hk : 1 ≤ a.1 ∧ a.1 ≤ 7) (ht : May d a → Q true) (hf : ¬ May d a → Q false) : spec_l12May.call d a Q := by
  have hn := g.now
  have hm := g.mac
  have fin : ∀ {b : Bool}, (b = true ↔ May d a) → Q b := fun {b} hb => q_of (fun e => ht (hb.1 e)) (fun e => hf fun p => by rw [hb.2 p] at e; cases e)
  have idle : a.1 = 4 ∨ a.1 = 5 → ((inR a.2.1 0 ((d.2.2.2.1.length : Int) - 1) && !hasT d a.2.1) = true ↔ May d a) := by
    intro e
    unfold May
    simp only [Bool.and_eq_true, inR_iff, Bool.not_eq_true']
    constructor
    · rintro ⟨h1, h2⟩
      exact .inr (.inr (.inr (.inl ⟨e, by omega, h2⟩)))
    · rintro (h | h | h | h | h | h)
      · omega
      · omega
      · omega
      · exact ⟨by omega, h.2.2⟩
      · omega
      · omega
  refine spec_l12May.call_ _ _ _ (cnd_dec (fun e => fin ?_) fun e1 => cnd_dec (fun e => ⟨by omega, spec_l1In.spec (fin ?_)⟩) fun e2 => cnd_dec (fun e => cnd_dec (fun _ => spec_l12Idle.spec (fin (idle (.inl e)))) fun h => absurd e h) fun e4 => cnd_dec (fun e => spec_l12Idle.spec (fin (idle (.inr e)))) fun e5 => cnd_dec (fun e => ⟨by omega, ?_⟩) fun e7 => ?_)
  · simp only [decide_eq_true_eq]; unfold May
    constructor
    · intro h; exact .inl ⟨e, h⟩
    · rintro (h | h | h | h | h | h) <;> omega
  · rw [inR_iff]; unfold May
    constructor
    · intro h; exact .inr (.inl ⟨e, h⟩)
    · rintro (h | h | h | h | h | h) <;> omega
  · refine spec_l12Used.spec (fun h => hf ?_) fun h => ht ?_
    · obtain ⟨t, h1, h2⟩ := h
      unfold May
      rintro (h | h | h | h | h | h)
      · omega
      · omega
      · omega
      · omega
      · omega
      · exact h.2 t h1 h2
    · exact .inr (.inr (.inr (.inr (.inr ⟨e, h⟩))))
  · refine ht ?_
    unfold May
    omega

theorem impl_Dispatcher_without.spec {d : D.Dispatcher} {i : Int} {Q : D.Dispatcher → Prop} (hs : Semi d) (hi : 0 ≤ i ∧ i < (d.2.2.2.1.length : Int)) (h : Q (cancelM d i)) : impl_Dispatcher_without.call d i Q := by
  have h8 := jobs_len hs.jobs
  have hl := hs.len
  have e1 : List.take (Int.toNat (i - 0)) (List.drop 0 d.2.2.2.1) = d.2.2.2.1.take i.toNat := by simp
  have e2 : List.take (Int.toNat ((((List.length d.2.2.2.1) : Nat) : Int) - (i + 1))) (List.drop (Int.toNat (i + 1)) d.2.2.2.1) = d.2.2.2.1.drop (i + 1).toNat := List.take_of_length_le (by simp; omega)
  refine impl_Dispatcher_without.call_ _ _ _ ⟨by omega, by omega, by omega, ?_, fun _ => ?_⟩
  · rw [e1, e2]; simp; omega
  rw [e1, e2]
  have loop : ∀ (k n : Nat), n + k = d.2.2.2.2.length → impl_Dispatcher_without.at3 d i Q (d.1, d.2.1, d.2.2.1, d.2.2.2.1.take i.toNat ++ d.2.2.2.1.drop (i + 1).toNat, (d.2.2.2.2.take n).map (lessT i) ++ d.2.2.2.2.drop n) n := by
    intro k
    induction k with
    | zero =>
      intro n hn
      refine impl_Dispatcher_without.at3_ _ _ _ _ _ (cnd_dec (fun h => absurd h (by omega)) fun _ => ?_)
      have f1 : d.2.2.2.2.take n = d.2.2.2.2 := List.take_of_length_le (by omega)
      have f2 : d.2.2.2.2.drop n = [] := List.drop_of_length_le (by omega)
      rw [f1, f2, List.append_nil]; exact h
    | succ k ih =>
      intro n hn
      have hlt : n < d.2.2.2.2.length := by omega
      have nx := ih (n + 1) (by omega)
      have hlen : (((d.2.2.2.2.take n).map (lessT i) ++ d.2.2.2.2.drop n).length : Int) = (d.2.2.2.2.length : Int) := by simp; omega
      have et : 0 + Int.toNat (n : Int) = n := by omega
      have ht := (hs.tasks (List.getD d.2.2.2.2 n (0, (0, 0))) (by simp [List.getD_eq_getElem?_getD, hlt])).1
      refine impl_Dispatcher_without.at3_ _ _ _ _ _ (cnd_dec (fun _ => ?_) fun h => absurd (show (n : Int) < _ by omega) h)
      simp only [et, prog_get (dflt := ((0, (0, 0)) : D.Task)) hlt, hlen]
      refine ⟨by omega, cnd_dec (fun e => ⟨by omega, by omega, by omega, by omega, ?_⟩) fun e => ⟨by omega, ?_⟩⟩
      · have : ((List.getD d.2.2.2.2 n (0, (0, 0))).1 - 1, (List.getD d.2.2.2.2 n (0, (0, 0))).2) = lessT i (List.getD d.2.2.2.2 n (0, (0, 0))) := by unfold lessT; rw [if_pos e]
        rw [this, prog_set (dflt := ((0, (0, 0)) : D.Task)) hlt]
        exact nx
      · rw [prog_keep (f := lessT i) (dflt := ((0, (0, 0)) : D.Task)) hlt (by unfold lessT; rw [if_neg e])]
        exact nx
  exact loop d.2.2.2.2.length 0 (by omega)

theorem spec_l12Cancel.spec {d : D.Dispatcher} {i : Int} {Q : D.Dispatcher → Prop} (hs : Semi d) (hi : 0 ≤ i ∧ i < (d.2.2.2.1.length : Int)) (h : Q (cancelM d i)) : spec_l12Cancel.call d i Q := by
  have h8 := jobs_len hs.jobs
  have hl := hs.len
  refine spec_l12Cancel.call_ _ _ _ (spec_l12Own.spec (by omega) (by omega) ⟨by omega, by simp; omega, by omega, by omega, by simp; omega, ?_⟩)
  have e0 : (([] : List (D.Job)) ++ List.drop (Int.toNat 0) (List.take (Int.toNat i) d.2.2.2.1)) ++ List.drop (Int.toNat (i + 1)) d.2.2.2.1 = d.2.2.2.1.take i.toNat ++ d.2.2.2.1.drop (i + 1).toNat := by simp
  rw [e0]
  have loop : ∀ (k n : Nat), n + k = d.2.2.2.2.length → spec_l12Cancel.at4 d i Q (d.1, d.2.1, d.2.2.1, d.2.2.2.1.take i.toNat ++ d.2.2.2.1.drop (i + 1).toNat, (d.2.2.2.2.take n).map (lessT i) ++ d.2.2.2.2.drop n) n := by
    intro k
    induction k with
    | zero =>
      intro n hn
      have hlen : (((d.2.2.2.2.take n).map (lessT i) ++ d.2.2.2.2.drop n).length : Int) = (d.2.2.2.2.length : Int) := by simp; omega
      refine spec_l12Cancel.at4_ _ _ _ _ _ fun _ => (cnd_dec (fun h => absurd h (by simp only [hlen]; omega)) fun _ => ?_)
      have f1 : d.2.2.2.2.take n = d.2.2.2.2 := List.take_of_length_le (by omega)
      have f2 : d.2.2.2.2.drop n = [] := List.drop_of_length_le (by omega)
      rw [f1, f2, List.append_nil]; exact h
    | succ k ih =>
      intro n hn
      have hlt : n < d.2.2.2.2.length := by omega
      have nx := ih (n + 1) (by omega)
      have hlen : (((d.2.2.2.2.take n).map (lessT i) ++ d.2.2.2.2.drop n).length : Int) = (d.2.2.2.2.length : Int) := by simp; omega
      have et : 0 + Int.toNat (n : Int) = n := by omega
      have ht := (hs.tasks (List.getD d.2.2.2.2 n (0, (0, 0))) (by simp [List.getD_eq_getElem?_getD, hlt])).1
      refine spec_l12Cancel.at4_ _ _ _ _ _ fun _ => (cnd_dec (fun _ => ?_) fun h => absurd (show (n : Int) < _ by simp only [hlen]; omega) h)
      simp only [et, prog_get (dflt := ((0, (0, 0)) : D.Task)) hlt, hlen]
      refine ⟨by omega, cnd_dec (fun e => ⟨by omega, by omega, by omega, by omega, ?_⟩) fun e => ⟨by omega, ?_⟩⟩
      · have : ((List.getD d.2.2.2.2 n (0, (0, 0))).1 - 1, (List.getD d.2.2.2.2 n (0, (0, 0))).2) = lessT i (List.getD d.2.2.2.2 n (0, (0, 0))) := by unfold lessT; rw [if_pos e]
        rw [this, prog_set (dflt := ((0, (0, 0)) : D.Task)) hlt]
        exact nx
      · rw [prog_keep (f := lessT i) (dflt := ((0, (0, 0)) : D.Task)) hlt (by unfold lessT; rw [if_neg e])]
        exact nx
  exact loop d.2.2.2.2.length 0 (by omega)

end Go.Vm

/- Contracts: acting, playing. Own work. No condition. -/
namespace Go.Vm
open Go.Proofs
set_option linter.unusedVariables false
set_option linter.unusedSimpArgs false
open DM

theorem c_nt {A B : Prop} (h : B) : cnd (!true) A B := h
theorem c_ft {A B : Prop} (h : B) : cnd (cond false true (!true)) A B := h

theorem impl_Dispatcher_done.less {d : D.Dispatcher} {a : D.Act} {Q : D.Dispatcher → Bool → Prop} (g : Good d) (hf : (∃ t ∈ d.2.2.2.2, t.2.1 = d.1 - 1) → Q ZD false) (ht : (∀ t ∈ d.2.2.2.2, t.2.1 ≠ d.1 - 1) → Q (d.1 - 1, d.2) true) : impl_Dispatcher_done.at29 d a Q 0 := by
  have hm := g.mac
  have h8 := (good_semi g).2
  have loop : ∀ (k : Nat) (n : Int), n + k = (d.2.2.2.2.length : Int) → 0 ≤ n → (∀ j : Int, 0 ≤ j → j < n → (tk d j).2.1 ≠ d.1 - 1) → impl_Dispatcher_done.at29 d a Q n := by
    intro k
    induction k with
    | zero =>
      intro n hn h0 hall
      refine impl_Dispatcher_done.at29_ _ _ _ _ (cnd_dec (fun h => absurd h (by omega)) fun _ => ⟨by omega, ht fun x hx => ?_⟩)
      obtain ⟨j, a, b, rfl⟩ := (mem_el (dflt := ((0, (0, 0)) : D.Task))).1 hx
      exact hall j a (by omega)
    | succ k ih =>
      intro n hn h0 hall
      have e : 0 + Int.toNat n = Int.toNat n := by omega
      refine impl_Dispatcher_done.at29_ _ _ _ _ (cnd_dec (fun _ => ⟨by omega, by omega, ?_⟩) fun h => absurd (show n < _ by omega) h)
      rw [e]
      refine cnd_dec (fun e => hf ⟨_, el_mem h0 (by omega), e⟩) fun e => ⟨by omega, ih (n + 1) (by omega) (by omega) fun j a b => ?_⟩
      by_cases e2 : j = n
      · subst e2; exact e
      · exact hall j a (by omega)
  exact loop d.2.2.2.2.length 0 (by omega) (by omega) fun j a b => absurd b (by omega)

theorem impl_Dispatcher_done.spec {d : D.Dispatcher} {a : D.Act} {Q : D.Dispatcher → Bool → Prop} (g : Good d) (ht : (1 ≤ a.1 ∧ a.1 ≤ 7) → May d a → Q (rawM d a) true) (hf : ¬ ((1 ≤ a.1 ∧ a.1 ≤ 7) ∧ May d a) → Q ZD false) : impl_Dispatcher_done.call d a Q := by
  have hs := good_semi g
  have hm := g.mac
  have hn := g.now
  have h8 := jobs_len g.jobs
  have tree : ∀ free : Bool, (free = true ↔ (0 ≤ a.2.1 ∧ a.2.1 < (d.2.2.2.1.length : Int)) ∧ hasT d a.2.1 = false) →
      cnd (decide (a.1 = 1))
       (cnd (decide (a.2.2.2.2.2.1 < d.2.2.1))
         (Q ZD false)
         (((List.length d.2.2.2.1) + (List.length [a.2.2.2]) ≤ 4294967296) ∧
          Q (d.1, (d.2.1, (d.2.2.1, ((d.2.2.2.1 ++ [a.2.2.2]), d.2.2.2.2)))) true))
       (cnd (decide (a.1 = 2))
         (((-9223372036854775808 : Int) ≤ (1000 - d.2.2.1) ∧ (1000 - d.2.2.1) ≤ 9223372036854775807) ∧
          impl_within.call a.2.1 1 (1000 - d.2.2.1) (fun r3 =>
           cnd (!r3)
            (Q ZD false)
            (impl_Dispatcher_done.at12 d a Q d 0)))
         (cnd (decide (a.1 = 3))
           (Q (d.1, (a.2.1, d.2.2)) true)
           (cnd (decide (a.1 = 4))
             (cnd (!free)
               (Q ZD false)
               (impl_Dispatcher_without.call d a.2.1 (fun r4 =>
                 Q r4 true)))
             (cnd (decide (a.1 = 5))
               (cnd (!free)
                 (Q ZD false)
                 (((0 : Int) ≤ a.2.1 ∧ a.2.1 < (((List.length d.2.2.2.1) : Nat) : Int)) ∧
                  Q (d.1, (d.2.1, (d.2.2.1, ((List.set d.2.2.2.1 (0 + (Int.toNat a.2.1)) ((List.getD d.2.2.2.1 (0 + (Int.toNat a.2.1)) (0, (0, (0, 0)))).1, ((List.getD d.2.2.2.1 (0 + (Int.toNat a.2.1)) (0, (0, (0, 0)))).2.1, ((List.getD d.2.2.2.1 (0 + (Int.toNat a.2.1)) (0, (0, (0, 0)))).2.2.1, a.2.2.1)))), d.2.2.2.2)))) true))
               (cnd (decide (a.1 = 6))
                 (((-9223372036854775808 : Int) ≤ (d.1 + 1) ∧ (d.1 + 1) ≤ 9223372036854775807) ∧
                  Q ((d.1 + 1), d.2) true)
                 (cnd (decide (a.1 = 7))
                   ((((List.length d.2.2.2.2) ≤ 281474976710656) →
                    impl_Dispatcher_done.at29 d a Q 0))
                   (Q ZD false))))))) := by
    intro free hfree
    have e0 : 0 + Int.toNat a.2.1 = Int.toNat a.2.1 := by omega
    rw [e0]
    have nof : free = false → ¬ ((0 ≤ a.2.1 ∧ a.2.1 < (d.2.2.2.1.length : Int)) ∧ hasT d a.2.1 = false) := fun h h2 => by rw [hfree.2 h2] at h; cases h
    refine cnd_dec (fun e => cnd_dec (fun r => hf ?_) fun r => ⟨by simp; omega, ?_⟩) fun e1 => cnd_dec (fun e => ⟨by omega, impl_within.spec (cnd_of (fun r => hf ?_) fun r => impl_run g ?_ ?_)⟩) fun e2 => cnd_dec (fun e => ?_) fun e3 =>
      cnd_dec (fun e => cnd_of (fun r => hf ?_) fun r => ?_) fun e4 => cnd_dec (fun e => cnd_of (fun r => hf ?_) fun r => ?_) fun e5 => cnd_dec (fun e => ⟨by omega, ?_⟩) fun e6 => cnd_dec (fun e => fun _ => impl_Dispatcher_done.less g (fun h => hf ?_) fun h => ?_) fun e7 => hf fun h => by omega
    · rintro ⟨-, h⟩
      unfold May at h
      rcases h with h | h | h | h | h | h <;> omega
    · have := ht (by omega) (.inl ⟨e, by omega⟩)
      unfold rawM at this
      rw [if_pos e] at this; exact this
    · rintro ⟨-, h⟩
      unfold May at h
      have : inR a.2.1 1 (1000 - d.2.2.1) = true := inR_iff.2 (by rcases h with h | h | h | h | h | h <;> omega)
      rw [this] at r; simp at r
    · exact inR_iff.1 (by simpa using r)
    · have r' := inR_iff.1 (by simpa using r : inR a.2.1 1 (1000 - d.2.2.1) = true)
      have := ht (by omega) (.inr (.inl ⟨e, r'⟩))
      unfold rawM at this
      rw [if_neg e1, if_pos e] at this; exact this
    · have := ht (by omega) (.inr (.inr (.inl e)))
      unfold rawM at this
      rw [if_neg e1, if_neg e2, if_pos e] at this; exact this
    · rintro ⟨-, h⟩
      refine nof (by simpa using r) ?_
      unfold May at h
      rcases h with h | h | h | h | h | h
      · omega
      · omega
      · omega
      · exact h.2
      · omega
      · omega
    · have r' := hfree.1 (by simpa using r)
      have := ht (by omega) (.inr (.inr (.inr (.inl ⟨.inl e, r'⟩))))
      unfold rawM at this
      rw [if_neg e1, if_neg e2, if_neg e3, if_pos e] at this
      exact impl_Dispatcher_without.spec hs.1 r'.1 this
    · rintro ⟨-, h⟩
      refine nof (by simpa using r) ?_
      unfold May at h
      rcases h with h | h | h | h | h | h
      · omega
      · omega
      · omega
      · exact h.2
      · omega
      · omega
    · have r' := hfree.1 (by simpa using r)
      have := ht (by omega) (.inr (.inr (.inr (.inl ⟨.inr e, r'⟩))))
      unfold rawM at this
      rw [if_neg e1, if_neg e2, if_neg e3, if_neg e4, if_pos e] at this
      exact ⟨r'.1, this⟩
    · have := ht (by omega) (.inr (.inr (.inr (.inr (.inl e)))))
      unfold rawM at this
      rw [if_neg e1, if_neg e2, if_neg e3, if_neg e4, if_neg e5, if_pos e] at this; exact this
    · obtain ⟨t, h1, h2⟩ := h
      rintro ⟨-, h⟩
      unfold May at h
      rcases h with h | h | h | h | h | h
      · omega
      · omega
      · omega
      · omega
      · omega
      · exact h.2 t h1 h2
    · have := ht (by omega) (.inr (.inr (.inr (.inr (.inr ⟨e, h⟩)))))
      unfold rawM at this
      rw [if_neg e1, if_neg e2, if_neg e3, if_neg e4, if_neg e5, if_neg e6] at this; exact this
  refine impl_Dispatcher_done.call_ _ _ _ fun hl => impl_isNumber.spec (by omega) (cnd_of (fun r => impl_Dispatcher_has.spec (tree _ ?_)) fun r => tree false ?_)
  · have r' := inR_iff.1 r
    simp only [cond_true, Bool.not_eq_true']
    constructor
    · intro h; exact ⟨by omega, h⟩
    · intro h; exact h.2
  · constructor
    · intro h; cases h
    · intro h
      rw [inR_iff.2 (by omega)] at r; cases r

namespace DM
/-- an act that is possible -/
def Acts (d : D.Dispatcher) (a : D.Act) : Prop := Plain a ∧ May d a ∧ Good (rawM d a)
end DM

theorem impl_Dispatcher_acted.spec {d : D.Dispatcher} {a : D.Act} {Q : D.Dispatcher → Bool → Prop} (g : Good d) (ht : Acts d a → Q (rawM d a) true) (hf : ¬ Acts d a → Q ZD false) : impl_Dispatcher_acted.call d a Q := by
  have hs := good_semi g
  have h8 := jobs_len g.jobs
  refine impl_Dispatcher_acted.call_ _ _ _ (impl_Act_named.spec (fun hn => c_nt (impl_Dispatcher_own.spec (by omega) (by omega) (impl_Dispatcher_done.spec g (fun hk hm => ?_) fun hno => ?_))) fun hn => hf fun h => hn h.1.2)
  · refine c_nt (impl_IsDispatcher.spec (fun hg => hf fun h => hg h.2.2) fun hg => ?_)
    exact c_ft (A := Q ZD false) (ht ⟨⟨hk, hn⟩, hm, hg⟩)
  · exact hf fun h => hno ⟨h.1.1, h.2.1⟩
theorem impl_ActDispatcher.spec {d : D.Dispatcher} {a : D.Act} {Q : D.Dispatcher → Bool → Prop} (ht : Good d → Acts d a → Q (rawM d a) true) (hf : ¬ (Good d ∧ Acts d a) → Q ZD false) : impl_ActDispatcher.call d a Q :=
  impl_ActDispatcher.call_ _ _ _ (impl_IsDispatcher.spec (fun hg => hf fun h => hg h.1) fun hg => impl_Dispatcher_acted.spec hg (ht hg) fun h => hf fun h2 => h h2.2)

theorem spec_l12Act.spec {d : D.Dispatcher} {a : D.Act} {Q : D.Dispatcher → Bool → Prop} (g : Good d) (ht : Acts d a → Q (rawM d a) true) (hf : ¬ Acts d a → Q ZD false) : spec_l12Act.call d a Q := by
  have hs := good_semi g
  have hm := g.mac
  have hnw := g.now
  have h8 := jobs_len g.jobs
  refine spec_l12Act.call_ _ _ _ (spec_l12Plain.spec (fun hp => c_nt (spec_l12May.spec g hp.1 (fun hmay => c_ft (spec_l12Own.spec (by omega) (by omega) ?_)) fun hmay => hf fun h => hmay h.2.1)) fun hp => hf fun h => hp h.1)
  have e0 : 0 + Int.toNat a.2.1 = Int.toNat a.2.1 := by omega
  have fin : ∀ x, rawM d a = x → spec_l12Good.call x (fun r4 => cnd (!r4) (Q ZD false) (Q x true)) := by
    intro x hx
    refine spec_l12Good.spec (fun hg => hf fun h => hg (hx ▸ h.2.2)) fun hg => ?_
    have := ht ⟨hp, hmay, by rw [hx]; exact hg⟩
    rw [hx] at this; exact this
  have hk := hp.1
  refine cnd_dec (fun e => ⟨by simp; omega, fin _ (by unfold rawM; rw [if_pos e])⟩) fun e1 => cnd_dec (fun e => spec_l12Run.spec g ?_ (fin _ (by unfold rawM; rw [if_neg e1, if_pos e]))) fun e2 => cnd_dec (fun e => fin _ (by unfold rawM; rw [if_neg e1, if_neg e2, if_pos e])) fun e3 =>
    cnd_dec (fun e => spec_l12Cancel.spec hs.1 ?_ (fin _ (by unfold rawM; rw [if_neg e1, if_neg e2, if_neg e3, if_pos e]))) fun e4 => cnd_dec (fun e => ?_) fun e5 => cnd_dec (fun e => ⟨by omega, fin _ (by unfold rawM; rw [if_neg e1, if_neg e2, if_neg e3, if_neg e4, if_neg e5, if_pos e])⟩) fun e6 =>
    cnd_dec (fun e => ⟨by omega, fin _ (by unfold rawM; rw [if_neg e1, if_neg e2, if_neg e3, if_neg e4, if_neg e5, if_neg e6])⟩) fun e7 => by omega
  · unfold May at hmay
    rcases hmay with h | h | h | h | h | h
    · omega
    · exact h.2
    · omega
    · omega
    · omega
    · omega
  · unfold May at hmay
    rcases hmay with h | h | h | h | h | h
    · omega
    · omega
    · omega
    · exact h.2.1
    · omega
    · omega
  · rw [e0]
    refine ⟨?_, fin _ (by unfold rawM; rw [if_neg e1, if_neg e2, if_neg e3, if_neg e4, if_pos e])⟩
    unfold May at hmay
    rcases hmay with h | h | h | h | h | h
    · omega
    · omega
    · omega
    · exact h.2.1
    · omega
    · omega
theorem spec_ActDispatcher.spec {d : D.Dispatcher} {a : D.Act} {Q : D.Dispatcher → Bool → Prop} (ht : Good d → Acts d a → Q (rawM d a) true) (hf : ¬ (Good d ∧ Acts d a) → Q ZD false) : spec_ActDispatcher.call d a Q :=
  spec_ActDispatcher.call_ _ _ _ (spec_l12Good.spec (fun hg => hf fun h => hg h.1) fun hg => spec_l12Act.spec hg (ht hg) fun h => hf fun h2 => h h2.2)

theorem impl_NewDispatcher.spec {m p : Int} {Q : D.Dispatcher → Bool → Prop} (ht : Good (m, p, 0, [], []) → Q (m, p, 0, [], []) true) (hf : ¬ Good (m, p, 0, [], []) → Q ZD false) : impl_NewDispatcher.call m p Q :=
  impl_NewDispatcher.call_ _ _ _ (impl_IsDispatcher.spec hf ht)
theorem spec_NewDispatcher.spec {m p : Int} {Q : D.Dispatcher → Bool → Prop} (ht : Good (m, p, 0, [], []) → Q (m, p, 0, [], []) true) (hf : ¬ Good (m, p, 0, [], []) → Q ZD false) : spec_NewDispatcher.call m p Q :=
  spec_NewDispatcher.call_ _ _ _ (spec_l12Good.spec hf ht)

namespace DM
/-- playing acts: the dispatcher and the number of acts; fuel, the place -/
inductive Play : D.Dispatcher → List D.Act → Int → D.Dispatcher → Int → Prop
  | done (d n) : Play d [] n d n
  | stop (d a l n) (h : ¬ Acts d a) : Play d (a :: l) n d n
  | step (d a l n d' n') (h : Acts d a) (hp : Play (rawM d a) l (n + 1) d' n') : Play d (a :: l) n d' n'
theorem Play.det {d : D.Dispatcher} {l : List D.Act} {n : Int} {d1 : D.Dispatcher} {n1 : Int} (h1 : Play d l n d1 n1) : ∀ {d2 n2}, Play d l n d2 n2 → d1 = d2 ∧ n1 = n2 := by
  induction h1 with
  | done d n => intro d2 n2 h; cases h; exact ⟨rfl, rfl⟩
  | stop d a l n h =>
    intro d2 n2 h2
    cases h2 with
    | stop => exact ⟨rfl, rfl⟩
    | step _ _ _ _ _ _ h' => exact absurd h' h
  | step d a l n d' n' h hp ih =>
    intro d2 n2 h2
    cases h2 with
    | stop _ _ _ _ h' => exact absurd h h'
    | step _ _ _ _ _ _ h' hp' => exact ih hp'
theorem Play.good {d : D.Dispatcher} {l : List D.Act} {n : Int} {d1 : D.Dispatcher} {n1 : Int} (h1 : Play d l n d1 n1) : Good d → Good d1 := by
  induction h1 with
  | done d n => exact id
  | stop d a l n h => exact id
  | step d a l n d' n' h hp ih => intro _; exact ih h.2.2
end DM

theorem impl_PlayActs.spec {d : D.Dispatcher} {l : List D.Act} {Q : D.Dispatcher → Int → Bool → Prop} (ht : Good d → ∀ d' n, Play d l 0 d' n → Q d' n true) (hf : ¬ Good d → Q ZD 0 false) : impl_PlayActs.call d l Q := by
  refine impl_PlayActs.call_ _ _ _ (impl_IsDispatcher.spec hf fun g => ?_)
  have hs := good_semi g
  have h8 := jobs_len g.jobs
  refine c_nt (impl_Dispatcher_own.spec (by omega) (by omega) fun hl => ?_)
  have loop : ∀ (k n : Nat) (o : D.Dispatcher), n + k = l.length → Good o → (∀ d' n', Play o (l.drop n) n d' n' → Q d' n' true) → impl_PlayActs.at5 d l Q o n := by
    intro k
    induction k with
    | zero =>
      intro n o hn go hq
      refine impl_PlayActs.at5_ _ _ _ _ _ (cnd_dec (fun h => absurd h (by omega)) fun _ _ => ?_)
      have e : n = l.length := by omega
      have := hq o n (by rw [List.drop_of_length_le (by omega)]; exact .done _ _)
      rw [e] at this; exact this
    | succ k ih =>
      intro n o hn go hq
      have hlt : n < l.length := by omega
      have e : Int.toNat (n : Int) = n := by omega
      rw [List.drop_eq_getElem_cons hlt] at hq
      have eg : List.getD l n (0, (0, (0, (0, (0, (0, 0)))))) = l[n] := by simp [List.getD_eq_getElem?_getD, hlt]
      refine impl_PlayActs.at5_ _ _ _ _ _ (cnd_dec (fun _ => ⟨by omega, ?_⟩) fun h => absurd (show (n : Int) < _ by omega) h)
      rw [e, eg]
      refine impl_Dispatcher_acted.spec go (fun ha => ⟨by omega, ih (n + 1) _ (by omega) ha.2.2 fun d' n' hp => hq d' n' (.step _ _ _ _ _ _ ha hp)⟩) fun ha => hq _ _ (.stop _ _ _ _ ha)
  exact loop l.length 0 d (by omega) g (ht g)

theorem spec_PlayActs.spec {d : D.Dispatcher} {l : List D.Act} {Q : D.Dispatcher → Int → Bool → Prop} (ht : Good d → ∀ d' n, Play d l 0 d' n → Q d' n true) (hf : ¬ Good d → Q ZD 0 false) : spec_PlayActs.call d l Q := by
  refine spec_PlayActs.call_ _ _ _ (spec_l12Good.spec hf fun g => ?_)
  have hs := good_semi g
  have h8 := jobs_len g.jobs
  refine c_nt (spec_l12Own.spec (by omega) (by omega) ?_)
  have loop : ∀ (k n : Nat) (o : D.Dispatcher), n + k = l.length → Good o → (∀ d' n', Play o (l.drop n) n d' n' → Q d' n' true) → spec_PlayActs.at5 d l Q o n := by
    intro k
    induction k with
    | zero =>
      intro n o hn go hq
      refine spec_PlayActs.at5_ _ _ _ _ _ fun _ => (cnd_dec (fun h => absurd h (by omega)) fun _ _ => ?_)
      have e : n = l.length := by omega
      have := hq o n (by rw [List.drop_of_length_le (by omega)]; exact .done _ _)
      rw [e] at this; exact this
    | succ k ih =>
      intro n o hn go hq
      have hlt : n < l.length := by omega
      have e : Int.toNat (n : Int) = n := by omega
      rw [List.drop_eq_getElem_cons hlt] at hq
      have eg : List.getD l n (0, (0, (0, (0, (0, (0, 0)))))) = l[n] := by simp [List.getD_eq_getElem?_getD, hlt]
      refine spec_PlayActs.at5_ _ _ _ _ _ fun hl => (cnd_dec (fun _ => ⟨by omega, ?_⟩) fun h => absurd (show (n : Int) < _ by omega) h)
      rw [e, eg]
      refine spec_l12Act.spec go (fun ha => ⟨by omega, ih (n + 1) _ (by omega) ha.2.2 fun d' n' hp => hq d' n' (.step _ _ _ _ _ _ ha hp)⟩) fun ha => hq _ _ (.stop _ _ _ _ ha)
  exact loop l.length 0 d (by omega) g (ht g)

end Go.Vm

/- Contracts: comparing, cutting and drawing. Own work. No condition. -/
namespace Go.Vm
open Go.Proofs
set_option linter.unusedVariables false
set_option linter.unusedSimpArgs false
open DM

theorem laws_vJobs.same {a : List D.Job} {Q : Bool → Prop} (h : Q true) : laws_vJobs.call a a Q := by
  refine laws_vJobs.call_ _ _ _ fun hl _ => cnd_dec (fun e => absurd rfl e) fun _ => ?_
  have loop : ∀ (k n : Nat), n + k = a.length → laws_vJobs.at4 a a Q n := by
    intro k
    induction k with
    | zero => intro n hn; exact laws_vJobs.at4_ _ _ _ _ fun _ => cnd_dec (fun h => absurd h (by omega)) fun _ => h
    | succ k ih =>
      intro n hn
      refine laws_vJobs.at4_ _ _ _ _ fun _ => cnd_dec (fun _ => ⟨by omega, by omega, ?_⟩) fun h => absurd (show (n : Int) < _ by omega) h
      refine cnd_of (fun h => by simp at h) fun _ => ⟨by omega, ih (n + 1) (by omega)⟩
  exact loop a.length 0 (by omega)
theorem laws_vTasks.same {a : List D.Task} {Q : Bool → Prop} (h : Q true) : laws_vTasks.call a a Q := by
  refine laws_vTasks.call_ _ _ _ fun hl _ => cnd_dec (fun e => absurd rfl e) fun _ => ?_
  have loop : ∀ (k n : Nat), n + k = a.length → laws_vTasks.at4 a a Q n := by
    intro k
    induction k with
    | zero => intro n hn; exact laws_vTasks.at4_ _ _ _ _ fun _ => cnd_dec (fun h => absurd h (by omega)) fun _ => h
    | succ k ih =>
      intro n hn
      refine laws_vTasks.at4_ _ _ _ _ fun _ => cnd_dec (fun _ => ⟨by omega, by omega, ?_⟩) fun h => absurd (show (n : Int) < _ by omega) h
      refine cnd_of (fun h => by simp at h) fun _ => ⟨by omega, ih (n + 1) (by omega)⟩
  exact loop a.length 0 (by omega)
theorem laws_vDispatcher.same {a : D.Dispatcher} {Q : Bool → Prop} (h : Q true) : laws_vDispatcher.call a a Q := by
  refine laws_vDispatcher.call_ _ _ _ (cnd_dec (fun _ => ?_) fun e => absurd rfl e)
  refine cnd_of (fun _ => ?_) fun e => by simp at e
  refine cnd_of (fun _ => ?_) fun e => by simp at e
  refine laws_vJobs.same ?_
  exact laws_vTasks.same h
theorem laws_vBig.spec {c : List Int} {Q : Bool → Prop} (h : Q (decide (65536 < (c.length : Int)))) : laws_vBig.call c Q := laws_vBig.call_ _ _ fun _ => h
theorem laws_vCut.spec {c : List Int} {n : Int} {Q : List Int → Prop} (hn : 0 ≤ n) (hc : (c.length : Int) ≤ 65536) (h : ∀ r, (r.length : Int) ≤ 65537 → Q r) : laws_vCut.call c n Q := by
  refine laws_vCut.call_ _ _ _ fun _ => cnd_dec (fun e _ => ⟨by omega, ?_, ?_, h _ ?_⟩) fun e => ⟨by omega, ?_, ?_, h _ ?_⟩ <;> simp <;> omega
theorem laws_vAt.spec {c : List Int} {i : Int} {Q : Int → Prop} (h0 : 0 ≤ i) (h1 : i ≤ 1000) (hc : (c.length : Int) ≤ 65536) (h : ∀ r, 0 ≤ r → r ≤ 255 → Q r) : laws_vAt.call c i Q := by
  refine laws_vAt.call_ _ _ _ fun _ => cnd_dec (fun e => ⟨by omega, fun hb => h _ hb.1 hb.2⟩) fun e => ⟨by omega, fun _ => ⟨by omega, by omega, h _ ?_ ?_⟩⟩
  · exact Int.tmod_nonneg _ (by omega)
  · have := Int.tmod_lt_of_pos (i * 7 + (c.length : Int)) (show (0 : Int) < 256 by omega)
    omega

namespace DM
/-- a place in the code that can be drawn from: n draws at most until now -/
def Cur (n : Int) (c : D.L2Search) : Prop := 0 ≤ c.2.1 ∧ c.2.1 ≤ n
theorem Cur.le {n m : Int} {c : D.L2Search} (h : Cur n c) (e : n ≤ m) : Cur m c := ⟨h.1, by have := h.2; omega⟩
theorem byte_ok (b : BitVec 64) : (0 : Int) ≤ IntKind.wrap .i64 (IntKind.wrap .u64 ((b &&& BitVec.ofInt 64 255).toNat : Int)) ∧ IntKind.wrap .i64 (IntKind.wrap .u64 ((b &&& BitVec.ofInt 64 255).toNat : Int)) ≤ 255 := by
  have h : (b &&& BitVec.ofInt 64 255).toNat ≤ 255 := by
    rw [BitVec.toNat_and]
    exact Nat.le_trans Nat.and_le_right (by decide)
  generalize (b &&& BitVec.ofInt 64 255).toNat = x at h
  have e : IntKind.wrap .u64 (x : Int) = x := by simp [IntKind.wrap, IntKind.signed, IntKind.bits]; omega
  rw [e]
  have e2 : IntKind.wrap .i64 (x : Int) = x := by simp [IntKind.wrap, IntKind.signed, IntKind.bits]; omega
  rw [e2]; omega
end DM

theorem spec_l1Cur_next_o.spec {n : Int} {c : D.L2Search} {Q : Int → D.L2Search → Prop} (hc : Cur n c) (hn : n ≤ 1000000) (h : ∀ r o, 0 ≤ r → r ≤ 255 → Cur (n + 1) o → Q r o) : spec_l1Cur_next_o.call c Q := by
  obtain ⟨h0, h1⟩ := hc
  refine spec_l1Cur_next_o.call_ _ _ fun _ => cnd_dec (fun e => ⟨by omega, fun hb => ⟨by omega, fun _ => cnd_dec (fun _ => h _ _ hb.1 hb.2 ⟨?_, ?_⟩) fun _ => ⟨by omega, h _ _ (byte_ok _).1 (byte_ok _).2 ⟨?_, ?_⟩⟩⟩⟩) fun e => ⟨by omega, fun _ => cnd_dec (fun _ => h _ _ (by omega) (by omega) ⟨?_, ?_⟩) fun _ => ⟨by omega, h _ _ (byte_ok _).1 (byte_ok _).2 ⟨?_, ?_⟩⟩⟩ <;> simp only <;> omega
theorem spec_l1Cur_next.spec {n : Int} {c : D.L2Search} {Q : Int → D.L2Search → Prop} (hc : Cur n c) (hn : n ≤ 1000000) (h : ∀ r o, 0 ≤ r → r ≤ 255 → Cur (n + 1) o → Q r o) : spec_l1Cur_next.call c Q := by
  obtain ⟨h0, h1⟩ := hc
  refine spec_l1Cur_next.call_ _ _ fun _ => cnd_dec (fun e => ⟨by omega, fun hb => ⟨by omega, fun _ => cnd_dec (fun _ => h _ _ hb.1 hb.2 ⟨?_, ?_⟩) fun _ => ⟨by omega, h _ _ (byte_ok _).1 (byte_ok _).2 ⟨?_, ?_⟩⟩⟩⟩) fun e => ⟨by omega, fun _ => cnd_dec (fun _ => h _ _ (by omega) (by omega) ⟨?_, ?_⟩) fun _ => ⟨by omega, h _ _ (byte_ok _).1 (byte_ok _).2 ⟨?_, ?_⟩⟩⟩ <;> simp only <;> omega

theorem tmod_ok {n x : Int} (hx : 0 ≤ x) (hn : 1 < n) : 0 ≤ Int.tmod x n ∧ Int.tmod x n < n := ⟨Int.tmod_nonneg _ hx, Int.tmod_lt_of_pos _ (by omega)⟩
theorem spec_l1Cur_pick_o.spec {n k : Int} {c : D.L2Search} {Q : Int → D.L2Search → Prop} (hc : Cur n c) (hn : n ≤ 900000) (h : ∀ r o, 0 ≤ r → (r < k ∨ r = 0) → Cur (n + 2) o → Q r o) : spec_l1Cur_pick_o.call c k Q := by
  refine spec_l1Cur_pick_o.call_ _ _ _ (cnd_dec (fun e => h _ _ (by omega) (.inr rfl) (hc.le (by omega))) fun e => spec_l1Cur_next_o.spec hc (by omega) fun r o h0 h1 h2 => cnd_dec (fun e2 => ⟨by omega, spec_l1Cur_next_o.spec h2 (by omega) fun r' o' h0' h1' h2' => ⟨by omega, by omega, ?_⟩⟩) fun e2 => ⟨by omega, ?_⟩)
  · have := tmod_ok (show 0 ≤ r * 256 + r' by omega) (show 1 < k by omega)
    exact h _ _ this.1 (.inl this.2) (h2'.le (by omega))
  · have := tmod_ok h0 (show 1 < k by omega)
    exact h _ _ this.1 (.inl this.2) (h2.le (by omega))
theorem spec_l1Cur_pick.spec {n k : Int} {c : D.L2Search} {Q : Int → D.L2Search → Prop} (hc : Cur n c) (hn : n ≤ 900000) (h : ∀ r o, 0 ≤ r → (r < k ∨ r = 0) → Cur (n + 2) o → Q r o) : spec_l1Cur_pick.call c k Q := by
  refine spec_l1Cur_pick.call_ _ _ _ (cnd_dec (fun e => h _ _ (by omega) (.inr rfl) (hc.le (by omega))) fun e => spec_l1Cur_next.spec hc (by omega) fun r o h0 h1 h2 => cnd_dec (fun e2 => ⟨by omega, spec_l1Cur_next.spec h2 (by omega) fun r' o' h0' h1' h2' => ⟨by omega, by omega, ?_⟩⟩) fun e2 => ⟨by omega, ?_⟩)
  · have := tmod_ok (show 0 ≤ r * 256 + r' by omega) (show 1 < k by omega)
    exact h _ _ this.1 (.inl this.2) (h2'.le (by omega))
  · have := tmod_ok h0 (show 1 < k by omega)
    exact h _ _ this.1 (.inl this.2) (h2.le (by omega))
theorem spec_l1Cur_among_o.spec {n : Int} {l : List Int} {c : D.L2Search} {Q : Int → D.L2Search → Prop} (hc : Cur n c) (hn : n ≤ 900000) (hl : 0 < l.length) (h : ∀ r o, r ∈ l → Cur (n + 2) o → Q r o) : spec_l1Cur_among_o.call c l Q := by
  refine spec_l1Cur_among_o.call_ _ _ _ fun _ => spec_l1Cur_pick_o.spec hc hn fun r o h0 h1 h2 => ⟨⟨h0, by omega⟩, h _ _ ?_ h2⟩
  have hlt : r.toNat < l.length := by omega
  rw [List.getD_eq_getElem?_getD, List.getElem?_eq_getElem hlt]
  exact List.getElem_mem hlt
theorem spec_l1Most.spec {a b : Int} {Q : Int → Prop} (h : ∀ r, (r = a ∧ b < a ∨ r = b ∧ a ≤ b) → Q r) : spec_l1Most.call a b Q :=
  spec_l1Most.call_ _ _ _ (cnd_dec (fun e => h _ (.inl ⟨rfl, e⟩)) fun e => h _ (.inr ⟨rfl, by omega⟩))

theorem spec_l1Cur_job12_o.spec {n : Int} {now : Int} {c : D.L2Search} {Q : D.Job → D.L2Search → Prop} (hc : Cur n c) (hn : n ≤ 800000) (hw : -10 ≤ now ∧ now ≤ 1000000) (h : ∀ j o, Cur (n + 8) o → Q j o) : spec_l1Cur_job12_o.call c now Q := by
  refine spec_l1Cur_job12_o.call_ _ _ _ (spec_l1Cur_among_o.spec hc (by omega) (by simp) fun r1 o1 m1 c1 => spec_l1Cur_pick_o.spec c1 (by omega) fun r2 o2 a2 b2 c2 => spec_l1Cur_among_o.spec c2 (by omega) (by simp) fun r3 o3 m3 c3 => ?_)
  have hr : -1 ≤ r3 ∧ r3 ≤ 3 := by simp at m3; omega
  exact ⟨by omega, spec_l1Cur_pick_o.spec c3 (by omega) fun r4 o4 a4 b4 c4 => ⟨by omega, h _ _ (c4.le (by omega))⟩⟩
end Go.Vm

/- Contracts: drawing acts and dispatchers. Own work. No condition. -/
namespace Go.Vm
open Go.Proofs
set_option linter.unusedVariables false
set_option linter.unusedSimpArgs false
open DM

theorem act_tail {n : Int} {c : D.L2Search} {k : Int} {A1 A2 A3 : Int → D.L2Search → Prop} {A4 A5 : D.L2Search → Prop} {l1 l2 l3 : List Int} (hc : Cur n c) (hn : n ≤ 800000) (p1 : 0 < l1.length) (p2 : 0 < l2.length) (p3 : 0 < l3.length)
    (h1 : ∀ r o, Cur (n + 4) o → A1 r o) (h2 : ∀ r o, Cur (n + 4) o → A2 r o) (h3 : ∀ r o, Cur (n + 4) o → A3 r o) (h4 : ∀ o, Cur (n + 4) o → A4 o) (h5 : ∀ o, Cur (n + 4) o → A5 o) :
    spec_l1Cur_pick_o.call c k (fun r o => cnd (decide (r = 0)) (spec_l1Cur_among_o.call o l1 A1) (cnd (decide (r = 1)) (spec_l1Cur_among_o.call o l2 A2) (cnd (decide (r = 2)) (spec_l1Cur_among_o.call o l3 A3) (cnd (decide (r = 3)) (A4 o) (A5 o))))) :=
  spec_l1Cur_pick_o.spec hc (by omega) fun r o _ _ c1 => cnd_dec (fun _ => spec_l1Cur_among_o.spec c1 (by omega) p1 fun r2 o2 _ c2 => h1 _ _ (c2.le (by omega))) fun _ =>
    cnd_dec (fun _ => spec_l1Cur_among_o.spec c1 (by omega) p2 fun r2 o2 _ c2 => h2 _ _ (c2.le (by omega))) fun _ =>
    cnd_dec (fun _ => spec_l1Cur_among_o.spec c1 (by omega) p3 fun r2 o2 _ c2 => h3 _ _ (c2.le (by omega))) fun _ =>
    cnd_dec (fun _ => h4 _ (c1.le (by omega))) fun _ => h5 _ (c1.le (by omega))

theorem spec_l1Cur_act12_o.spec {n : Int} {c : D.L2Search} {d : D.Dispatcher} {Q : D.Act → D.L2Search → Prop} (hc : Cur n c) (hn : n ≤ 700000) (hw : -10 ≤ d.2.2.1 ∧ d.2.2.1 ≤ 1000000) (h : ∀ a o, Cur (n + 30) o → Q a o) : spec_l1Cur_act12_o.call c d Q := by
  have hq : ∀ (m : Int) (a : D.Act) (o : D.L2Search), Cur m o → m ≤ n + 30 → Q a o := fun m a o ho hm => h a o (ho.le hm)
  refine spec_l1Cur_act12_o.call_ _ _ _ (spec_l1Cur_among_o.spec hc (by omega) (by simp) fun r1 o1 m1 c1 =>
    cnd_dec (fun _ => spec_l1Cur_job12_o.spec c1 (by omega) hw fun j o2 c2 => ?_) fun _ =>
    cnd_dec (fun _ => spec_l1Cur_among_o.spec c1 (by omega) (by simp) fun r2 o2 m2 c2 => ?_) fun _ =>
    cnd_dec (fun _ => spec_l1Cur_pick_o.spec c1 (by omega) fun r2 o2 _ _ c2 => ?_) fun _ =>
    cnd_dec (fun _ => fun _ => spec_l1Most.spec fun r _ => spec_l1Cur_pick_o.spec c1 (by omega) fun r2 o2 _ _ c2 => ?_) fun _ =>
    cnd_dec (fun _ => fun _ => spec_l1Most.spec fun r _ => spec_l1Cur_pick_o.spec c1 (by omega) fun r2 o2 _ _ c2 => spec_l1Cur_among_o.spec c2 (by omega) (by simp) fun r3 o3 m3 c3 => ?_) fun _ => ?_)
  · exact act_tail c2 (by omega) (by simp) (by simp) (by simp) (fun _ _ x => hq _ _ _ x (by omega)) (fun _ _ x => hq _ _ _ x (by omega)) (fun _ _ x => hq _ _ _ x (by omega)) (fun _ x => hq _ _ _ x (by omega)) (fun _ x => hq _ _ _ x (by omega))
  · exact act_tail c2 (by omega) (by simp) (by simp) (by simp) (fun _ _ x => hq _ _ _ x (by omega)) (fun _ _ x => hq _ _ _ x (by omega)) (fun _ _ x => hq _ _ _ x (by omega)) (fun _ x => hq _ _ _ x (by omega)) (fun _ x => hq _ _ _ x (by omega))
  · exact act_tail c2 (by omega) (by simp) (by simp) (by simp) (fun _ _ x => hq _ _ _ x (by omega)) (fun _ _ x => hq _ _ _ x (by omega)) (fun _ _ x => hq _ _ _ x (by omega)) (fun _ x => hq _ _ _ x (by omega)) (fun _ x => hq _ _ _ x (by omega))
  · exact act_tail c2 (by omega) (by simp) (by simp) (by simp) (fun _ _ x => hq _ _ _ x (by omega)) (fun _ _ x => hq _ _ _ x (by omega)) (fun _ _ x => hq _ _ _ x (by omega)) (fun _ x => hq _ _ _ x (by omega)) (fun _ x => hq _ _ _ x (by omega))
  · exact act_tail c3 (by omega) (by simp) (by simp) (by simp) (fun _ _ x => hq _ _ _ x (by omega)) (fun _ _ x => hq _ _ _ x (by omega)) (fun _ _ x => hq _ _ _ x (by omega)) (fun _ x => hq _ _ _ x (by omega)) (fun _ x => hq _ _ _ x (by omega))
  · exact act_tail c1 (by omega) (by simp) (by simp) (by simp) (fun _ _ x => hq _ _ _ x (by omega)) (fun _ _ x => hq _ _ _ x (by omega)) (fun _ _ x => hq _ _ _ x (by omega)) (fun _ x => hq _ _ _ x (by omega)) (fun _ x => hq _ _ _ x (by omega))

theorem spec_l1Cur_dispatcher_o.spec {n : Int} {c : D.L2Search} {Q : D.Dispatcher → D.L2Search → Prop} (hc : Cur n c) (hn : n ≤ 100000) (h : ∀ d o, Cur (n + 1000) o → (-10 ≤ d.2.2.1 ∧ d.2.2.1 ≤ 1000000) → Q d o) : spec_l1Cur_dispatcher_o.call c Q := by
  refine spec_l1Cur_dispatcher_o.call_ _ _ (spec_l1Cur_among_o.spec hc (by omega) (by simp) fun r1 o1 m1 c1 => spec_l1Cur_pick_o.spec c1 (by omega) fun r2 o2 a2 b2 c2 => ⟨by omega, spec_l1Cur_pick_o.spec c2 (by omega) fun r3 o3 a3 b3 c3 => ?_⟩)
  have g0 : Good (r1, ((1 + r2), (0, (([] : List (D.Job)), ([] : List (D.Task)))))) := by
    refine ⟨?_, ?_, ?_, rfl, ?_⟩
    · simp at m1; simp only; omega
    · simp only; omega
    · simp only; omega
    · intro k h0 h1; simp at h1; omega
  have loop : ∀ (k : Nat) (m : Int) (o : D.L2Search) (d : D.Dispatcher), Good d → Cur m o → m + 31 * k ≤ n + 900 → spec_l1Cur_dispatcher_o.at3 c Q o d k := by
    intro k
    induction k with
    | zero =>
      intro m o d g ho hm
      have hl8 := (good_semi g).2
      have hj8 := jobs_len g.jobs
      have hnow := g.now
      have hm4 := g.mac
      have fin : ∀ (m' : Int) (d' : D.Dispatcher) (o' : D.L2Search), Cur m' o' → m' ≤ n + 1000 → (-10 ≤ d'.2.2.1 ∧ d'.2.2.1 ≤ 1000000) → Q d' o' := fun m' d' o' a b e => h d' o' (a.le b) e
      refine spec_l1Cur_dispatcher_o.at3_ _ _ _ _ _ (cnd_dec (fun e => absurd e (by omega)) fun _ => fun _ => spec_l1Most.spec fun r5 h5 => spec_l1Cur_pick_o.spec ho (by omega) fun r6 o6 a6 b6 c6 => spec_l1Cur_pick_o.spec c6 (by omega) fun r8 o8 a8 b8 c8 => ?_)
      have hin : 0 < (d.2.2.2.2.length : Int) → 0 ≤ r6 ∧ r6 < (d.2.2.2.2.length : Int) := fun hp => ⟨a6, by omega⟩
      have e0 : 0 + Int.toNat r6 = Int.toNat r6 := by omega
      rw [e0]
      refine cnd_dec (fun _ => spec_l1Cur_among_o.spec c8 (by omega) (by simp) fun r o _ co => fin _ _ _ co (by omega) (by simp only; omega)) fun _ =>
        cnd_dec (fun _ => spec_l1Cur_among_o.spec c8 (by omega) (by simp) fun r o _ co => fin _ _ _ co (by omega) (by simp only; omega)) fun _ =>
        cnd_dec (fun _ => spec_l1Cur_among_o.spec c8 (by omega) (by simp) fun r o mr co => fin _ _ _ co (by omega) (by simp at mr; simp only; omega)) fun _ =>
        cnd_dec (fun _ => fun _ => cnd_dec (fun hp => ⟨hin hp, spec_l1Cur_pick_o.spec c8 (by omega) fun r o ar br co => ?_⟩) fun _ => fin _ _ _ c8 (by omega) (by omega)) fun _ =>
        cnd_dec (fun _ => fun _ => cnd_dec (fun hp => spec_l1Cur_pick_o.spec c8 (by omega) fun r o ar br co => ⟨by omega, hin hp, fin _ _ _ co (by omega) (by simp only; omega)⟩) fun _ => fin _ _ _ c8 (by omega) (by omega)) fun _ =>
        cnd_dec (fun _ => fun _ => cnd_dec (fun hp => ⟨hin hp, by simp; omega, fin _ _ _ c8 (by omega) (by simp only; omega)⟩) fun _ => fin _ _ _ c8 (by omega) (by omega)) fun _ =>
        cnd_dec (fun _ => fun _ => cnd_dec (fun hp => ⟨by omega, spec_l1Cur_pick_o.spec c8 (by omega) fun r o ar br co => ⟨by omega, hin hp, fun _ => fin _ _ _ co (by omega) (by simp only; omega)⟩⟩) fun _ => fin _ _ _ c8 (by omega) (by omega)) fun _ => fin _ _ _ c8 (by omega) (by omega)
      have ht := g.tasks r6 (hin hp).1 (hin hp).2
      have hj := job_in g.jobs ht.job.1 ht.job.2
      have hs := ht.sta
      have hb : 0 ≤ (tk d r6).2.2 ∧ (tk d r6).2.2 ≤ 1000 := by omega
      simp only [tk] at hb
      exact ⟨by omega, by omega, hin hp, fin _ _ _ co (by omega) (by simp only; omega)⟩
    | succ k ih =>
      intro m o d g ho hm
      have hnow := g.now
      have hm0 : 0 ≤ m := Int.le_trans ho.1 ho.2
      refine spec_l1Cur_dispatcher_o.at3_ _ _ _ _ _ (cnd_dec (fun _ => spec_l1Cur_act12_o.spec ho (by omega) (by omega) fun a o2 c2 => ?_) fun e => absurd (show (0 : Int) < ((k + 1 : Nat) : Int) by omega) e)
      have ek : ((k + 1 : Nat) : Int) - 1 = (k : Int) := by omega
      rw [ek]
      exact spec_l12Act.spec g (fun ha => ⟨by omega, ih _ _ _ ha.2.2 c2 (by omega)⟩) fun _ => ⟨by omega, ih _ _ _ g c2 (by omega)⟩
  have e3 : r3 = ((r3.toNat : Nat) : Int) := by omega
  rw [e3]
  exact loop _ _ _ _ g0 c3 (by omega)

theorem spec_DrawNewDispatcher.spec {code : List Int} {Q : Int → Int → Prop} (h : ∀ a b, Q a b) : spec_DrawNewDispatcher.call code Q :=
  spec_DrawNewDispatcher.call_ _ _ (spec_l1Cur_pick.spec (n := 0) ⟨by simp, by simp⟩ (by omega) fun r o a b c => ⟨by omega, spec_l1Cur_pick.spec c (by omega) fun r2 o2 _ _ _ => h _ _⟩)
theorem spec_DrawActDispatcher.spec {code : List Int} {Q : D.Dispatcher → D.Act → Prop} (h : ∀ a b, Q a b) : spec_DrawActDispatcher.call code Q :=
  spec_DrawActDispatcher.call_ _ _ (spec_l1Cur_dispatcher_o.spec (n := 0) ⟨by simp, by simp⟩ (by omega) fun d o co hd => spec_l1Cur_act12_o.spec co (by omega) hd fun a o2 _ => h _ _)
theorem spec_DrawPlayActs.spec {code : List Int} {Q : D.Dispatcher → List D.Act → Prop} (h : ∀ a b, Q a b) : spec_DrawPlayActs.call code Q := by
  refine spec_DrawPlayActs.call_ _ _ (spec_l1Cur_dispatcher_o.spec (n := 0) ⟨by simp, by simp⟩ (by omega) fun d o co hd => spec_l1Cur_pick_o.spec co (by omega) fun r o2 a b c2 => ?_)
  have loop : ∀ (k : Nat) (m : Int) (l : List D.Act) (o : D.L2Search), Cur m o → m + 31 * k ≤ 10000 → l.length + k ≤ 100 → spec_DrawPlayActs.at5 code Q d l k o := by
    intro k
    induction k with
    | zero => intro m l o ho hm hl; exact spec_DrawPlayActs.at5_ _ _ _ _ _ _ (cnd_dec (fun e => absurd e (by omega)) fun _ => h _ _)
    | succ k ih =>
      intro m l o ho hm hl
      have ek : ((k + 1 : Nat) : Int) - 1 = (k : Int) := by omega
      refine spec_DrawPlayActs.at5_ _ _ _ _ _ _ (cnd_dec (fun _ => spec_l1Cur_act12_o.spec ho (by omega) hd fun a o2 c2 => ⟨by simp; omega, by omega, ?_⟩) fun e => absurd (show (0 : Int) < ((k + 1 : Nat) : Int) by omega) e)
      rw [ek]
      exact ih _ _ _ c2 (by omega) (by simp; omega)
  have e3 : r = ((r.toNat : Nat) : Int) := by omega
  rw [e3]
  exact loop _ _ _ _ c2 (by omega) (by simp; omega)
end Go.Vm

/- The law of the dispatchers. Own work. No condition. -/
namespace Go.Vm
open Go.Proofs
set_option linter.unusedVariables false
set_option linter.unusedSimpArgs false
open DM

namespace DM
abbrev runA (n : Int) : D.Act := (2, (n, (0, (0, (0, (0, 0))))))
theorem zd_not : ¬ Good ZD := fun g => by have := g.mac; simp [ZD] at this
theorem plain_run (n : Int) : Plain (runA n) := by
  unfold Plain Named runA
  simp [J0]
theorem raw_run (d : D.Dispatcher) (n : Int) : rawM d (runA n) = runK n.toNat d := by
  unfold rawM; simp
theorem run_good {d : D.Dispatcher} {n : Int} (g : Good d) (h : 1 ≤ n) (h2 : n ≤ 1000 - d.2.2.1) : Good (runK n.toNat d) ∧ (runK n.toNat d).2.2.1 = d.2.2.1 + n := by
  have := runK_good n.toNat g (by omega)
  exact ⟨this.1, by have := this.2; omega⟩
theorem acts_run {d : D.Dispatcher} {n : Int} (g : Good d) (h : 1 ≤ n) : Acts d (runA n) ↔ n ≤ 1000 - d.2.2.1 := by
  unfold Acts May
  constructor
  · rintro ⟨-, h2, -⟩
    rcases h2 with h2 | h2 | h2 | h2 | h2 | h2 <;> simp at h2 <;> omega
  · intro h2
    refine ⟨plain_run n, .inr (.inl ⟨rfl, h, h2⟩), ?_⟩
    rw [raw_run]; exact (run_good g h h2).1
open Classical in
noncomputable def newR (m p : Int) : D.Dispatcher × Bool := if Good (m, p, 0, [], []) then ((m, p, 0, [], []), true) else (ZD, false)
open Classical in
noncomputable def actR (d : D.Dispatcher) (a : D.Act) : D.Dispatcher × Bool := if Good d ∧ Acts d a then (rawM d a, true) else (ZD, false)
open Classical in
noncomputable def isR (d : D.Dispatcher) : Bool := if Good d then true else false
def PlayR (d : D.Dispatcher) (l : List D.Act) (d' : D.Dispatcher) (n : Int) (b : Bool) : Prop := (Good d ∧ Play d l 0 d' n ∧ b = true) ∨ (¬ Good d ∧ d' = ZD ∧ n = 0 ∧ b = false)
theorem PlayR.det {d : D.Dispatcher} {l : List D.Act} {d' : D.Dispatcher} {n : Int} {b : Bool} {d2 : D.Dispatcher} {n2 : Int} {b2 : Bool} (h : PlayR d l d' n b) (h2 : PlayR d l d2 n2 b2) : d' = d2 ∧ n = n2 ∧ b = b2 := by
  rcases h with ⟨g, h, e⟩ | ⟨g, h, e, e'⟩ <;> rcases h2 with ⟨g2, h2, e2⟩ | ⟨g2, h2, e2, e2'⟩
  · have := h.det h2
    exact ⟨this.1, this.2, by rw [e, e2]⟩
  · exact absurd g g2
  · exact absurd g2 g
  · exact ⟨by rw [h, h2], by rw [e, e2], by rw [e', e2']⟩
theorem PlayR.good {d : D.Dispatcher} {l : List D.Act} {d' : D.Dispatcher} {n : Int} {b : Bool} (h : PlayR d l d' n b) (e : b = true) : Good d' := by
  rcases h with ⟨g, h, _⟩ | ⟨g, h, _, e'⟩
  · exact h.good g
  · rw [e] at e'; cases e'
theorem actR_good {d : D.Dispatcher} {a : D.Act} (e : (actR d a).2 = true) : Good (actR d a).1 := by
  unfold actR at e ⊢
  split
  · rename_i h; exact h.2.2.2
  · rename_i h; rw [if_neg h] at e; cases e
end DM

theorem impl_IsDispatcher.R {d : D.Dispatcher} {Q : Bool → Prop} (h : Q (isR d)) : impl_IsDispatcher.call d Q :=
  impl_IsDispatcher.spec (fun g => by unfold isR at h; rwa [if_neg g] at h) (fun g => by unfold isR at h; rwa [if_pos g] at h)
theorem spec_IsDispatcher.R {d : D.Dispatcher} {Q : Bool → Prop} (h : Q (isR d)) : spec_IsDispatcher.call d Q :=
  spec_IsDispatcher.spec (fun g => by unfold isR at h; rwa [if_neg g] at h) (fun g => by unfold isR at h; rwa [if_pos g] at h)
theorem impl_NewDispatcher.R {m p : Int} {Q : D.Dispatcher → Bool → Prop} (h : Q (newR m p).1 (newR m p).2) : impl_NewDispatcher.call m p Q :=
  impl_NewDispatcher.spec (fun g => by unfold newR at h; rwa [if_pos g] at h) (fun g => by unfold newR at h; rwa [if_neg g] at h)
theorem spec_NewDispatcher.R {m p : Int} {Q : D.Dispatcher → Bool → Prop} (h : Q (newR m p).1 (newR m p).2) : spec_NewDispatcher.call m p Q :=
  spec_NewDispatcher.spec (fun g => by unfold newR at h; rwa [if_pos g] at h) (fun g => by unfold newR at h; rwa [if_neg g] at h)
theorem impl_ActDispatcher.R {d : D.Dispatcher} {a : D.Act} {Q : D.Dispatcher → Bool → Prop} (h : Q (actR d a).1 (actR d a).2) : impl_ActDispatcher.call d a Q :=
  impl_ActDispatcher.spec (fun g ha => by unfold actR at h; rwa [if_pos ⟨g, ha⟩] at h) (fun g => by unfold actR at h; rwa [if_neg g] at h)
theorem spec_ActDispatcher.R {d : D.Dispatcher} {a : D.Act} {Q : D.Dispatcher → Bool → Prop} (h : Q (actR d a).1 (actR d a).2) : spec_ActDispatcher.call d a Q :=
  spec_ActDispatcher.spec (fun g ha => by unfold actR at h; rwa [if_pos ⟨g, ha⟩] at h) (fun g => by unfold actR at h; rwa [if_neg g] at h)
theorem impl_PlayActs.R {d : D.Dispatcher} {l : List D.Act} {Q : D.Dispatcher → Int → Bool → Prop} (h : ∀ d' n b, PlayR d l d' n b → Q d' n b) : impl_PlayActs.call d l Q :=
  impl_PlayActs.spec (fun g d' n hp => h _ _ _ (.inl ⟨g, hp, rfl⟩)) (fun g => h _ _ _ (.inr ⟨g, rfl, rfl, rfl⟩))
theorem spec_PlayActs.R {d : D.Dispatcher} {l : List D.Act} {Q : D.Dispatcher → Int → Bool → Prop} (h : ∀ d' n b, PlayR d l d' n b → Q d' n b) : spec_PlayActs.call d l Q :=
  spec_PlayActs.spec (fun g d' n hp => h _ _ _ (.inl ⟨g, hp, rfl⟩)) (fun g => h _ _ _ (.inr ⟨g, rfl, rfl, rfl⟩))

theorem run_tail {Q : Bool → Prop} (h : Q true) (d : D.Dispatcher) {one two : Int} (h1 : 1 ≤ one ∧ one ≤ 9) (h2 : 1 ≤ two ∧ two ≤ 9) :
    impl_ActDispatcher.call d (2, (one, (0, (0, (0, (0, 0)))))) (fun r33 r34 =>
      impl_ActDispatcher.call r33 (2, (two, (0, (0, (0, (0, 0)))))) (fun r35 r36 =>
       (((-9223372036854775808 : Int) ≤ (one + two) ∧ (one + two) ≤ 9223372036854775807) ∧
       impl_ActDispatcher.call d (2, ((one + two), (0, (0, (0, (0, 0)))))) (fun r37 r38 =>
        cnd r34
         (cnd ((cond true r36 false) == r38)
           (cnd (!r38)
             (Q (cond true true false))
             (laws_vDispatcher.call r35 r37 (fun r39 =>
               Q (cond true (cond false true r39) false))))
           (Q false))
         (cnd (false == r38)
           (cnd (!r38)
             (Q (cond true true false))
             (laws_vDispatcher.call r35 r37 (fun r40 =>
               Q (cond true (cond false true r40) false))))
           (Q false)))))) := by
  refine impl_ActDispatcher.R (impl_ActDispatcher.R ⟨by omega, impl_ActDispatcher.R ?_⟩)
  by_cases hA : Good d ∧ one ≤ 1000 - d.2.2.1
  · have hx : actR d (2, (one, (0, (0, (0, (0, 0)))))) = (runK one.toNat d, true) := by
      unfold actR
      rw [if_pos ⟨hA.1, (acts_run hA.1 h1.1).2 hA.2⟩, raw_run]
    have g2 := run_good hA.1 h1.1 hA.2
    rw [hx]
    simp only
    by_cases hB : two ≤ 1000 - (runK one.toNat d).2.2.1
    · have hy : actR (runK one.toNat d) (2, (two, (0, (0, (0, (0, 0)))))) = (runK two.toNat (runK one.toNat d), true) := by
        unfold actR
        rw [if_pos ⟨g2.1, (acts_run g2.1 h2.1).2 hB⟩, raw_run]
      have hz : actR d (2, ((one + two), (0, (0, (0, (0, 0)))))) = (runK two.toNat (runK one.toNat d), true) := by
        unfold actR
        have e : (one + two).toNat = one.toNat + two.toNat := by omega
        rw [if_pos ⟨hA.1, (acts_run hA.1 (by omega)).2 (by have := g2.2; omega)⟩, raw_run, e, runK_add]
      rw [hy, hz]
      exact laws_vDispatcher.same h
    · have hy : actR (runK one.toNat d) (2, (two, (0, (0, (0, (0, 0)))))) = (ZD, false) := by
        unfold actR
        rw [if_neg fun hh => hB ((acts_run g2.1 h2.1).1 hh.2)]
      have hz : actR d (2, ((one + two), (0, (0, (0, (0, 0)))))) = (ZD, false) := by
        unfold actR
        rw [if_neg fun hh => hB (by have := (acts_run hA.1 (by omega)).1 hh.2; have := g2.2; omega)]
      rw [hy, hz]
      exact h
  · have hx : actR d (2, (one, (0, (0, (0, (0, 0)))))) = (ZD, false) := by
      unfold actR
      rw [if_neg fun hh => hA ⟨hh.1, (acts_run hh.1 h1.1).1 hh.2⟩]
    have hz : actR d (2, ((one + two), (0, (0, (0, (0, 0)))))) = (ZD, false) := by
      unfold actR
      rw [if_neg fun hh => hA ⟨hh.1, by have := (acts_run hh.1 (show 1 ≤ one + two by omega)).1 hh.2; omega⟩]
    rw [hx, hz]
    exact h

theorem nine {r : Int} (h0 : 0 ≤ r) : (1 : Int) ≤ 1 + Int.tmod r 9 ∧ 1 + Int.tmod r 9 ≤ 9 := by
  have := Int.tmod_nonneg (a := r) 9 h0
  have := Int.tmod_lt_of_pos r (show (0 : Int) < 9 by omega)
  omega
theorem c_tn {A B : Prop} (h : B) : cnd (cond true (!true) false) A B := h
theorem c_ftn {A B : Prop} (h : B) : cnd (cond false true (cond true (!true) false)) A B := h
theorem c_ff {A B : Prop} (h : B) : cnd (cond false true false) A B := h

theorem laws_FnDispatchers.spec {code : List Int} {Q : Bool → Prop} (h : Q true) : laws_FnDispatchers.call code Q := by
  refine laws_FnDispatchers.call_ _ _ (laws_vBig.spec (cnd_dec (fun _ => h) fun hb => ?_))
  have hc : (code.length : Int) ≤ 65536 := by omega
  refine spec_DrawNewDispatcher.spec fun m p => impl_NewDispatcher.R (spec_NewDispatcher.R (laws_vCut.spec (by omega) hc fun c1 _ => spec_DrawActDispatcher.spec fun d a => impl_ActDispatcher.R (spec_ActDispatcher.R (laws_vCut.spec (by omega) hc fun c2 _ => spec_DrawPlayActs.spec fun d2 l => impl_PlayActs.R fun e n b hp => spec_PlayActs.R fun e' n' b' hp' => ?_))))
  obtain ⟨rfl, rfl, rfl⟩ := hp.det hp'
  refine cnd_of (fun x => by simp at x) fun _ => laws_vDispatcher.same (c_ft (cnd_of (fun x => by simp at x) fun _ => laws_vDispatcher.same (c_ft (cnd_of (fun x => by simp at x) fun _ => cnd_of (fun x => by simp at x) fun _ => laws_vDispatcher.same (c_ft (impl_IsDispatcher.R (spec_IsDispatcher.R (cnd_of (fun x => by simp at x) fun _ => ?_))))))))
  have two : ∀ {A : Int → Prop}, (∀ r, 0 ≤ r → A r) → ∀ i : Int, 0 ≤ i → i ≤ 1000 → laws_vAt.call code i A := fun hA i h0 h1 => laws_vAt.spec h0 h1 hc fun r a _ => hA r a
  have ok : ∀ r : Int, 0 ≤ r → ((-9223372036854775808 : Int) ≤ (1 + (Int.tmod r 9)) ∧ (1 + (Int.tmod r 9)) ≤ 9223372036854775807) := fun r a => by have := nine a; omega
  refine cnd_of (fun x => impl_IsDispatcher.spec (fun g => absurd (actR_good x) g) fun _ => c_tn (cnd_of (fun y => impl_IsDispatcher.spec (fun g => absurd (hp.good y) g) fun _ => c_ftn ?_) fun y => c_ff ?_)) fun x => cnd_of (fun y => impl_IsDispatcher.spec (fun g => absurd (hp.good y) g) fun _ => c_ftn ?_) fun y => c_ff ?_
  all_goals exact two (fun r a => ⟨by omega, ok r a, two (fun r2 a2 => ⟨by omega, ok r2 a2, run_tail h d (nine a) (nine a2)⟩) 4 (by omega) (by omega)⟩) 3 (by omega) (by omega)
end Go.Vm
