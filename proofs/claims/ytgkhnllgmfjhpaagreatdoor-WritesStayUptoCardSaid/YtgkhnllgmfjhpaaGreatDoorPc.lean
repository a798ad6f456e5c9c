/- Rules as instructions, in plain words. No statement of its own. -/
import Derived.Test.YtgkhnllgmfjhpaaGreatDoorOr
import Derived.Test.YtgkhnllgmfjhpaaGreatDoorRuL
import Derived.Test.YtgkhnllgmfjhpaaGreatDoorTmD
set_option linter.unusedSimpArgs false
set_option linter.unusedVariables false
set_option maxRecDepth 100000
namespace Go.Proofs.YtgkhnllgmfjhpaaGreatDoor
open Go.RowKit
structure Opn where
  k : Int
  nm : ByteArray
  tx : ByteArray
  ps : List Prt
  n : Int
def Opn.cs (o : Opn) : List AV := [.i o.k, .s o.nm, .s o.tx, .sl .no 2 (prtL o.ps), .i o.n]
def opL (l : List Opn) : List (List AV) := l.map Opn.cs
def rlL (l : List Rl) : List (List AV) := l.map Rl.cs
theorem opL_len (l : List Opn) : (opL l).length = l.length := by simp [opL]
theorem rlL_len (l : List Rl) : (rlL l).length = l.length := by simp [rlL]
theorem opL_at {l : List Opn} {k : Nat} (h : k < l.length) : (opL l)[k]? = some l[k].cs := by simp [opL, h]
theorem rlL_at {l : List Rl} {k : Nat} (h : k < l.length) : (rlL l)[k]? = some l[k].cs := by simp [rlL, h]
theorem opL_el (l : List Opn) : ∀ e ∈ opL l, e.length = 5 ∧ e.all AV.flat = true := fun e he => by
  obtain ⟨o, _, rfl⟩ := List.mem_map.1 he
  exact ⟨rfl, rfl⟩
theorem rlL_el (l : List Rl) : ∀ e ∈ rlL l, e.length = 8 ∧ e.all AV.flat = true := fun e he => by
  obtain ⟨o, _, rfl⟩ := List.mem_map.1 he
  exact ⟨rfl, rfl⟩
abbrev emB : ByteArray := ⟨#[]⟩
def Rl.g (r : Rl) : Int × ByteArray × ByteArray := (r.gk, r.ga, r.gb)
/-- a rule's own instruction -/
def ownO (r : Rl) : Opn :=
  if r.ac = 1 then ⟨6, r.nm, emB, r.ps, 0⟩ else if r.ac = 2 then ⟨5, r.nm, emB, r.ps, 0⟩ else if r.ac = 3 then ⟨4, r.nm, emB, [], 0⟩ else if r.ac = 4 then ⟨7, r.nm, r.un, [], 0⟩ else ⟨0, emB, emB, [], 0⟩
/-- a guard's -/
def guardO (g : Int × ByteArray × ByteArray) (n : Nat) : Opn := ⟨g.1, g.2.1, g.2.2, [], n⟩
def touchW (r : Rl) (x : ByteArray) : Bool := memB (wrR r.ac r.nm r.un) (foldB x)
/-- how many rules go on with a run -/
def contW (g : Int × ByteArray × ByteArray) : Rl → List Rl → Nat
  | _, [] => 0
  | last, r :: rs => if r.g = g ∧ touchW last g.2.1 = false then contW g r rs + 1 else 0
theorem contW_le (g : Int × ByteArray × ByteArray) : ∀ (last : Rl) (l : List Rl), contW g last l ≤ l.length
  | _, [] => Nat.le_refl _
  | last, r :: rs => by
    unfold contW
    split
    · have := contW_le g r rs
      simp; omega
    · simp
def allW (l : List Rl) : List Opn :=
  match l with
  | [] => []
  | r :: rs => if r.gk = 0 then ownO r :: allW rs else guardO r.g (contW r.g r rs + 1) :: ownO r :: ((rs.take (contW r.g r rs)).map ownO ++ allW (rs.drop (contW r.g r rs)))
termination_by l.length
decreasing_by all_goals simp; try omega
theorem allW_nil : allW [] = [] := by rw [allW]
theorem allW_plain {r : Rl} {rs : List Rl} (h : r.gk = 0) : allW (r :: rs) = ownO r :: allW rs := by rw [allW, if_pos h]
theorem allW_run {r : Rl} {rs : List Rl} (h : r.gk ≠ 0) : allW (r :: rs) = guardO r.g (contW r.g r rs + 1) :: ownO r :: ((rs.take (contW r.g r rs)).map ownO ++ allW (rs.drop (contW r.g r rs))) := by rw [allW, if_neg h]
/-- what is to come: behind what was put, with a run open, or without -/
def goW (done : List Opn) (run : Option (Rl × List Rl)) (rest : List Rl) : List Opn :=
  match run with
  | none => done ++ allW rest
  | some (last, rs) => done ++ guardO last.g (rs.length + contW last.g last rest) :: (rs.map ownO ++ (rest.take (contW last.g last rest)).map ownO ++ allW (rest.drop (contW last.g last rest)))
theorem goW_plain {done : List Opn} {r : Rl} {rest : List Rl} (h : r.gk = 0) : goW done none (r :: rest) = goW (done ++ [ownO r]) none rest := by
  unfold goW
  simp only
  rw [allW_plain h]
  simp
theorem goW_open {done : List Opn} {r : Rl} {rest : List Rl} (h : r.gk ≠ 0) : goW done none (r :: rest) = goW done (some (r, [r])) rest := by
  unfold goW
  simp only
  rw [allW_run h]
  simp [Nat.add_comm]
theorem goW_on {done : List Opn} {last r : Rl} {rs rest : List Rl} (h1 : r.g = last.g) (h2 : touchW last r.ga = false) : goW done (some (last, rs)) (r :: rest) = goW done (some (r, rs ++ [r])) rest := by
  have hk : contW last.g last (r :: rest) = contW r.g r rest + 1 := by
    rw [contW, if_pos ⟨h1, by rw [← h1]; exact h2⟩, h1]
  unfold goW
  simp only
  rw [hk, h1]
  simp only [List.take_succ_cons, List.drop_succ_cons, List.length_append, List.length_singleton, List.map_append, List.map_cons, List.map_nil, List.append_assoc, List.cons_append, List.nil_append]
  rw [show rs.length + (contW last.g r rest + 1) = rs.length + 1 + contW last.g r rest by omega]
theorem goW_shut {done : List Opn} {last r : Rl} {rs rest : List Rl} (h : ¬ (r.g = last.g ∧ touchW last r.ga = false)) : goW done (some (last, rs)) (r :: rest) = goW (done ++ guardO last.g rs.length :: rs.map ownO) none (r :: rest) := by
  have hk : contW last.g last (r :: rest) = 0 := by
    rw [contW, if_neg]
    rintro ⟨h1, h2⟩
    exact h ⟨h1, by rw [← h1] at h2; exact h2⟩
  unfold goW
  simp only
  rw [hk]
  simp
theorem goW_end_none (done : List Opn) : goW done none [] = done := by unfold goW; simp [allW_nil]
theorem goW_end_some (done : List Opn) (last : Rl) (rs : List Rl) : goW done (some (last, rs)) [] = done ++ guardO last.g rs.length :: rs.map ownO := by unfold goW; simp [allW_nil, contW]
/-- is an instruction right, ahead of so many others? -/
def rightO (o : Opn) (m : Nat) : Bool := if 1 ≤ o.k ∧ o.k ≤ 3 then decide (1 ≤ o.n ∧ o.n ≤ (m : Int)) else if 4 ≤ o.k ∧ o.k ≤ 7 then decide (o.n = 0) else false
def checkO : List Opn → Nat → Int × Int
  | [], _ => (0, 0)
  | o :: r, i => if rightO o r.length = true then checkO r (i + 1) else ((i : Int), 9)
theorem checkO_at {l : List Opn} {k : Nat} (h : k < l.length) : checkO (l.drop k) k = if rightO l[k] (l.length - 1 - k) = true then checkO (l.drop (k + 1)) (k + 1) else ((k : Int), 9) := by
  rw [List.drop_eq_getElem_cons h, checkO]
  rw [show (l.drop (k + 1)).length = l.length - 1 - k by rw [List.length_drop]; omega]
theorem ownO_right {r : Rl} (h : 1 ≤ r.ac ∧ r.ac ≤ 4) (m : Nat) : rightO (ownO r) m = true := by
  obtain ⟨h1, h2⟩ := h
  obtain h | h | h | h : r.ac = 1 ∨ r.ac = 2 ∨ r.ac = 3 ∨ r.ac = 4 := by omega
  all_goals simp [rightO, ownO, h]
theorem checkR_ac {r : Rl} (h : checkR r = 0) : 1 ≤ r.ac ∧ r.ac ≤ 4 := by
  unfold checkR at h
  split at h
  · rename_i h1
    simp only [Bool.and_eq_true] at h1
    have h2 := h1.2
    unfold actB at h2
    split at h2
    · omega
    · split at h2
      · omega
      · split at h2
        · omega
        · cases h2
  · cases h
theorem checkR_gk {r : Rl} (h : checkR r = 0) : (r.gk = 0 ∨ r.gk = 1 ∨ r.gk = 2 ∨ r.gk = 3) ∧ (r.gk = 1 ∨ r.gk = 2 → r.gb = emB) := by
  unfold checkR at h
  split at h
  · rename_i h1
    simp only [Bool.and_eq_true] at h1
    have h2 := h1.1.1.2
    unfold guardB at h2
    split at h2
    · rename_i h0
      exact ⟨.inl h0, fun h => by omega⟩
    · split at h2
      · rename_i h0
        rw [Bool.and_eq_true, decide_eq_true_eq] at h2
        exact ⟨by omega, fun _ => (emp_iff _).2 h2.2⟩
      · split at h2
        · rename_i h0 h3 h4
          exact ⟨by omega, fun h => by omega⟩
        · cases h2
  · cases h
theorem checkO_owns : ∀ {rs : List Rl} (tl : List Opn) (i : Nat), (∀ r ∈ rs, 1 ≤ r.ac ∧ r.ac ≤ 4) → (∀ i, checkO tl i = (0, 0)) → checkO (rs.map ownO ++ tl) i = (0, 0)
  | [], tl, i, _, h => h i
  | r :: rs, tl, i, h1, h => by
    rw [List.map_cons, List.cons_append, checkO, if_pos (ownO_right (h1 r List.mem_cons_self) _)]
    exact checkO_owns tl (i + 1) (fun r hr => h1 r (List.mem_cons_of_mem _ hr)) h
theorem checkO_all : ∀ (n : Nat) (l : List Rl), l.length ≤ n → (∀ r ∈ l, checkR r = 0) → ∀ i, checkO (allW l) i = (0, 0)
  | 0, l, hl, _, i => by
    have : l = [] := List.eq_nil_of_length_eq_zero (by omega)
    subst this
    rw [allW_nil]; rfl
  | n + 1, [], _, _, i => by rw [allW_nil]; rfl
  | n + 1, r :: rs, hl, h, i => by
    have hr := h r List.mem_cons_self
    have hrs : ∀ r ∈ rs, checkR r = 0 := fun r hr => h r (List.mem_cons_of_mem _ hr)
    have hl' : rs.length ≤ n := by simp at hl; omega
    by_cases h0 : r.gk = 0
    · rw [allW_plain h0, checkO, if_pos (ownO_right (checkR_ac hr) _)]
      exact checkO_all n rs hl' hrs (i + 1)
    · have hk := contW_le r.g r rs
      rw [allW_run h0, checkO, if_pos, checkO, if_pos (ownO_right (checkR_ac hr) _)]
      · refine checkO_owns _ _ (fun r hr => checkR_ac (hrs r (List.mem_of_mem_take hr))) (fun i => checkO_all n _ (by rw [List.length_drop]; omega) (fun r hr => hrs r (List.mem_of_mem_drop hr)) i)
      · obtain ⟨hg, _⟩ := checkR_gk hr
        have hg' : 1 ≤ r.gk ∧ r.gk ≤ 3 := by omega
        unfold rightO guardO
        have e1 : r.g.1 = r.gk := rfl
        simp only [e1]
        rw [if_pos hg', decide_eq_true_eq]
        simp only [List.length_cons, List.length_append, List.length_map, List.length_take]
        omega
/-- how many instructions are no guard's -/
def actsN (l : List Opn) : Nat := (l.filter fun o => decide (o.k > 3)).length
theorem actsN_take {l : List Opn} {k : Nat} (h : k < l.length) : actsN (l.take (k + 1)) = actsN (l.take k) + (if l[k].k > 3 then 1 else 0) := by
  rw [List.take_succ_eq_append_getElem h]
  unfold actsN
  rw [List.filter_append, List.length_append]
  congr 1
  by_cases hk : l[k].k > 3
  · simp [hk]
  · simp [hk]
theorem actsN_app (a b : List Opn) : actsN (a ++ b) = actsN a + actsN b := by unfold actsN; rw [List.filter_append, List.length_append]
theorem actsN_own {r : Rl} (h : checkR r = 0) : actsN [ownO r] = 1 := by
  obtain ⟨h1, h2⟩ := checkR_ac h
  obtain h | h | h | h : r.ac = 1 ∨ r.ac = 2 ∨ r.ac = 3 ∨ r.ac = 4 := by omega
  all_goals simp [actsN, ownO, h]
theorem actsN_owns : ∀ {rs : List Rl}, (∀ r ∈ rs, checkR r = 0) → actsN (rs.map ownO) = rs.length
  | [], _ => rfl
  | r :: rs, h => by
    have := actsN_app [ownO r] (rs.map ownO)
    rw [actsN_own (h r List.mem_cons_self), actsN_owns (fun r hr => h r (List.mem_cons_of_mem _ hr))] at this
    simp at this ⊢
    omega
theorem actsN_all : ∀ (n : Nat) (l : List Rl), l.length ≤ n → (∀ r ∈ l, checkR r = 0) → actsN (allW l) = l.length
  | 0, l, hl, _ => by
    have : l = [] := List.eq_nil_of_length_eq_zero (by omega)
    subst this
    rw [allW_nil]; rfl
  | n + 1, [], _, _ => by rw [allW_nil]; rfl
  | n + 1, r :: rs, hl, h => by
    have hr := h r List.mem_cons_self
    have hrs : ∀ r ∈ rs, checkR r = 0 := fun r hr => h r (List.mem_cons_of_mem _ hr)
    have hl' : rs.length ≤ n := by simp at hl; omega
    have a1 := actsN_own hr
    by_cases h0 : r.gk = 0
    · rw [allW_plain h0]
      have := actsN_app [ownO r] (allW rs)
      rw [a1, actsN_all n rs hl' hrs] at this
      simp at this ⊢
      omega
    · have hk := contW_le r.g r rs
      rw [allW_run h0]
      have a2 := actsN_owns (rs := rs.take (contW r.g r rs)) (fun r hr => hrs r (List.mem_of_mem_take hr))
      have a3 := actsN_all n (rs.drop (contW r.g r rs)) (by rw [List.length_drop]; omega) (fun r hr => hrs r (List.mem_of_mem_drop hr))
      have a4 : actsN [guardO r.g (contW r.g r rs + 1)] = 0 := by
        obtain ⟨hg, _⟩ := checkR_gk hr
        have hg' : ¬ r.gk > 3 := by omega
        have e1 : (guardO r.g (contW r.g r rs + 1)).k = r.gk := rfl
        simp [actsN, List.filter, e1, hg']
      have q1 := actsN_app [guardO r.g (contW r.g r rs + 1)] (ownO r :: ((rs.take (contW r.g r rs)).map ownO ++ allW (rs.drop (contW r.g r rs))))
      have q2 := actsN_app [ownO r] ((rs.take (contW r.g r rs)).map ownO ++ allW (rs.drop (contW r.g r rs)))
      have q3 := actsN_app ((rs.take (contW r.g r rs)).map ownO) (allW (rs.drop (contW r.g r rs)))
      rw [List.length_drop] at a3
      rw [List.length_take] at a2
      simp only [List.singleton_append] at q1 q2
      rw [q1, q2, q3, a1, a2, a3, a4, List.length_cons]
      omega
/-- may there be such rules? -/
def chkL : List Rl → Nat → Int × Int
  | [], _ => (0, 0)
  | r :: rs, i => if checkR r = 0 then chkL rs (i + 1) else ((i : Int), 9)
def checkL (l : List Rl) : Int × Int := if (chkL l 0).2 ≠ 0 then chkL l 0 else if l.length > 64 then (0, 3) else (0, 0)
theorem chkL_at {l : List Rl} {k : Nat} (h : k < l.length) : chkL (l.drop k) k = if checkR l[k] = 0 then chkL (l.drop (k + 1)) (k + 1) else ((k : Int), 9) := by
  rw [List.drop_eq_getElem_cons h, chkL]
theorem checkR_02 (r : Rl) : checkR r = 0 ∨ checkR r = 9 := by unfold checkR; split <;> simp
theorem chkL_all : ∀ (l : List Rl) (i : Nat), (chkL l i).2 = 0 ↔ ∀ r ∈ l, checkR r = 0
  | [], i => by simp [chkL]
  | r :: rs, i => by
    rw [chkL]
    by_cases h : checkR r = 0
    · rw [if_pos h, chkL_all rs (i + 1)]
      simp [h]
    · rw [if_neg h]
      simp [h]
theorem chkL_zero : ∀ (l : List Rl) (i : Nat), (∀ r ∈ l, checkR r = 0) → chkL l i = (0, 0)
  | [], i, _ => rfl
  | r :: rs, i, h => by
    rw [chkL, if_pos (h r List.mem_cons_self)]
    exact chkL_zero rs (i + 1) fun r hr => h r (List.mem_cons_of_mem _ hr)
theorem checkL_ok {l : List Rl} (h : (checkL l).2 = 0) : (∀ r ∈ l, checkR r = 0) ∧ l.length ≤ 64 := by
  unfold checkL at h
  split at h
  · rename_i h1; exact absurd h h1
  · rename_i h1
    split at h
    · cases h
    · exact ⟨(chkL_all l 0).1 (Decidable.not_not.1 h1), by omega⟩
theorem checkL_of {l : List Rl} (h : ∀ r ∈ l, checkR r = 0) (hl : l.length ≤ 64) : checkL l = (0, 0) := by
  unfold checkL
  rw [chkL_zero l 0 h, if_neg (by simp), if_neg (by omega)]
/-- a program's instructions for a side -/
def sideL (sd : Int) (l : List Rl) : List Rl := l.filter fun r => decide (r.sd = sd)
theorem sideL_take {sd : Int} {l : List Rl} {k : Nat} (h : k < l.length) : sideL sd (l.take (k + 1)) = sideL sd (l.take k) ++ (if l[k].sd = sd then [l[k]] else []) := by
  rw [List.take_succ_eq_append_getElem h]
  unfold sideL
  rw [List.filter_append]
  congr 1
  by_cases hk : l[k].sd = sd
  · simp [hk]
  · simp [hk]
theorem sideL_drop {sd : Int} {l : List Rl} {k : Nat} (h : k < l.length) : sideL sd (l.drop k) = if l[k].sd = sd then l[k] :: sideL sd (l.drop (k + 1)) else sideL sd (l.drop (k + 1)) := by
  rw [List.drop_eq_getElem_cons h]
  unfold sideL
  rw [List.filter_cons]
  by_cases hk : l[k].sd = sd
  · rw [if_pos (decide_eq_true hk), if_pos hk]
  · rw [if_neg (by rw [decide_eq_true_eq]; exact hk), if_neg hk]
theorem sideL_idem (sd : Int) (l : List Rl) : sideL sd (sideL sd l) = sideL sd l := by unfold sideL; rw [List.filter_filter]; simp
theorem sideL_mem {sd : Int} {l : List Rl} {r : Rl} (h : r ∈ sideL sd l) : r ∈ l := (List.mem_filter.1 h).1
theorem sideL_len (sd : Int) (l : List Rl) : (sideL sd l).length ≤ l.length := List.length_filter_le _ _
def compW (sd : Int) (l : List Rl) : List Opn × Int := if sd ≠ 1 ∧ sd ≠ 2 then ([], 1) else if (checkL l).2 ≠ 0 then ([], (checkL l).2) else (allW (sideL sd l), 0)
theorem allW_len : ∀ (n : Nat) (l : List Rl), l.length ≤ n → (allW l).length ≤ 2 * l.length
  | 0, l, hl => by
    have : l = [] := List.eq_nil_of_length_eq_zero (by omega)
    subst this
    rw [allW_nil]; simp
  | n + 1, [], _ => by rw [allW_nil]; simp
  | n + 1, r :: rs, hl => by
    have hl' : rs.length ≤ n := by simp at hl; omega
    by_cases h0 : r.gk = 0
    · rw [allW_plain h0]
      have := allW_len n rs hl'
      simp; omega
    · have hk := contW_le r.g r rs
      rw [allW_run h0]
      have := allW_len n (rs.drop (contW r.g r rs)) (by rw [List.length_drop]; omega)
      rw [List.length_drop] at this
      simp [List.length_take]
      omega
end Go.Proofs.YtgkhnllgmfjhpaaGreatDoor
