/- The operations over abstract values: literals, reslicing, append. No statement of its own. -/
import Derived.Test.YtfhodppaelfcfaaDoorVs4
namespace Go.Proofs.YtfhodppaelfcfaaDoor
open Go.RowKit

theorem div_mul {k sz j : Nat} (hj : j < sz) : (k * sz + j) / sz = k ∧ (k * sz + j) % sz = j := by
  constructor
  · rw [Nat.mul_comm, Nat.mul_add_div (by omega), Nat.div_eq_of_lt hj]; rfl
  · rw [Nat.mul_comm, Nat.mul_add_mod, Nat.mod_eq_of_lt hj]
theorem lt_mul {k n sz j : Nat} (hk : k < n) (hj : j < sz) : k * sz + j < n * sz := by
  have : (k + 1) * sz ≤ n * sz := Nat.mul_le_mul_right _ hk
  rw [Nat.add_mul] at this
  omega
theorem split_mul {q n sz : Nat} (h : q < n * sz) : q / sz < n ∧ q % sz < sz ∧ q / sz * sz + q % sz = q := by
  have hs : 0 < sz := by
    rcases Nat.eq_zero_or_pos sz with e | e
    · subst e; simp at h
    · exact e
  exact ⟨Nat.div_lt_of_lt_mul (by rw [Nat.mul_comm]; exact h), Nat.mod_lt _ hs, by rw [Nat.mul_comm]; exact Nat.div_add_mod q sz⟩

/-- the elements' cells in a row -/
def flatL (us : Nat → Nat → Value) (n sz : Nat) : List Value := (List.range (n * sz)).map fun q => us (q / sz) (q % sz)
theorem flatL_len (us : Nat → Nat → Value) (n sz : Nat) : (flatL us n sz).length = n * sz := by simp [flatL]
theorem flatL_at (us : Nat → Nat → Value) {n sz k j : Nat} (hk : k < n) (hj : j < sz) : (flatL us n sz)[k * sz + j]? = some (us k j) := by
  obtain ⟨h1, h2⟩ := div_mul (k := k) hj
  simp [flatL, lt_mul hk hj, h1, h2]
theorem flatL_inv {us : Nat → Nat → Value} {n sz q : Nat} {u : Value} (h : (flatL us n sz)[q]? = some u) : ∃ k j, k < n ∧ j < sz ∧ q = k * sz + j ∧ u = us k j := by
  have hl := (List.getElem?_eq_some_iff.1 h).1
  rw [flatL_len] at hl
  obtain ⟨h1, h2, h3⟩ := split_mul hl
  refine ⟨q / sz, q % sz, h1, h2, h3.symm, ?_⟩
  simp [flatL, hl] at h
  exact h.symm

section
variable {base : Nat} {J : Nat → Nat → Prop} {w0 : World} {st : St} {μ : Nat → Nat} {σ : Nat → Tkt} {w w' : World} {P : Program} {T : Tab} {K : AV → St → Prop}

/-- a row of cells holds these elements -/
structure Row (base : Nat) (J : Nat → Nat → Prop) (st : St) (μ : Nat → Nat) (σ : Nat → Tkt) (w : World) (sz : Nat) (es : List (List AV)) (us : List Value) : Prop where
  len : us.length = es.length * sz
  el : ∀ (k : Nat) (e : List AV), es[k]? = some e → e.length = sz ∧ e.all AV.flat = true
  at' : ∀ (k : Nat) (e : List AV) (j : Nat) (a : AV), es[k]? = some e → e[j]? = some a → ∃ u, us[k * sz + j]? = some u ∧ At base J st μ σ w a u

theorem Row.one {sz : Nat} {es : List (List AV)} {us : List Value} (h : Row base J st μ σ w sz es us) : ∀ u ∈ us, u.oneCell' = true := by
  intro u hu
  obtain ⟨q, hq⟩ := List.mem_iff_getElem?.1 hu
  have hl := (List.getElem?_eq_some_iff.1 hq).1
  rw [h.len] at hl
  obtain ⟨h1, h2, h3⟩ := split_mul hl
  have he : es[q / sz]? = some es[q / sz] := List.getElem?_eq_getElem h1
  obtain ⟨l1, l2⟩ := h.el _ _ he
  have ha : es[q / sz][q % sz]? = some (es[q / sz][q % sz]'(by omega)) := List.getElem?_eq_getElem (by omega)
  obtain ⟨u', k1, k2⟩ := h.at' _ _ _ _ he ha
  rw [h3, hq] at k1
  cases k1
  exact k2.one (AV.cell_of_flat (List.all_eq_true.1 l2 _ (List.mem_of_getElem? ha)))
theorem Row.append {sz : Nat} {es ys : List (List AV)} {us vs : List Value} (h : Row base J st μ σ w sz es us) (k : Row base J st μ σ w sz ys vs) : Row base J st μ σ w sz (es ++ ys) (us ++ vs) := by
  have hl := h.len
  refine ⟨by simp [h.len, k.len, Nat.add_mul], fun q e he => ?_, fun q e j a he ha => ?_⟩
  · rw [List.getElem?_append] at he
    split at he
    · exact h.el _ _ he
    · exact k.el _ _ he
  · have hjl := (List.getElem?_eq_some_iff.1 ha).1
    rw [List.getElem?_append] at he
    split at he
    · rename_i hq
      obtain ⟨u, h1, h2⟩ := h.at' _ _ _ _ he ha
      have := (List.getElem?_eq_some_iff.1 h1).1
      exact ⟨u, by rw [List.getElem?_append_left this]; exact h1, h2⟩
    · rename_i hq
      obtain ⟨u, h1, h2⟩ := k.at' _ _ _ _ he ha
      refine ⟨u, ?_, h2⟩
      have e : q * sz = es.length * sz + (q - es.length) * sz := by rw [← Nat.add_mul]; congr 1; omega
      rw [List.getElem?_append_right (by omega), hl, e, show es.length * sz + (q - es.length) * sz + j - es.length * sz = (q - es.length) * sz + j by omega]
      exact h1
theorem Row.ext {st' : St} {μ' : Nat → Nat} {σ' : Nat → Tkt} {sz : Nat} {es : List (List AV)} {us : List Value} (h : Row base J st μ σ w sz es us) (x : Ext base J st μ σ w st' μ' σ' w') : Row base J st' μ' σ' w' sz es us :=
  ⟨h.len, h.el, fun k e j a he ha => let ⟨u, h1, h2⟩ := h.at' k e j a he ha; ⟨u, h1, x.at h2⟩⟩

/-- a slice over a row of a block -/
theorem Row.sl {sz : Nat} {es : List (List AV)} {us : List Value} (h : Row base J st μ σ w sz es us) (t : Tk) (g o cap : Nat) (hn : es.length ≤ cap) (hm : cap ≤ maxLen)
    (hc : ∀ j u, us[j]? = some u → Im base J st μ σ g (o + j) ∧ w.cell? ⟨g, o + j, none⟩ = some u)
    (ht1 : t = .tight → cap = es.length)
    (ht2 : ∀ i e, t = .own i e → ∃ e0, st.tk[i]? = some e0 ∧ e ≤ e0 ∧ (e = e0 → cap ≠ es.length → (σ i).g = g ∧ o + es.length * sz = (σ i).endc ∧ o + cap * sz = (σ i).capc)) :
    At base J st μ σ w (.sl t sz es) (.slice (some ⟨g, o, none⟩) es.length cap) := by
  refine .sl t sz es g o cap (fun k j => us.getD (k * sz + j) undef) h.el hn hm (fun k e j a he ha => ?_) (fun k e j a he ha => ?_) ht1 ht2
  · obtain ⟨u, h1, h2⟩ := h.at' k e j a he ha
    obtain ⟨q1, q2⟩ := hc _ _ h1
    rw [Nat.add_assoc]
    refine ⟨q1, ?_⟩
    rw [q2, List.getD_eq_getElem?_getD, h1]; rfl
  · obtain ⟨u, h1, h2⟩ := h.at' k e j a he ha
    rw [List.getD_eq_getElem?_getD, h1]
    exact h2

/-- a slice's row -/
theorem Rp.row {sz : Nat} {es : List (List AV)} {g o : Nat} {us : Nat → Nat → Value} (hs : ∀ (k : Nat) (e : List AV), es[k]? = some e → e.length = sz ∧ e.all AV.flat = true)
    (hc : ∀ (k : Nat) (e : List AV) (j : Nat) (a : AV), es[k]? = some e → e[j]? = some a → Im base J st μ σ g (o + k * sz + j) ∧ w.cell? ⟨g, o + k * sz + j, none⟩ = some (us k j))
    (hr : ∀ (k : Nat) (e : List AV) (j : Nat) (a : AV), es[k]? = some e → e[j]? = some a → At base J st μ σ w a (us k j)) :
    Row base J st μ σ w sz es (flatL us es.length sz) ∧ ∀ j u, (flatL us es.length sz)[j]? = some u → Im base J st μ σ g (o + j) ∧ w.cell? ⟨g, o + j, none⟩ = some u := by
  refine ⟨⟨flatL_len _ _ _, hs, fun k e j a he ha => ⟨us k j, ?_, hr k e j a he ha⟩⟩, fun q u hq => ?_⟩
  · have h1 := (List.getElem?_eq_some_iff.1 he).1
    have h2 := (List.getElem?_eq_some_iff.1 ha).1
    have h3 := (hs k e he).1
    exact flatL_at us h1 (by omega)
  · obtain ⟨k, j, hk, hj, rfl, rfl⟩ := flatL_inv hq
    have he : es[k]? = some es[k] := List.getElem?_eq_getElem hk
    have h3 := (hs k _ he).1
    have ha : es[k][j]? = some (es[k][j]'(by omega)) := List.getElem?_eq_getElem (by omega)
    have := hc k _ j _ he ha
    rwa [Nat.add_assoc] at this

theorem Row.nil (sz : Nat) : Row base J st μ σ w sz [] [] := ⟨by simp, fun k e h => by simp at h, fun k e j a h => by simp at h⟩

/-- a variable's cells, read as a row -/
theorem Seen.row {p lo sz : Nat} {cs : List AV} {es : List (List AV)} (hseen : Seen cs lo es.length sz es) (hok : Ok base J w0 st μ σ w) (hcs : st.heap[p]? = some cs) :
    ∃ us, Row base J st μ σ w sz es us ∧ ∀ j v, us[j]? = some v → w.cell? ⟨μ p, lo + j, none⟩ = some v := by
  obtain ⟨_, us, T0, hb, hlen, hr⟩ := hok.hp p cs hcs
  have cellAt : ∀ (k : Nat) (e : List AV) (j : Nat) (a : AV), es[k]? = some e → e[j]? = some a → us[lo + k * sz + j]? = some (us.getD (lo + k * sz + j) undef) ∧ At base J st μ σ w a (us.getD (lo + k * sz + j) undef) := fun k e j a he ha => by
    have h1 := hseen.at' k e j a he ha
    have h2 := (List.getElem?_eq_some_iff.1 h1).1
    have h3 : us[lo + k * sz + j]? = some (us.getD (lo + k * sz + j) undef) := by
      rw [Array.getD_eq_getD_getElem?, Array.getElem?_eq_getElem (by omega)]; rfl
    exact ⟨h3, (hr _ a _ h1 h3).2.2⟩
  refine ⟨flatL (fun k j => us.getD (lo + k * sz + j) undef) es.length sz, ⟨flatL_len _ _ _, hseen.el, fun k e j a he ha => ?_⟩, fun q v hq => ?_⟩
  · have h1 := (List.getElem?_eq_some_iff.1 he).1
    have h2 := (List.getElem?_eq_some_iff.1 ha).1
    have h3 := (hseen.el k e he).1
    exact ⟨_, flatL_at _ h1 (by omega), (cellAt k e j a he ha).2⟩
  · obtain ⟨k, j, hk', hj, rfl, rfl⟩ := flatL_inv hq
    have he : es[k]? = some es[k] := List.getElem?_eq_getElem hk'
    have h3 := (hseen.el k _ he).1
    have ha : es[k][j]? = some (es[k][j]'(by omega)) := List.getElem?_eq_getElem (by omega)
    rw [← Nat.add_assoc, cell_block hb]
    exact (cellAt k _ j _ he ha).1

/-- what is appended -/
theorem srcA_sound (hok : Ok base J w0 st μ σ w) {x : AV} {xv : Value} {sz : Nat} {tx : TypeId} {K1 : List (List AV) → Prop} (hx : At base J st μ σ w x xv) (hk : (∃ e', P.underlying tx = some (.slice e')) ∨ P.underlying tx = some .string) (hv : srcA st x sz K1) :
    ∃ ys news, K1 ys ∧ Row base J st μ σ w sz ys news ∧ Src P sz tx xv ys.length news w := by
  unfold srcA at hv
  split at hv
  · rename_i p lo n cap sz'
    split at hv
    · rename_i hsz
      have hsz := of_decide_eq_true hsz
      subst hsz
      obtain ⟨cs, es, hcs, hseen, hv⟩ := hv
      obtain rfl := hseen.len
      cases hx with
      | hs _ _ _ _ _ hp hnc hm =>
        obtain ⟨_, us, T0, hb, hlen, hr⟩ := hok.hp p cs hcs
        have cellAt : ∀ (k : Nat) (e : List AV) (j : Nat) (a : AV), es[k]? = some e → e[j]? = some a → us[lo + k * sz' + j]? = some (us.getD (lo + k * sz' + j) undef) ∧ At base J st μ σ w a (us.getD (lo + k * sz' + j) undef) := fun k e j a he ha => by
          have h1 := hseen.at' k e j a he ha
          have h2 := (List.getElem?_eq_some_iff.1 h1).1
          have h3 : us[lo + k * sz' + j]? = some (us.getD (lo + k * sz' + j) undef) := by
            rw [Array.getD_eq_getD_getElem?, Array.getElem?_eq_getElem (by omega)]; rfl
          exact ⟨h3, (hr _ a _ h1 h3).2.2⟩
        have hrow : Row base J st μ σ w sz' es (flatL (fun k j => us.getD (lo + k * sz' + j) undef) es.length sz') := ⟨flatL_len _ _ _, hseen.el, fun k e j a he ha => by
          have h1 := (List.getElem?_eq_some_iff.1 he).1
          have h2 := (List.getElem?_eq_some_iff.1 ha).1
          have h3 := (hseen.el k e he).1
          exact ⟨_, flatL_at _ h1 (by omega), (cellAt k e j a he ha).2⟩⟩
        have hcc : ∀ j v, (flatL (fun k j => us.getD (lo + k * sz' + j) undef) es.length sz')[j]? = some v → w.cell? ((⟨μ p, lo, none⟩ : Addr).add j) = some v := fun q v hq => by
          obtain ⟨k, j, hk', hj, rfl, rfl⟩ := flatL_inv hq
          have he : es[k]? = some es[k] := List.getElem?_eq_getElem hk'
          have h3 := (hseen.el k _ he).1
          have ha : es[k][j]? = some (es[k][j]'(by omega)) := List.getElem?_eq_getElem (by omega)
          rw [Addr.add_lit, ← Nat.add_assoc, cell_block hb]
          exact (cellAt k _ j _ he ha).1
        refine ⟨es, _, hv, hrow, hk, fun _ => rfl, ?_, ?_, flatL_len _ _ _, hrow.one⟩
        · exact run_firstCells_some w sz' es.length ⟨μ p, lo, none⟩ es.length cap _ (flatL_len _ _ _) hcc
        · exact run_firstCells_some w.drew sz' es.length ⟨μ p, lo, none⟩ es.length cap _ (flatL_len _ _ _) (fun j v h => by rw [World.cell?_drew]; exact hcc j v h)
    · exact hv.elim
  · rename_i tg sz' es
    split at hv
    · rename_i hsz
      have hsz := of_decide_eq_true hsz
      subst hsz
      rcases hx.sl_inv with ⟨_, rfl, a, cap, rfl, hm⟩ | ⟨g, o2, cap, us, rfl, hs', hn', hm, hc, hr, ht1, ht2⟩
      · refine ⟨[], [], hv, Row.nil _, ?_⟩
        cases a with
        | none => exact ⟨hk, fun _ => rfl, by simp [run_firstCells_none], by simp [run_firstCells_none], by simp, fun _ h => by cases h⟩
        | some a =>
          have q := run_firstCells_some (P := P) w sz' 0 a 0 cap [] (by simp) (fun j v h => by simp at h)
          have q' := run_firstCells_some (P := P) w.drew sz' 0 a 0 cap [] (by simp) (fun j v h => by simp at h)
          exact ⟨hk, fun _ => rfl, q, q', by simp, fun _ h => by cases h⟩
      · obtain ⟨hrow, hcell⟩ := Rp.row hs' hc hr
        have hcc : ∀ j v, (flatL us es.length sz')[j]? = some v → w.cell? ((⟨g, o2, none⟩ : Addr).add j) = some v := fun j v h => by rw [Addr.add_lit]; exact (hcell j v h).2
        refine ⟨es, _, hv, hrow, hk, fun _ => rfl, ?_, ?_, flatL_len _ _ _, hrow.one⟩
        · exact run_firstCells_some w sz' es.length ⟨g, o2, none⟩ es.length cap _ (flatL_len _ _ _) hcc
        · exact run_firstCells_some w.drew sz' es.length ⟨g, o2, none⟩ es.length cap _ (flatL_len _ _ _) (fun j v h => by rw [World.cell?_drew]; exact hcc j v h)
    · exact hv.elim
  · rename_i a cap
    cases hx
    refine ⟨[], [], hv, Row.nil _, ?_⟩
    cases a with
    | none => exact ⟨hk, fun _ => rfl, by simp [run_firstCells_none], by simp [run_firstCells_none], by simp, fun _ h => by cases h⟩
    | some a =>
      have q := run_firstCells_some (P := P) w sz 0 a 0 cap [] (by simp) (fun j v h => by simp at h)
      have q' := run_firstCells_some (P := P) w.drew sz 0 a 0 cap [] (by simp) (fun j v h => by simp at h)
      exact ⟨hk, fun _ => rfl, q, q', by simp, fun _ h => by cases h⟩
  · rename_i s
    split at hv
    · rename_i hsz
      have hsz := of_decide_eq_true hsz
      subst hsz
      cases hx
      refine ⟨_, byteCells s, hv, ⟨by simp [byteCells], fun k e he => ?_, fun k e j a he ha => ?_⟩, hk, fun _ => by rw [List.length_map, data_len]; rfl, ?_, ?_, by simp [byteCells], fun u hu => ?_⟩
      · simp only [List.getElem?_map, Option.map_eq_some_iff] at he
        obtain ⟨b, hb, rfl⟩ := he
        exact ⟨rfl, rfl⟩
      · simp only [List.getElem?_map, Option.map_eq_some_iff] at he
        obtain ⟨b, hb, rfl⟩ := he
        have : j = 0 := by
          have := (List.getElem?_eq_some_iff.1 ha).1
          simp at this
          exact this
        subst this
        simp at ha
        subst ha
        exact ⟨.int .u8 b.toNat, by simp only [byteCells, List.getElem?_map, Nat.mul_one, Nat.add_zero, hb, Option.map_some], .lit _⟩
      · rw [List.length_map, data_len]; exact firstCells_string (P := P) s w
      · rw [List.length_map, data_len]; exact firstCells_string (P := P) s w.drew
      · obtain ⟨_, _, rfl⟩ := List.mem_map.1 hu
        rfl
    · exact hv.elim
  · exact hv.elim

theorem flat_len {sz : Nat} : ∀ {ys : List (List AV)}, (∀ (k : Nat) (e : List AV), ys[k]? = some e → e.length = sz) → ys.flatten.length = ys.length * sz
  | [], _ => by simp
  | y :: r, h => by
    rw [List.flatten_cons, List.length_append, flat_len (fun k e he => h (k + 1) e (by simpa using he)), h 0 y rfl, List.length_cons, Nat.add_mul]
    omega
theorem flat_get {sz : Nat} : ∀ {ys : List (List AV)}, (∀ (k : Nat) (e : List AV), ys[k]? = some e → e.length = sz) → ∀ (k j : Nat) (e : List AV), ys[k]? = some e → j < sz → ys.flatten[k * sz + j]? = e[j]?
  | [], _, k, j, e, he, _ => by simp at he
  | y :: r, h, 0, j, e, he, hj => by
    have hy := h 0 y rfl
    simp at he
    subst he
    rw [List.flatten_cons, Nat.zero_mul, Nat.zero_add, List.getElem?_append_left (by omega)]
  | y :: r, h, k + 1, j, e, he, hj => by
    have hy := h 0 y rfl
    rw [List.flatten_cons, List.getElem?_append_right (by rw [hy, Nat.add_mul]; omega), hy, show (k + 1) * sz + j - sz = k * sz + j by rw [Nat.add_mul]; omega]
    exact flat_get (fun k e he => h (k + 1) e (by simpa using he)) k j e (by simpa using he) hj
theorem zerosL_len (z : List Value) (n : Nat) : (zerosL z n).length = n * z.length := by simp [zerosL]
theorem zerosL_at {z : List Value} {n q : Nat} (hq : q < n * z.length) : (zerosL z n)[q]? = some (.lit (z.getD (q % z.length) undef)) := by simp [zerosL, hq]
theorem zeroCells_at {z : List Value} {n q : Nat} (hq : q < n * z.length) : (Builtin.zeroCells z.toArray n)[q]? = some (z.getD (q % z.length) undef) := by
  have hz : 0 < z.length := Nat.pos_of_ne_zero fun e => by rw [e] at hq; omega
  have hm : q % z.length < z.length := Nat.mod_lt _ hz
  simp [Builtin.zeroCells, hq, List.getD_eq_getElem?_getD, hm]
theorem zero_one {z : List Value} (h : z.all Value.oneCell' = true) {n q : Nat} (hq : q < n * z.length) : (z.getD (q % z.length) undef).oneCell' = true := by
  have hz : 0 < z.length := Nat.pos_of_ne_zero fun e => by rw [e] at hq; omega
  have hm : q % z.length < z.length := Nat.mod_lt _ hz
  rw [List.getD_eq_getElem?_getD, List.getElem?_eq_getElem hm]
  exact List.all_eq_true.1 h _ (List.getElem_mem hm)
theorem AV.older_of_flat {a : AV} (h : a.flat = true) (p : Nat) : a.older p = true := by
  cases a with
  | sl t sz es => rfl
  | lit v => rfl
  | _ => cases h
/-- a row's cells, and zeros behind them, as a variable's -/
theorem Row.vars {sz : Nat} {ys : List (List AV)} {news : List Value} (hrow : Row base J st μ σ w sz ys news) {z : List Value} (hz : z.all Value.oneCell' = true) (hzl : z.length = sz) (x p : Nat) :
    (ys.flatten ++ zerosL z x).length = (news.toArray ++ Builtin.zeroCells z.toArray x).size ∧
    ∀ (j : Nat) a u, (ys.flatten ++ zerosL z x)[j]? = some a → (news.toArray ++ Builtin.zeroCells z.toArray x)[j]? = some u → a.cell = true ∧ a.old p = true ∧ At base J st μ σ w a u := by
  have hel : ∀ (k : Nat) (e : List AV), ys[k]? = some e → e.length = sz := fun k e he => (hrow.el k e he).1
  have hfl := flat_len hel
  refine ⟨by rw [List.length_append, hfl, zerosL_len, Array.size_append, List.size_toArray, hrow.len]; simp [Builtin.zeroCells], fun q a u ha hu => ?_⟩
  by_cases hq : q < ys.length * sz
  · rw [List.getElem?_append_left (by omega)] at ha
    rw [Array.getElem?_append_left (by simpa [hrow.len] using hq)] at hu
    obtain ⟨h1, h2, h3⟩ := split_mul hq
    have he : ys[q / sz]? = some ys[q / sz] := List.getElem?_eq_getElem h1
    have := flat_get hel _ _ _ he h2
    rw [h3, ha] at this
    obtain ⟨u', k1, k2⟩ := hrow.at' _ _ _ _ he this.symm
    rw [h3] at k1
    have hu' : news[q]? = some u := by simpa using hu
    rw [hu'] at k1
    cases k1
    have hf := List.all_eq_true.1 (hrow.el _ _ he).2 a (List.mem_of_getElem? this.symm)
    exact ⟨AV.cell_of_flat hf, rfl, k2⟩
  · rw [List.getElem?_append_right (by omega), hfl] at ha
    have hl : q - ys.length * sz < x * z.length := by
      have := (List.getElem?_eq_some_iff.1 ha).1
      rwa [zerosL_len] at this
    rw [Array.getElem?_append_right (by simp [hrow.len]; omega), List.size_toArray, hrow.len, zeroCells_at hl] at hu
    rw [zerosL_at hl] at ha
    cases ha
    cases hu
    exact ⟨zero_one hz hl, rfl, .lit _⟩

/-- a row of zeros behind a row -/
theorem grown_cells {us : List Value} (z : Array Value) (T0 : TypeId) (j : Nat) (u : Value) (hu : us[j]? = some u) (wd : World) (hw : wd.heap.size = w.heap.size) :
    (wd.alloc (.cells (us.toArray ++ z) T0)).cell? ⟨w.heap.size, j, none⟩ = some u := by
  have hj := (List.getElem?_eq_some_iff.1 hu).1
  rw [cell_block (b := w.heap.size) (by rw [← hw]; exact heap_alloc_new wd _), Array.getElem?_append_left (by simpa using hj)]
  simpa using hu

theorem app_run {o : Oper} {ρc : Operand → Value} {c : Call} {s x : Operand} {ty tx : TypeId} (ho : o.op = .call c) (hc : c.callee = .builtin .append) (ha : c.args = #[s, x]) (hty : c.argTypes = #[ty, tx]) {v : Value} {w' : World}
    (h : (Builtin.append_ #[ty, tx] o.type #[ρc s, ρc x]).run P w = .ok v w') : (execOp ρc o).run P w = .ok (.value v) w' := by
  simp [execOp, ho, resolve, hc, ha, hty, invoke, builtin, h]

theorem vcApp_sound (hT : T.Ok P) (h : Ok base J w0 st μ σ w) {s x : AV} {sv xv : Value} {ty tx e : TypeId} {i : TI} (hty : P.underlying ty = some (.slice e)) (hi : T e = some i)
    (hk : (∃ e', P.underlying tx = some (.slice e')) ∨ P.underlying tx = some .string) (hs : At base J st μ σ w s sv) (hx : At base J st μ σ w x xv) (hv : vcApp i s x st K) (tt : TypeId) :
    ∃ v w', (Builtin.append_ #[ty, tx] tt #[sv, xv]).run P w = .ok v w' ∧ NN base J w0 st μ σ w K v w' := by
  obtain ⟨_, inf, z, hinf, hz, hzc, hsz, hby, hzl⟩ := hT e i hi
  obtain ⟨ys, news, hv9, hrow, hsrc⟩ := srcA_sound h hx hk hv
  clear hv
  have hv := hv9
  clear hv9
  have hzs : z.cells.size = inf.size := by rw [hzc, hsz, ← hzl]; simp
  have hsrc' : Src P inf.size tx xv ys.length news w := by rw [hsz]; exact hsrc
  -- a new row
  have grow : ∀ (es : List (List AV)) (us : List Value) (b : Option Addr) (cap : Nat), Row base J st μ σ w i.size es us → sv = .slice b es.length cap → (Builtin.firstCells inf.size es.length (.slice b es.length cap)).run P w.drew = .ok us.toArray w.drew →
      cap < es.length + ys.length → (es.length + ys.length) * i.bytes ≤ 140737488355328 → es.length + ys.length ≤ maxLen →
      ∃ (cells : Array Value) (c' : Nat), (Builtin.append_ #[ty, tx] tt #[sv, xv]).run P w = .ok (.slice (some ⟨w.heap.size, 0, none⟩) (es.length + ys.length) c') (w.drew.alloc (.cells cells e)) ∧ es.length + ys.length ≤ c' ∧ c' ≤ maxLen ∧ c' * i.size = cells.size ∧
        ∃ zz, cells = (us ++ news).toArray ++ zz ∧ zz = Builtin.zeroCells z.cells (c' - (es.length + ys.length)) := by
    intro es us b cap hr hsv hold hc hb hm
    subst hsv
    have h63 : ((es.length + ys.length : Nat) : Int) ≤ 9223372036854775807 := by unfold maxLen at hm; omega
    have hrun := run_append_grow_src (P := P) w ty tx tt e inf z hty hinf hz b es.length cap us hold xv ys.length news hsrc' hc h63 (growslice_fits hc (by rw [hby]; exact hb))
    have hge := grownCap_ge w (es.length + ys.length) cap e
    refine ⟨_, _, hrun, hge, grownCap_le_maxLen w _ cap e hm, ?_, _, rfl, rfl⟩
    simp only [Array.size_append, List.size_toArray, size_zeroCells, hzs, List.length_append, hr.len, hrow.len, hsz, ← Nat.add_mul]
    congr 1
    omega
  have none1 : ys = [] → ∀ (b : Option Addr) (n cap : Nat), sv = .slice b n cap → n ≤ cap → (Builtin.append_ #[ty, tx] tt #[sv, xv]).run P w = .ok sv w := by
    intro hy b n cap hsv hn
    subst hsv
    subst hy
    have : news = [] := List.eq_nil_of_length_eq_zero (by simpa using hrow.len)
    subst this
    exact run_append_nothing (P := P) w ty tx tt e inf hty hinf b n cap hn xv hsrc'
  -- the new row's slice
  have fresh : ∀ (es : List (List AV)) (us : List Value) (cells : Array Value) (c' : Nat), Row base J st μ σ w i.size es us → es.length + ys.length ≤ c' → c' ≤ maxLen → c' * i.size = cells.size → (∃ zz, cells = (us ++ news).toArray ++ zz ∧ zz = Builtin.zeroCells z.cells (c' - (es.length + ys.length))) →
      ∀ (st' : St) (σ' : Nat → Tkt) (t n : Nat), Ok base J w0 st' μ σ' (w.drew.alloc (.cells cells e)) → Ext base J st μ σ w st' μ σ' (w.drew.alloc (.cells cells e)) → st'.tk[t]? = some n → σ' t = ⟨w.heap.size, (es.length + ys.length) * i.size, c' * i.size⟩ → st'.heap = st.heap →
      (∀ t' e', st'.tk[t']? = some e' → t' ≠ t → (σ' t').g < w.heap.size) →
      At base J st' μ σ' (w.drew.alloc (.cells cells e)) (.sl (.own t n) i.size (es ++ ys)) (.slice (some ⟨w.heap.size, 0, none⟩) (es.length + ys.length) c') := by
    intro es us cells c' hr hle hm hcs ⟨zz, hzz, _⟩ st' σ' t n ok' ext' htk hσ hheap hoth
    have hrr := (hr.append hrow).ext ext'
    have := hrr.sl (.own t n) w.heap.size 0 c' (by simpa using hle) hm (fun j u hu => ?_) (fun h => by cases h) (fun i' e' h => ?_)
    · simpa using this
    · have hj := (List.getElem?_eq_some_iff.1 hu).1
      rw [(hr.append hrow).len] at hj
      refine ⟨⟨fun hb => ?_, fun p hp => ?_, fun t' e' ht' hg => ?_⟩, ?_⟩
      · have := h.base_le; omega
      · rw [hheap] at hp
        have := (h.mu_lt hp).2
        omega
      · by_cases et : t' = t
        · subst et
          rw [hσ]
          simpa using hj
        · have := hoth t' e' ht' et
          omega
      · rw [Nat.zero_add, hzz]
        exact grown_cells zz e j u hu w.drew rfl
    · cases h
      exact ⟨n, htk, Nat.le_refl _, fun _ _ => by rw [hσ]; simp⟩
  -- the new row, as a variable
  have grownVar : ∀ (es : List (List AV)) (us : List Value) (cells : Array Value) (c' : Nat), Row base J st μ σ w i.size es us → i.zero.all Value.oneCell' = true →
      (Builtin.append_ #[ty, tx] tt #[sv, xv]).run P w = .ok (.slice (some ⟨w.heap.size, 0, none⟩) (es.length + ys.length) c') (w.drew.alloc (.cells cells e)) → es.length + ys.length ≤ c' → c' ≤ maxLen →
      (∃ zz, cells = (us ++ news).toArray ++ zz ∧ zz = Builtin.zeroCells z.cells (c' - (es.length + ys.length))) →
      (∀ x, es.length + ys.length + x ≤ maxLen → K (.hs st.heap.length 0 (es.length + ys.length) (es.length + ys.length + x) i.size) ⟨st.heap ++ [(es ++ ys).flatten ++ zerosL i.zero x], st.tk⟩) →
      ∃ v w', (Builtin.append_ #[ty, tx] tt #[sv, xv]).run P w = .ok v w' ∧ NN base J w0 st μ σ w K v w' := by
    rintro es us cells c' hr hz1 r1 r2 r3 ⟨zz, hzz, rfl⟩ k3
    obtain ⟨x, rfl⟩ : ∃ x, c' = es.length + ys.length + x := ⟨c' - (es.length + ys.length), by omega⟩
    rw [Nat.add_sub_cancel_left, hzc] at hzz
    obtain ⟨v1, v2⟩ := (hr.append hrow).vars (z := i.zero) hz1 hzl x st.heap.length
    obtain ⟨okd, extd⟩ := h.step (below_drew w)
    rw [← hzz] at v1 v2
    obtain ⟨ok', ext'⟩ := okd.newVar _ cells e v1 (fun j a u ha hu => by
      obtain ⟨q1, q2, q3⟩ := v2 j a u ha hu
      exact ⟨q1, q2, extd.at q3⟩)
    refine ⟨_, _, r1, _, _, _, _, k3 x r3, ok', extd.trans ext', ?_⟩
    have := Rp.hs (w := w.drew.alloc (.cells cells e)) (I := Im base J ⟨st.heap ++ [(es ++ ys).flatten ++ zerosL i.zero x], st.tk⟩ (upd μ st.heap.length w.drew.heap.size) σ) (hl := st.heap.length + 1) (μ := upd μ st.heap.length w.drew.heap.size) (tk := st.tk) (σ := σ) st.heap.length 0 (es.length + ys.length) (es.length + ys.length + x) i.size (by omega) (by omega) r3
    rw [upd_same] at this
    simpa [At] using this
  split at hv
  · -- nil
    cases hs
    obtain ⟨hv1, hv2⟩ := hv
    by_cases hy : ys = []
    · exact ⟨_, _, none1 hy _ _ _ rfl (Nat.le_refl _), NN.same h (hv1 hy) (.lit _)⟩
    · obtain ⟨k1, k2, k3⟩ := hv2 hy
      have hpos : 0 < ys.length := List.length_pos_iff.2 hy
      obtain ⟨cells, c', r1, r2, r3, r4, r5⟩ := grow [] [] none 0 (Row.nil _) rfl (by simp [run_firstCells_none]) (by simpa using hpos) (by simpa using k1) (by simpa using k2)
      obtain ⟨ok', ext'⟩ := h.newTk cells e ys.length (ys.length * i.size) (c' * i.size) (Nat.mul_le_mul_right _ (by simpa using r2)) (by omega) w.drew (.inr rfl)
      rcases k3 with k3 | ⟨hz1, k3⟩
      · refine ⟨_, _, r1, _, _, _, _, k3, ok', ext', ?_⟩
        have := fresh [] [] cells c' (Row.nil _) r2 r3 r4 r5 _ _ st.tk.length ys.length ok' ext' (by simp) (by rw [upd_same]; simp) rfl (fun t' e' ht' hne => ?_)
        · simpa using this
        · have hlt : t' < st.tk.length := by
            have := (List.getElem?_eq_some_iff.1 ht').1
            simp at this
            omega
          rw [upd_ne _ _ hne]
          simp only [List.getElem?_append_left hlt] at ht'
          exact (h.tk_lt ht').2
      · exact grownVar [] [] cells c' (Row.nil _) hz1 r1 r2 r3 r5 (fun x hx => by simpa using k3 x (by simpa using hx))
  · -- a variable's row
    rename_i p lo n cap sz
    split at hv
    · rename_i hsz'
      rw [Bool.and_eq_true] at hsz'
      have hz1 := hsz'.2
      have hsz' := of_decide_eq_true hsz'.1
      subst hsz'
      obtain ⟨hv1, hv2⟩ := hv
      cases hs with
      | hs _ _ _ _ _ hp hnc hm =>
        by_cases hy : ys = []
        · exact ⟨_, _, none1 hy _ _ _ rfl hnc, NN.same h (hv1 hy) (.hs _ _ _ _ _ hp hnc hm)⟩
        · obtain ⟨k1, k2, cs, es, hcs, hseen, k3, k4⟩ := hv2 hy
          have hpos : 0 < ys.length := List.length_pos_iff.2 hy
          obtain rfl := hseen.len
          obtain ⟨us1, hrow0, hcell0⟩ := hseen.row h hcs
          by_cases hroom : es.length + ys.length ≤ cap
          · obtain ⟨q1, q2⟩ := k3 hroom
            obtain ⟨_, us0, T0, hb, hlen0, _⟩ := h.hp p cs hcs
            rw [Nat.add_mul] at q1
            have hnl := hrow.len
            have hrun := run_append_room_src (P := P) w ty tx tt e inf hty hinf (μ p) lo es.length cap xv ys.length news hsrc' hroom
              (fun j hj => by rw [cell_block hb, Array.getElem?_eq_getElem (by rw [← hlen0, hsz]; omega)]; rfl)
              (fun j hj => by simp [World.frozen?, hb])
            have hel : ∀ (k : Nat) (e : List AV), ys[k]? = some e → e.length = i.size := fun k e he => (hrow.el k e he).1
            have hfl := flat_len hel
            obtain ⟨v1, v2⟩ := hrow.vars (z := i.zero) hz1 hzl 0 p
            have hz0 : zerosL i.zero 0 = [] := List.eq_nil_of_length_eq_zero (by rw [zerosL_len]; omega)
            have hz2 : Builtin.zeroCells i.zero.toArray 0 = #[] := by simp [Builtin.zeroCells]
            rw [hz0, hz2, List.append_nil, Array.append_empty] at v1 v2
            obtain ⟨ok', ext'⟩ := h.store (p := p) (off := lo + es.length * i.size) (vs := ys.flatten) (us := news) hcs (by rw [hfl, hnl]) (by rw [hfl]; omega) (fun j a u ha hu => v2 j a u ha (by simpa using hu))
            rw [hsz] at hrun
            refine ⟨_, _, hrun, _, _, _, _, q2, ok', ext', ?_⟩
            exact .hs _ _ _ _ _ (by simpa using hp) hroom hm
          · obtain ⟨cells, c', r1, r2, r3, r4, r5⟩ := grow es _ (some ⟨μ p, lo, none⟩) cap hrow0 rfl (run_firstCells_some w.drew inf.size es.length ⟨μ p, lo, none⟩ es.length cap _ (by rw [hrow0.len, hsz]) (fun j v hjv => by rw [World.cell?_drew, Addr.add_lit]; exact hcell0 j v hjv))
              (by omega) k1 k2
            exact grownVar es _ cells c' hrow0 hz1 r1 r2 r3 r5 (k4 (by omega))
    · exact hv.elim
  · -- an empty one
    rename_i sz
    split at hv
    · rename_i hsz'
      rw [Bool.and_eq_true] at hsz'
      have hz1 := hsz'.2
      have hsz' := of_decide_eq_true hsz'.1
      subst hsz'
      obtain ⟨hv1, hv2⟩ := hv
      rcases hs.sl_inv with ⟨hno, _⟩ | ⟨g, o2, cap, us, rfl, hs', hn', hm, hc, hr, ht1, ht2⟩
      · cases hno
      · by_cases hy : ys = []
        · exact ⟨_, _, none1 hy _ _ _ rfl hn', NN.same h (hv1 hy) hs⟩
        · obtain ⟨k1, k2, k3⟩ := hv2 hy
          have hpos : 0 < ys.length := List.length_pos_iff.2 hy
          obtain ⟨cells, c', r1, r2, r3, r4, r5⟩ := grow [] [] (some ⟨g, o2, none⟩) cap (Row.nil _) rfl (run_firstCells_some w.drew inf.size 0 ⟨g, o2, none⟩ 0 cap [] (by simp) (fun j v h => by simp at h)) (by have := ht1 rfl; simp at this ⊢; omega) (by simpa using k1) (by simpa using k2)
          rcases k3 with k3 | k3
          · obtain ⟨ok', ext'⟩ := h.newTk cells e ys.length (ys.length * i.size) (c' * i.size) (Nat.mul_le_mul_right _ (by simpa using r2)) (by omega) w.drew (.inr rfl)
            refine ⟨_, _, r1, _, _, _, _, k3, ok', ext', ?_⟩
            have := fresh [] [] cells c' (Row.nil _) r2 r3 r4 r5 _ _ st.tk.length ys.length ok' ext' (by simp) (by rw [upd_same]; simp) rfl (fun t' e' ht' hne => ?_)
            · simpa using this
            · have hlt : t' < st.tk.length := by
                have := (List.getElem?_eq_some_iff.1 ht').1
                simp at this
                omega
              rw [upd_ne _ _ hne]
              simp only [List.getElem?_append_left hlt] at ht'
              exact (h.tk_lt ht').2
          · exact grownVar [] [] cells c' (Row.nil _) hz1 r1 r2 r3 r5 (fun x hx => by simpa using k3 x (by simpa using hx))
    · exact hv.elim
  · -- tight
    rename_i sz es _
    split at hv
    · rename_i hsz'
      have hsz' := of_decide_eq_true hsz'
      subst hsz'
      obtain ⟨hv1, hv2⟩ := hv
      rcases hs.sl_inv with ⟨hno, _⟩ | ⟨g, o2, cap, us, rfl, hs', hn', hm, hc, hr, ht1, ht2⟩
      · cases hno
      · by_cases hy : ys = []
        · exact ⟨_, _, none1 hy _ _ _ rfl hn', NN.same h (hv1 hy) hs⟩
        · obtain ⟨k1, k2, k3⟩ := hv2 hy
          have hpos : 0 < ys.length := List.length_pos_iff.2 hy
          obtain ⟨hrow0, hcell0⟩ := Rp.row hs' hc hr
          obtain ⟨cells, c', r1, r2, r3, r4, r5⟩ := grow es _ (some ⟨g, o2, none⟩) cap hrow0 rfl (run_firstCells_some w.drew inf.size es.length ⟨g, o2, none⟩ es.length cap _ (by rw [flatL_len, hsz]) (fun j v hjv => by rw [World.cell?_drew, Addr.add_lit]; exact (hcell0 j v hjv).2))
            (by have := ht1 rfl; omega) k1 k2
          obtain ⟨ok', ext'⟩ := h.newTk cells e (es.length + ys.length) ((es.length + ys.length) * i.size) (c' * i.size) (Nat.mul_le_mul_right _ r2) (by omega) w.drew (.inr rfl)
          refine ⟨_, _, r1, _, _, _, _, k3, ok', ext', ?_⟩
          refine fresh es _ cells c' hrow0 r2 r3 r4 r5 _ _ st.tk.length _ ok' ext' (by simp) (by rw [upd_same]) rfl (fun t' e' ht' hne => ?_)
          have hlt : t' < st.tk.length := by
            have := (List.getElem?_eq_some_iff.1 ht').1
            simp at this
            omega
          rw [upd_ne _ _ hne]
          simp only [List.getElem?_append_left hlt] at ht'
          exact (h.tk_lt ht').2
    · exact hv.elim
  · -- owned
    rename_i t n sz es
    split at hv
    · rename_i hsz'
      have hsz' := of_decide_eq_true hsz'
      subst hsz'
      obtain ⟨htk, k1, k2, k3⟩ := hv
      have htl : t < st.tk.length := (List.getElem?_eq_some_iff.1 htk).1
      rcases hs.sl_inv with ⟨hno, _⟩ | ⟨g, o2, cap, us, rfl, hs', hn', hm, hc, hr, ht1, ht2⟩
      · cases hno
      · obtain ⟨e0, q1, q2, q3⟩ := ht2 t n rfl
        have hen : e0 = n := by rw [htk] at q1; cases q1; rfl
        subst hen
        obtain ⟨hrow0, hcell0⟩ := Rp.row hs' hc hr
        by_cases hy : ys = []
        · refine ⟨_, _, none1 hy _ _ _ rfl hn', ?_⟩
          subst hy
          have e1 : st.tk.set t (e0 + ([] : List (List AV)).length) = st.tk := by
            apply List.ext_getElem?
            intro q
            rw [List.getElem?_set]
            split
            · rename_i hq
              subst hq
              first | (rw [htk]; rfl) | (rw [if_pos htl, htk]; rfl)
            · rfl
          rw [e1, List.append_nil, List.length_nil, Nat.add_zero] at k3
          exact NN.same h k3 hs
        · have hpos : 0 < ys.length := List.length_pos_iff.2 hy
          by_cases hroom : es.length + ys.length ≤ cap
          · obtain ⟨g1, g2, g3⟩ := q3 rfl (by omega)
            obtain ⟨b1, ⟨us0, T0, hb, b2, b3⟩, b4, b5⟩ := h.tkt t e0 htk
            have hle : (es.length + ys.length) * i.size ≤ cap * i.size := Nat.mul_le_mul_right _ hroom
            rw [Nat.add_mul] at hle
            have hnl := hrow.len
            have hoff : o2 + es.length * inf.size = (σ t).endc := by rw [hsz]; exact g2
            have hrun := run_append_room_src (P := P) w ty tx tt e inf hty hinf g o2 es.length cap xv ys.length news hsrc' hroom
              (fun j hj => by rw [hoff, ← g1, cell_block hb, Array.getElem?_eq_getElem (by omega)]; rfl)
              (fun j hj => by simp [World.frozen?, ← g1, hb])
            obtain ⟨ok', ext'⟩ := h.growTk htk news (e0 + ys.length) (by omega) (by omega)
            rw [hoff, ← g1] at hrun
            rw [← g1]
            refine ⟨_, _, hrun, _, _, _, _, k3, ok', ext', ?_⟩
            have hcells : ∀ j, j < news.length → (w.cell? ⟨(σ t).g, (σ t).endc + j, none⟩).isSome = true := fun j hj => by rw [cell_block hb, Array.getElem?_eq_getElem (by omega)]; rfl
            have hrr := (hrow0.append hrow).ext ext'
            have := hrr.sl (.own t (e0 + ys.length)) (σ t).g o2 cap (by simpa using hroom) hm (fun j u hu => ?_) (fun h => by cases h) (fun i' e' h => ?_)
            · simpa using this
            · have hj := (List.getElem?_eq_some_iff.1 hu).1
              rw [(hrow0.append hrow).len, List.length_append, Nat.add_mul] at hj
              by_cases hj0 : j < es.length * i.size
              · rw [List.getElem?_append_left (by rw [hrow0.len]; exact hj0)] at hu
                obtain ⟨c1, c2⟩ := hcell0 j u hu
                rw [← g1] at c1 c2
                obtain ⟨d1, d2⟩ := ext'.im _ _ c1 (World.block_lt_of_cell? w ⟨(σ t).g, o2 + j, none⟩ c2)
                exact ⟨d1, d2.trans c2⟩
              · rw [List.getElem?_append_right (by rw [hrow0.len]; omega), hrow0.len] at hu
                have hjn : j - es.length * i.size < news.length := (List.getElem?_eq_some_iff.1 hu).1
                have hin := World.cell?_setCells_in (σ t).g news (σ t).endc w hcells (j - es.length * i.size) hjn
                rw [show (σ t).endc + (j - es.length * i.size) = o2 + j by omega] at hin
                refine ⟨⟨fun hb' => by omega, fun p hp => b4 p hp, fun t' e' ht' hg => ?_⟩, ?_⟩
                · by_cases et : t' = t
                  · subst et
                    rw [upd_same]
                    simp
                    omega
                  · rw [upd_ne _ _ et] at hg
                    have ht'' : st.tk[t']? = some e' := by
                      simp only [List.getElem?_set, if_neg (Ne.symm et)] at ht'
                      exact ht'
                    exact absurd (b5 t' e' ht'' hg.symm) (Ne.symm et)
                · rw [hin, ← hu, List.getElem?_eq_getElem hjn]
            · cases h
              refine ⟨e0 + ys.length, by simp [htl], Nat.le_refl _, fun _ _ => ?_⟩
              rw [upd_same]
              refine ⟨rfl, ?_, g3⟩
              simp only [List.length_append, Nat.add_mul]
              omega
          · obtain ⟨cells, c', r1, r2, r3, r4, r5⟩ := grow es _ (some ⟨g, o2, none⟩) cap hrow0 rfl (run_firstCells_some w.drew inf.size es.length ⟨g, o2, none⟩ es.length cap _ (by rw [flatL_len, hsz]) (fun j v hjv => by rw [World.cell?_drew, Addr.add_lit]; exact (hcell0 j v hjv).2))
              (by omega) k1 k2
            obtain ⟨ok', ext'⟩ := h.moveTk htk cells e (e0 + ys.length) ((es.length + ys.length) * i.size) (c' * i.size) (by omega) (Nat.mul_le_mul_right _ r2) (by omega)
            refine ⟨_, _, r1, _, _, _, _, k3, ok', ext', ?_⟩
            refine fresh es _ cells c' hrow0 r2 r3 r4 r5 _ _ t _ ok' ext' (by simp [htl]) (by rw [upd_same]) rfl (fun t' e' ht' hne => ?_)
            rw [upd_ne _ _ hne]
            simp only [List.getElem?_set, if_neg (Ne.symm hne)] at ht'
            exact (h.tk_lt ht').2
    · exact hv.elim
  · exact hv.elim
end
end Go.Proofs.YtfhodppaelfcfaaDoor
