/- strings.Trim, TrimRight, Join, over abstract values; the documents' joins. No statement of its own. -/
import Derived.Test.YtfhodppaelfcfaaDoorS2
import Derived.Shelf.Strings.SlTrimAscii
set_option maxRecDepth 100000
namespace Go.Proofs.YtfhodppaelfcfaaDoor
open Go.RowKit
theorem info_set : (Tryd.prog.info? 163).map (fun i => (i.zero, i.size)) = some (some (.agg (Array.replicate 256 (.bool false))), 256) := by kernel_rfl
def trimC (s cs : ByteArray) : ByteArray := ⟨(Lib.trimS s.data.toList cs.data.toList).toArray⟩
def trimRC (s cs : ByteArray) : ByteArray := ⟨(Lib.trimRightS s.data.toList cs.data.toList).toArray⟩
def asciiL (cs : ByteArray) : Bool := cs.data.toList.all fun b => decide (b.toNat < 128)
theorem trim_p (s cs : ByteArray) (hs : s.size ≤ maxLen) (hc : cs.size < 100) (ha : asciiL cs = true) : APure Tryd.prog 93 [.s s, .s cs] (.s (trimC s cs)) [] :=
  APure.of_lits #[.string s, .string cs] (.inl rfl) rfl Tryd.call93 fun w _ => (Any.strings_Trim_laid Tryd.lays160 info_set s cs w (by unfold maxLen at hs; omega) (by omega) (ascii_of_all ha))
theorem trimR_p (s cs : ByteArray) (hs : s.size ≤ maxLen) (hc : cs.size < 100) (ha : asciiL cs = true) : APure Tryd.prog 149 [.s s, .s cs] (.s (trimRC s cs)) [] :=
  APure.of_lits #[.string s, .string cs] (.inl rfl) rfl Tryd.call149 fun w _ => (Any.strings_TrimRight_laid Tryd.lays162 info_set s cs w (by unfold maxLen at hs; omega) (by omega) (ascii_of_all ha))

/-- texts in a row -/
def strL (l : List ByteArray) : List (List AV) := l.map fun s => [AV.s s]
theorem strL_len (l : List ByteArray) : (strL l).length = l.length := by simp [strL]
theorem strL_at {l : List ByteArray} {j : Nat} (h : j < l.length) : (strL l)[j]? = some [.s l[j]] := by simp [strL, h]
theorem strL_app (l : List ByteArray) (s : ByteArray) : strL l ++ [[.s s]] = strL (l ++ [s]) := by simp [strL]
def joinC (sep : ByteArray) (l : List ByteArray) : ByteArray := ⟨(Lib.join (l.map (·.data.toList)) sep.data.toList).toArray⟩
theorem joinC_one (sep x : ByteArray) : joinC sep [x] = x := by
  unfold joinC; rw [List.map_cons, List.map_nil, Lib.join_one, Lib.mk_data]

/-- nil is an empty row too -/
theorem APure.nil {P : Program} {f : FuncId} {args : List AV} (sz : Nat) (h : APure P f args .nilS []) : APure P f args (.sl .no sz []) [] := by
  refine ⟨rfl, h.2.1, fun J w vs hw hl ha => (h.2.2 J w vs hw hl ha).mono ?_⟩
  rintro e w' ⟨v, σ', he, hok, hat⟩
  refine ⟨v, σ', he, hok, ?_⟩
  cases hat
  exact .sl0 sz none 0 (Nat.zero_le _)

def resW (r' r : AV) : Prop := r'.stripR = r ∨ (∃ sz, r' = .nilS ∧ r = .sl .no sz []) ∨ ∃ vs sz, r' = .tup (.nilS :: vs) ∧ r = .tup (.sl .no sz [] :: vs.map AV.strip)
theorem ACalls.toPure {P : Program} {f : FuncId} {args : List AV} {r0 : AV} (hd : r0.datR = true) (h : ACalls P f args ⟨[], []⟩ fun r' _ => resW r' r0) : APure P f args r0 [] := by
  refine ⟨AV.res_of_datR hd, h.1, fun J w vs hw hl ha => ?_⟩
  refine (h.2 w.heap.size J w (fun _ => 0) (fun _ => ⟨0, 0, 0⟩) w vs (Ok.none J _ _ w hw) hl ha).mono ?_
  rintro e w' ⟨v, r', st', μ', σ', rfl, hR, hok, hx, hat⟩
  refine ⟨v, fun _ => ⟨0, 0, 0⟩, rfl, ⟨hok.bs, hok.below, fun p cs h => by simp at h, fun p q h => by simp at h, fun t e h => by simp at h⟩, ?_⟩
  have hi : ∀ g x, Im w.heap.size J st' μ' σ' g x → g < w'.heap.size → Im w.heap.size J ⟨[], []⟩ (fun _ => 0) (fun _ => ⟨0, 0, 0⟩) g x := fun g x hi _ => ⟨hi.1, fun p hp => by simp at hp, fun t e ht => by simp at ht⟩
  have std : r'.stripR = r0 → At w.heap.size J ⟨[], []⟩ (fun _ => 0) (fun _ => ⟨0, 0, 0⟩) w' r0 v := by
    rintro rfl
    cases r' with
    | tup cs =>
      cases hat with
      | tup cs us e1 hr =>
        refine .tup _ us (by simpa using e1) fun j a u h1 h2 => ?_
        have hda := List.all_eq_true.1 hd a (List.mem_of_getElem? h1)
        simp only [List.getElem?_map, Option.map_eq_some_iff] at h1
        obtain ⟨b, hb, rfl⟩ := h1
        exact (hr j b u hb h2).strip.dat hi hda
    | sl t sz es => exact hat.strip.dat hi hd
    | _ => exact hat.strip.dat hi hd
  rcases hR with hR | ⟨sz, rfl, rfl⟩ | ⟨vs, sz, rfl, rfl⟩
  · exact std hR
  · cases hat
    exact .sl0 sz none 0 (Nat.zero_le _)
  · cases hat with
    | tup cs us e1 hr =>
      refine .tup _ us (by simpa using e1) fun j x u hx hu => ?_
      cases j with
      | zero =>
        simp at hx
        subst hx
        rw [(hr 0 _ u rfl hu).of_lit]
        exact .sl0 sz none 0 (Nat.zero_le _)
      | succ j =>
        have hda := List.all_eq_true.1 hd x (List.mem_of_getElem? hx)
        simp only [List.getElem?_cons_succ, List.getElem?_map, Option.map_eq_some_iff] at hx
        obtain ⟨b, hb, rfl⟩ := hx
        exact (hr (j + 1) b u (by simpa using hb) hu).strip.dat hi hda
theorem APure.ofW {P : Program} {f : FuncId} {args : List AV} {r : AV} (hd : r.datR = true) (h : ACalls P f args ⟨[], []⟩ fun r' _ => resW r' r) : APure P f args r [] := h.toPure hd
theorem sjoin_p (sep : ByteArray) (l : List ByteArray) (hl : l.length ≤ 140737488355328) (hm : (joinC sep l).size ≤ 140737488355328) : APure Tryd.prog 125 [.sl .no 1 (strL l), .s sep] (.s (joinC sep l)) [] := by
  refine ⟨rfl, Tryd.call125, fun J w vs hw hlen ha => ?_⟩
  have hv : vs = #[vs.getD 0 undef, .string sep] := by
    apply Array.ext
    · simpa using hlen.symm
    · intro i h1 h2
      have h2' : i < 2 := by simpa using h2
      match i, h2' with
      | 0, _ => simp [Array.getD, h1]
      | 1, _ =>
        have := (ha 1 _ vs[1] rfl (by simp [h1])).of_lit
        rw [this]; rfl
  have h0 : 0 < vs.size := by rw [← hlen]; simp
  have a0 := ha 0 _ vs[0] rfl (by simp [h0])
  rw [hv]
  rw [show vs.getD 0 undef = vs[0] by simp [Array.getD, h0]]
  generalize vs[0] = v at a0
  have fin : Calls Tryd.prog 125 #[v, .string sep] w fun e w' => e = .returned (.string (joinC sep l)) ∧ Below w.heap.size w w' := by
    generalize hes : strL l = es at a0
    cases a0 with
    | sl0 sz a cap hm' =>
      have : l = [] := by simpa [strL] using hes
      subst this
      exact (Tryd.strings_Join_none a cap sep w).mono fun e w' ⟨h1, h2⟩ => ⟨h1, h2 ▸ Below.refl _ _⟩
    | sl t sz es g o cap us hs hn hm' hc hr ht1 ht2 =>
      subst hes
      rw [strL_len]
      have cell : ∀ (j : Nat) x, l[j]? = some x → w.cell? ⟨g, o + j, none⟩ = some (.string x) := fun j x hx => by
        obtain ⟨hj, rfl⟩ := List.getElem?_eq_some_iff.1 hx
        have q1 := (hc j _ 0 _ (strL_at hj) rfl).2
        have q2 := (hr j _ 0 _ (strL_at hj) rfl).of_lit
        rw [q2] at q1
        simpa using q1
      cases l with
      | nil => exact (Tryd.strings_Join_none _ cap sep w).mono fun e w' ⟨h1, h2⟩ => ⟨h1, h2 ▸ Below.refl _ _⟩
      | cons x r =>
        have hb : g < w.heap.size := World.block_lt_of_cell? w ⟨g, o + 0, none⟩ (cell 0 x rfl)
        exact Tryd.strings_Join g o cap (x :: r) sep w cell hb hl (by rw [← strL_len]; exact hn) (by
          have : (joinC sep (x :: r)).size = (Lib.join ((x :: r).map (·.data.toList)) sep.data.toList).length := by
            unfold joinC; show (Array.size _) = _; rw [List.size_toArray]
          omega)
  refine fin.mono ?_
  rintro e w' ⟨rfl, hb⟩
  exact ⟨_, fun _ => ⟨0, 0, 0⟩, rfl, ⟨⟨Nat.le_refl _, hw⟩, hb, fun p cs h => by simp at h, fun p q h => by simp at h, fun t e h => by simp at h⟩, .lit _⟩
end Go.Proofs.YtfhodppaelfcfaaDoor
