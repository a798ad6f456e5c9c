/- fieldline: Parse, Check, Text. -/
import Derived.Test.YthncigahodannaaDoorScan
import Derived.Test.YthncigahodannaaDoorStr
namespace Go.Proofs.YthncigahodannaaDoor
open Go.RowKit

abbrev Fld := ByteArray × ByteArray

/-- fieldline.Parse, as it goes -/
def parseF (s : ByteArray) : Fld × Int :=
  if crlfB s then ((.empty, .empty), 24)
  else if 0 < tw blkI s 0 then ((.empty, .empty), 23)
  else
    let n := tw tokI s 0
    let g := n + tw blkI s n
    if n = 0 ∨ ¬ (s.data.toList[g]? = some 58) then ((.empty, .empty), 21)
    else if g ≠ n then ((.empty, .empty), 22)
    else if allI valI (s.extract (g + 1) s.size) = false then ((.empty, .empty), 25)
    else ((s.extract 0 n, trimB (s.extract (g + 1) s.size)), 0)

/-- a block of two cells, known whole -/
structure B2 (w : World) (r : Nat) (a b : Value) (T : TypeId) : Prop where
  blk : w.heap[r]? = some (.cells #[a, b] T (0, 0))
section
variable {w w' : World} {r : Nat} {a b : Value} {T : TypeId}
theorem B2.lt (h : B2 w r a b T) : r < w.heap.size := (Array.getElem?_eq_some_iff.1 h.blk).1
theorem B2.c0 (h : B2 w r a b T) : w.cell? ⟨r, 0, none⟩ = some a := by rw [cell_of_row w r 0 _ _ _ h.blk]; rfl
theorem B2.c1 (h : B2 w r a b T) : w.cell? ⟨r, 1, none⟩ = some b := by rw [cell_of_row w r 1 _ _ _ h.blk]; rfl
theorem B2.fr (h : B2 w r a b T) (j : Nat) : w.frozen? ⟨r, j, none⟩ = false := by simp [World.frozen?, h.blk]
theorem B2.chg {S : Nat → Prop} (h : B2 w r a b T) (c : Chg w w' S) (h1 : ¬ S r) : B2 w' r a b T := ⟨(c.block r h.lt h1).trans h.blk⟩
theorem B2.new (w : World) (a b : Value) (T : TypeId) : B2 (w.alloc (.cells #[a, b] T)) w.heap.size a b T := ⟨heap_alloc_new w _⟩
end

set_option maxHeartbeats 1000000 in
theorem fParse_any (s : ByteArray) (hs : s.size ≤ 1000000) (w : World) :
    Calls Tryd.prog 8 #[.string s] w fun e w' => e = .returned (.tuple #[.agg #[.string (parseF s).1.1, .string (parseF s).1.2], .int .i64 (parseF s).2]) ∧ Chg w w' (fun _ => False) := by
  go_enter Tryd.func8, Tryd.ntmps8
  go_wp2_with fail
  refine (containsAny_any s (by omega) _).mono ?_; rintro e w1 ⟨rfl, hc⟩
  have hr := (B2.new w (.string .empty) (.string .empty) 25).chg hc (fun h => h)
  have hw : Chg w w1 (fun _ => False) := ((Chg.refl w (fun _ => False)).alloc _).trans hc
  clear hc
  cases hcr : crlfB s
  · go_wp2_with fail
    refine (cNew_any s w1).mono ?_; rintro e w2 ⟨rfl, he2⟩
    have hs2 := Sc.new w1 s (by omega)
    rw [← he2] at hs2
    have hw2 : Chg w w2 (fun _ => False) := by rw [he2]; exact hw.alloc _
    have hr2 := hr.chg (S := fun _ => False) (w' := w2) (by rw [he2]; exact (Chg.refl _ _).alloc _) (fun h => h)
    have hpr : w1.heap.size ≠ w.heap.size := by have := hr.lt; omega
    have hpw : w.heap.size ≤ w1.heap.size := hw.size
    clear he2 hr hw
    generalize w1.heap.size = p at *
    go_wp2_with fail
    refine (cBlanks_any hs2).mono ?_; rintro e w3 ⟨rfl, hs3, hc3⟩
    have hr3 := hr2.chg hc3 (fun e => hpr e.symm)
    have hw3 := hw2.next hc3 (fun i hi e => by omega)
    clear hs2 hc3 hr2 hw2
    simp only [Nat.zero_add] at hs3 ⊢
    by_cases hb : 0 < tw blkI s 0
    · have hz := empB1 (s := s.extract 0 (tw blkI s 0)) (by have := tw_le blkI s 0 (Nat.zero_le _); rw [ext_size _ _ _ (by omega)]; omega)
      have hp : parseF s = ((.empty, .empty), 23) := by unfold parseF; rw [if_neg (by rw [hcr]; decide), if_pos hb]
      clear hb
      generalize s.extract 0 (tw blkI s 0) = q at *
      have hr := hr3
      have r0 := hr.c0; have r1 := hr.c1; have rf0 := hr.fr 0; have rf1 := hr.fr 1; have rl := hr.lt
      go_wp2_with fail
      exact bodyPost_ret (v := .tuple #[.agg #[.string .empty, .string .empty], .int .i64 23]) (by simp [results, Tryd.results8, go_sem, r0, r1]; try rfl) rfl ⟨by rw [hp], by repeat (first | exact Chg.refl _ _ | assumption | refine Chg.setCell ?_ (.inl (by first | (simp; done) | (simp; omega) | omega)) _ | refine Chg.drewN ?_ _ | refine Chg.drew ?_ | refine Chg.alloc ?_ _)⟩
    · have hz := empB0 (s := s.extract 0 (tw blkI s 0)) (by have := tw_le blkI s 0 (Nat.zero_le _); rw [ext_size _ _ _ (by omega)]; omega)
      have hb0 : tw blkI s 0 = 0 := by omega
      rw [hb0] at hs3
      have HB := Lib.hid hb0
      generalize s.extract 0 (tw blkI s 0) = q at *
      clear hb hb0
      go_wp2_with fail
      refine (cToken_any hs3).mono ?_; rintro e w4 ⟨rfl, hs4, hc4⟩
      have hr4 := hr3.chg hc4 (fun e => hpr e.symm)
      have hw4 := hw3.next hc4 (fun i hi e => by omega)
      clear hs3 hc4 hr3 hw3
      simp only [Nat.zero_add] at hs4 ⊢
      go_wp2_with fail
      refine (cBlanks_any hs4).mono ?_; rintro e w5 ⟨rfl, hs5, hc5⟩
      have hr5 := hr4.chg hc5 (fun e => hpr e.symm)
      have hw5 := hw4.next hc5 (fun i hi e => by omega)
      clear hs4 hc5 hr4 hw4
      have hlen := tw_le blkI s (tw tokI s 0) (by have := tw_le tokI s 0 (Nat.zero_le _); omega)
      by_cases hn : 0 < tw tokI s 0
      · rw [decide_eq_true hn]
        by_cases hg : tw tokI s 0 + tw blkI s (tw tokI s 0) < s.size
        · cases hcol : ((s[tw tokI s 0 + tw blkI s (tw tokI s 0)].toNat : Int) != 58)
          · go_wp2_with fail
            refine (cByte_is hs5 hg 58 hcol).mono ?_; rintro e w6 ⟨rfl, hs6, hc6⟩
            have hr6 := hr5.chg hc6 (fun e => hpr e.symm)
            have hw6 := hw5.next hc6 (fun i hi e => by omega)
            clear hs5 hc6 hr5 hw5
            have hcol' : s.data.toList[tw tokI s 0 + tw blkI s (tw tokI s 0)]? = some 58 := by
              rw [Lib.data_getElem? s _ hg]
              rw [bne_eq_false_iff_eq] at hcol
              congr 1
              apply UInt8.toNat_inj.1
              show _ = 58
              omega
            clear hcol
            by_cases hgap : 0 < tw blkI s (tw tokI s 0)
            · have hz2 := empB1 (s := s.extract (tw tokI s 0) (tw tokI s 0 + tw blkI s (tw tokI s 0))) (by rw [ext_size _ _ _ hlen]; omega)
              have hp : parseF s = ((.empty, .empty), 22) := by
                unfold parseF
                rw [if_neg (by rw [hcr]; decide), if_neg (by rw [HB.out]; decide)]
                simp only
                rw [if_neg (fun h => h.elim (fun h => by omega) (fun h => h hcol')), if_pos (by omega)]
              clear hcol' hgap
              generalize s.extract (tw tokI s 0) (tw tokI s 0 + tw blkI s (tw tokI s 0)) = q2 at *
              have hr := hr6
              have r0 := hr.c0; have r1 := hr.c1; have rf0 := hr.fr 0; have rf1 := hr.fr 1; have rl := hr.lt
              go_wp2_with fail
              exact bodyPost_ret (v := .tuple #[.agg #[.string .empty, .string .empty], .int .i64 22]) (by simp [results, Tryd.results8, go_sem, r0, r1]; try rfl) rfl ⟨by rw [hp], by repeat (first | exact Chg.refl _ _ | assumption | refine Chg.setCell ?_ (.inl (by first | (simp; done) | (simp; omega) | omega)) _ | refine Chg.drewN ?_ _ | refine Chg.drew ?_ | refine Chg.alloc ?_ _)⟩
            · have hz2 := empB0 (s := s.extract (tw tokI s 0) (tw tokI s 0 + tw blkI s (tw tokI s 0))) (by rw [ext_size _ _ _ hlen]; omega)
              generalize s.extract (tw tokI s 0) (tw tokI s 0 + tw blkI s (tw tokI s 0)) = q2 at *
              have hgn : tw tokI s 0 + tw blkI s (tw tokI s 0) = tw tokI s 0 := by omega
              have hRW := fun W (h : Sc W p s (tw tokI s 0 + tw blkI s (tw tokI s 0) + 1)) => cRest_any h
              have hR0 := cRest_any hs6
              have hvs : (s.extract (tw tokI s 0 + tw blkI s (tw tokI s 0) + 1) s.size).size ≤ maxLen := by rw [ext_size _ _ _ (Nat.le_refl _)]; unfold maxLen; omega
              have hp0 : ∀ r : Bool, allI valI (s.extract (tw tokI s 0 + tw blkI s (tw tokI s 0) + 1) s.size) = r → parseF s = if r = false then ((.empty, .empty), 25) else ((s.extract 0 (tw tokI s 0), trimB (s.extract (tw tokI s 0 + tw blkI s (tw tokI s 0) + 1) s.size)), 0) := fun r hr => by
                unfold parseF
                rw [if_neg (by rw [hcr]; decide), if_neg (by rw [HB.out]; decide)]
                simp only
                rw [if_neg (fun h => h.elim (fun h => by omega) (fun h => h hcol')), if_neg (fun h => h hgn), hr]
              clear hcol' hgap hgn
              generalize s.extract (tw tokI s 0 + tw blkI s (tw tokI s 0) + 1) s.size = v at *
              generalize s.extract 0 (tw tokI s 0) = nm at *
              go_wp2_with fail
              refine hR0.mono ?_; rintro e w7 ⟨rfl, n7, rfl⟩
              have HP := Lib.hid hp0
              clear hp0
              go_wp2_with fail
              refine (all_value v hvs _ 0 1 _ (cellNew rfl rfl)).mono ?_; rintro e w8 ⟨rfl, rfl⟩
              have hchg8 : Chg w6 ((w6.drewN n7).alloc (Obj.cells #[Value.string v] 9)) (fun _ => False) := by repeat (first | exact Chg.refl _ _ | assumption | refine Chg.drewN ?_ _ | refine Chg.drew ?_ | refine Chg.alloc ?_ _)
              have hs8 := hs6.chg hchg8 (fun h => h)
              have hr := hr6.chg hchg8 (fun h => h)
              have hw8 := hw6.trans hchg8
              generalize (w6.drewN n7).alloc (Obj.cells #[Value.string v] 9) = w8 at *
              cases hall : allI valI v
              · have hp := HP.out false hall
                simp only [if_true] at hp
                have r0 := hr.c0; have r1 := hr.c1; have rf0 := hr.fr 0; have rf1 := hr.fr 1; have rl := hr.lt
                go_wp2_with fail
                exact bodyPost_ret (v := .tuple #[.agg #[.string .empty, .string .empty], .int .i64 25]) (by simp [results, Tryd.results8, go_sem, r0, r1]; try rfl) rfl ⟨by rw [hp], by repeat (first | exact Chg.refl _ _ | assumption | refine Chg.setCell ?_ (.inl (by first | (simp; done) | (simp; omega) | omega)) _ | refine Chg.drewN ?_ _ | refine Chg.drew ?_ | refine Chg.alloc ?_ _)⟩
              · have hp := HP.out true hall
                simp only [Bool.true_eq_false, if_false] at hp
                go_wp2_with fail
                have hR8 : ∀ W, Sc W p s (tw tokI s 0 + tw blkI s (tw tokI s 0) + 1) → Calls Tryd.prog 21 #[.pointer (some ⟨p, 0, none⟩)] W fun e w' => e = .returned (.string v) ∧ ∃ n, w' = W.drewN n := hRW
                refine (hR8 _ hs8).mono ?_; rintro e w9 ⟨rfl, n9, rfl⟩
                go_wp2_with fail
                refine (trim_any v hvs _).mono ?_; rintro e w10 ⟨rfl, hc10⟩
                have hchg10 : Chg w8 w10 (fun _ => False) := ((Chg.refl w8 _).drewN n9).trans hc10
                have hr10 := hr.chg hchg10 (fun h => h)
                have hw10 := hw8.trans hchg10
                clear hr hc10 hchg10
                have hr := hr10
                have r0 := hr.c0; have r1 := hr.c1; have rf0 := hr.fr 0; have rf1 := hr.fr 1; have rl := hr.lt
                go_wp2_with fail
                exact bodyPost_ret (v := .tuple #[.agg #[.string nm, .string (trimB v)], .int .i64 0]) (by simp [results, Tryd.results8, go_sem, r0, r1]; try rfl) rfl ⟨by rw [hp], by repeat (first | exact Chg.refl _ _ | assumption | refine Chg.setCell ?_ (.inl (by first | (simp; done) | (simp; omega) | omega)) _ | refine Chg.drewN ?_ _ | refine Chg.drew ?_ | refine Chg.alloc ?_ _)⟩
          · have hcol' : ¬ s.data.toList[tw tokI s 0 + tw blkI s (tw tokI s 0)]? = some 58 := by
              rw [Lib.data_getElem? s _ hg]
              intro e
              rw [Option.some.inj e] at hcol
              exact absurd hcol (by decide)
            have hp : parseF s = ((.empty, .empty), 21) := by
              unfold parseF
              rw [if_neg (by rw [hcr]; decide), if_neg (by rw [HB.out]; decide)]
              simp only
              rw [if_pos (.inr hcol')]
            clear hcol'
            go_wp2_with fail
            refine (cByte_not hs5 hg 58 hcol).mono ?_; rintro e w6 ⟨rfl, n6, rfl⟩
            have hr := hr5
            have r0 := hr.c0; have r1 := hr.c1; have rf0 := hr.fr 0; have rf1 := hr.fr 1; have rl := hr.lt
            clear hcol
            go_wp2_with fail
            exact bodyPost_ret (v := .tuple #[.agg #[.string .empty, .string .empty], .int .i64 21]) (by simp [results, Tryd.results8, go_sem, r0, r1]; try rfl) rfl ⟨by rw [hp], by repeat (first | exact Chg.refl _ _ | assumption | refine Chg.setCell ?_ (.inl (by first | (simp; done) | (simp; omega) | omega)) _ | refine Chg.drewN ?_ _ | refine Chg.drew ?_ | refine Chg.alloc ?_ _)⟩
        · have hcol' : ¬ s.data.toList[tw tokI s 0 + tw blkI s (tw tokI s 0)]? = some 58 := by
            rw [List.getElem?_eq_none (by rw [blen]; omega)]
            simp
          have hp : parseF s = ((.empty, .empty), 21) := by
            unfold parseF
            rw [if_neg (by rw [hcr]; decide), if_neg (by rw [HB.out]; decide)]
            simp only
            rw [if_pos (.inr hcol')]
          clear hcol'
          go_wp2_with fail
          refine (cByte_end hs5 (by omega) 58).mono ?_; rintro e w6 ⟨rfl, n6, rfl⟩
          have hr := hr5
          have r0 := hr.c0; have r1 := hr.c1; have rf0 := hr.fr 0; have rf1 := hr.fr 1; have rl := hr.lt
          go_wp2_with fail
          exact bodyPost_ret (v := .tuple #[.agg #[.string .empty, .string .empty], .int .i64 21]) (by simp [results, Tryd.results8, go_sem, r0, r1]; try rfl) rfl ⟨by rw [hp], by repeat (first | exact Chg.refl _ _ | assumption | refine Chg.setCell ?_ (.inl (by first | (simp; done) | (simp; omega) | omega)) _ | refine Chg.drewN ?_ _ | refine Chg.drew ?_ | refine Chg.alloc ?_ _)⟩
      · rw [decide_eq_false hn]
        have hp : parseF s = ((.empty, .empty), 21) := by
          unfold parseF
          rw [if_neg (by rw [hcr]; decide), if_neg (by rw [HB.out]; decide)]
          simp only
          rw [if_pos (.inl (by omega))]
        have hr := hr5
        have r0 := hr.c0; have r1 := hr.c1; have rf0 := hr.fr 0; have rf1 := hr.fr 1; have rl := hr.lt
        go_wp2_with fail
        exact bodyPost_ret (v := .tuple #[.agg #[.string .empty, .string .empty], .int .i64 21]) (by simp [results, Tryd.results8, go_sem, r0, r1]; try rfl) rfl ⟨by rw [hp], by repeat (first | exact Chg.refl _ _ | assumption | refine Chg.setCell ?_ (.inl (by first | (simp; done) | (simp; omega) | omega)) _ | refine Chg.drewN ?_ _ | refine Chg.drew ?_ | refine Chg.alloc ?_ _)⟩
  · have hp : parseF s = ((.empty, .empty), 24) := by unfold parseF; rw [if_pos hcr]
    have r0 := hr.c0; have r1 := hr.c1; have rf0 := hr.fr 0; have rf1 := hr.fr 1; have rl := hr.lt
    go_wp2_with fail
    exact bodyPost_ret (v := .tuple #[.agg #[.string .empty, .string .empty], .int .i64 24]) (by simp [results, Tryd.results8, go_sem, r0, r1]; try rfl) rfl ⟨by rw [hp], by repeat (first | exact Chg.refl _ _ | assumption | refine Chg.setCell ?_ (.inl (by first | (simp; done) | (simp; omega) | omega)) _ | refine Chg.drewN ?_ _ | refine Chg.drew ?_ | refine Chg.alloc ?_ _)⟩
end Go.Proofs.YthncigahodannaaDoor
