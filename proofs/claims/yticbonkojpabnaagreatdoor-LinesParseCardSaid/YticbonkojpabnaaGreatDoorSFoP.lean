/- octet.Fold, by the kit's walk (it ZAq its own row), as a ZI3 over abstract values. No statement of its own. -/
import Derived.Test.YticbonkojpabnaaGreatDoorSLib
import Derived.Test.YticbonkojpabnaaGreatDoorSSa
import Derived.Laws.IdiomStrings
set_option linter.unusedSimpArgs false
set_option linter.unusedVariables false
set_option maxRecDepth 100000
namespace Go.Proofs.YticbonkojpabnaaGreatDoor
open Go.RowKit
theorem lower_any (n:Int) (w:World) (h0:0<=n) (h1:n<=255) :
  Calls Tryz.prog 218 #[.int .u8 n] w fun e w'=>e=.returned (.int .u8 (lowI n))/\w=w':=by
 by_cases h:65<=n
 ·by_cases h2:n<=90
  ·have hw:IntKind.u8.wrap (n+32)=n+32:=by simp [IntKind.wrap,IntKind.bits,IntKind.signed]; omega
   go_enter Tryz.func218,Tryz.ntmps218
   go_wp2
   go_ret
   exact ⟨by simp [lowI,h,h2],rfl⟩
  ·go_enter Tryz.func218,Tryz.ntmps218
   go_wp2
   go_ret
   exact ⟨by simp [lowI]; try omega,rfl⟩
 ·go_enter Tryz.func218,Tryz.ntmps218
  go_wp2
  go_ret
  exact ⟨by simp [lowI]; try omega,rfl⟩
/-- the row g holds the bytes l, and may be written. -/
structure BRow (w:World) (g:Nat) (l:List UInt8):Prop where
 lt:g<w.heap.size
 cell:∀ j (hj:j<l.length),w.cell? ⟨g,j,none⟩=some (.int .u8 (l[j].toNat:Int))
 fr:∀ j,j<l.length->w.frozen? ⟨g,j,none⟩=false

theorem BRow.new (w:World) (t:TypeId) (s:ByteArray) (c:Nat):BRow (w.alloc (.cells (bytesRow s c) t ((bytesRow s c).size,(bytesRow s c).size+1))) w.heap.size s.data.toList:=by
 have hb:(w.alloc (.cells (bytesRow s c) t ((bytesRow s c).size,(bytesRow s c).size+1))).heap[w.heap.size]? = some (.cells (bytesRow s c) t ((bytesRow s c).size,(bytesRow s c).size+1)):=heap_alloc_new w _
 have hz:s.size<=(bytesRow s c).size:=by
  unfold bytesRow
  rw [Array.size_append,Array.size_map]
  show s.data.size<=_
  omega
 refine ⟨by simp,fun j hj=>?_,fun j hj=>?_⟩
 ·rw [cell_of_row _ _ j _ _ _ hb]
  unfold bytesRow
  rw [Array.getElem?_append_left (by rw [Array.size_map]; rw [blen] at hj; exact hj),Array.getElem?_map]
  have hj':j<s.data.size:=by rw [Array.length_toList] at hj; exact hj
  rw [Array.getElem?_eq_getElem hj']
  rfl
 ·rw [blen] at hj
  simp only [World.frozen?,hb]
  simp
  omega
theorem BRow.chg {w w':World} {S:Nat->Prop} {g:Nat} {l:List UInt8} (h:BRow w g l) (c:Chg w w' S) (hs:¬ S g):BRow w' g l :=
 ⟨Nat.lt_of_lt_of_le h.lt c.size,fun j hj=>(c.cellq (a:=⟨g,j,none⟩) h.lt hs).trans (h.cell j hj),fun j hj=>(c.frozenq (a:=⟨g,j,none⟩) h.lt hs).trans (h.fr j hj)⟩
theorem BRow.put {w:World} {g:Nat} {l:List UInt8} (h:BRow w g l) {k:Nat} (hk:k<l.length) (b:UInt8):BRow (w.setCell ⟨g,k,none⟩ (.int .u8 (b.toNat:Int))) g (l.set k b):=by
 refine ⟨by have:=h.lt; simp [World.setCell]; omega,fun j hj=>?_,fun j hj=>?_⟩
 ·rw [List.length_set] at hj
  by_cases e:k=j
  ·subst e
   rw [World.cell?_setCell_same _ _ _ (by rw [h.cell k hk])]
   simp
  ·rw [World.cell?_setCell_other _ _ _ _ (by simp)]
   rw [h.cell j hj]
   simp [e]
 ·rw [List.length_set] at hj
  rw [World.frozen?_setCell]
  exact h.fr j hj
theorem BRow.back {P:Program} {w:World} {g:Nat} {l:List UInt8} (h:BRow w g l) (src dst e:TypeId) (c n:Nat) (hn:l.length=n) (hs:P.underlying src=some (.slice e)) (he:P.underlying e=some (.int .u8)) (hd:P.underlying dst=some .string) :
  (convert src dst (.slice (some ⟨g,0,none⟩) n c)).run P w=.ok (.string ⟨l.toArray⟩) w:=by
 subst hn
 exact run_convert_bytes_back w src dst e ⟨g,0,none⟩ c l hs he hd (fun j hj=>by rw [Addr.add_lit,Nat.zero_add]; exact h.cell j hj)

set_option maxHeartbeats 400000 in
theorem fold_any (s:ByteArray) (hs:s.size<=maxLen) (w:World) :
  Calls Tryz.prog 173 #[.string s] w fun e w'=>e=.returned (.string (ZD4 s))/\Chg w w' (fun _=>False):=by
 have hs2:s.size<=2 ^ 63 - 1:=hs
 have hcv:=fun W=>run_bytes_of_string (P:=Tryz.prog) W 9 50 5 s (by kernel_rfl) (by kernel_rfl) (by kernel_rfl)
 go_enter Tryz.func173,Tryz.ntmps173
 go_wp2_with fail
 clear hcv
 have hR:BRow (w.alloc (.cells (bytesRow s (grownCap w s.size 0 5)) 5 ((bytesRow s (grownCap w s.size 0 5)).size,(bytesRow s (grownCap w s.size 0 5)).size+1))).drew w.heap.size s.data.toList:=(BRow.new w _ s _).chg (S:=fun _=>False) (Chg.refl _ _).drew (fun h=>h)
 have hC:Chg w (w.alloc (.cells (bytesRow s (grownCap w s.size 0 5)) 5 ((bytesRow s (grownCap w s.size 0 5)).size,(bytesRow s (grownCap w s.size 0 5)).size+1))).drew (fun _=>False):=((Chg.refl w _).alloc _).drew
 generalize hg:w.heap.size=g at *
 generalize (w.alloc (.cells (bytesRow s (grownCap w s.size 0 5)) 5 ((bytesRow s (grownCap w s.size 0 5)).size,(bytesRow s (grownCap w s.size 0 5)).size+1))).drew=w0 at *
 generalize grownCap w s.size 0 5=c at *
 go_loopg [10] s.size (fun gk s10 wr=>∃ k:Nat,k+gk=s.size/\s10=.int .i64 k/\BRow wr g ((s.data.toList.take k).map lowU++s.data.toList.drop k)/\Chg w wr (fun _=>False))
 case atStart=>exact ⟨0,by omega,rfl,by simpa using hR,hC⟩
 case round =>
  obtain ⟨k,hk,rfl,hR,hC⟩:=hrel
  have hlen:((s.data.toList.take k).map lowU++s.data.toList.drop k).length=s.size:=by
   rw [List.length_append,List.length_map,List.length_take,List.length_drop,blen]; omega
  by_cases hlt:k<s.size
  ·have hx:=hR.cell k (by omega)
   have hf:=hR.fr k (by omega)
   have hl:=hR.lt
   have hget:((s.data.toList.take k).map lowU++s.data.toList.drop k)[k]'(by omega)=s[k]:=by
    rw [List.getElem_append_right (by rw [List.length_map,List.length_take,blen]; omega)]
    simp only [List.length_map,List.length_take,blen,List.getElem_drop]
    show s.data.toList[_]'_=s.data.toList[k]'(by rw [blen]; exact hlt)
    congr 1; omega
   rw [hget] at hx
   have hL:=fun W=>lower_any (s[k].toNat:Int) W (by omega) (by have:=s[k].toNat_lt; omega)
   rw [<- lowU_nat] at hL
   have HR:=Lib.hid hR
   clear hR hget
   go_wp2_with fail
   refine (hL _).mono ?_; rintro e w1 ⟨rfl,rfl⟩
   go_wp2_with fail
   go_roundg (gk - 1)
   case measure=>omega
   case rel =>
    refine ⟨k+1,by omega,by go_num,?_,?_⟩
    ·have:=HR.out.put (k:=k) (by omega) (lowU s[k])
     have e:((s.data.toList.take k).map lowU++s.data.toList.drop k).set k (lowU s[k])=(s.data.toList.take (k+1)).map lowU++s.data.toList.drop (k+1):=by
      rw [List.set_append_right _ _ (by rw [List.length_map,List.length_take,blen]; omega)]
      rw [List.length_map,List.length_take,blen,Nat.min_eq_left (by omega),Nat.sub_self,List.drop_eq_getElem_cons (by rw [blen]; exact hlt),List.set_cons_zero,List.take_succ_eq_append_getElem (by rw [blen]; exact hlt),List.map_append,List.append_assoc]
      rfl
     rw [e] at this
     first | exact this | exact this.chg (S:=fun _=>False) (Chg.refl _ _).drew (fun h=>h)
    ·refine Chg.setCell ?_ (.inl (by show w.heap.size<=g; omega)) _
     exact hC
  ·have hb:=hR.back (P:=Tryz.prog) 50 9 5 c s.size hlen (by kernel_rfl) (by kernel_rfl) (by kernel_rfl)
   rw [show (s.data.toList.take k).map lowU++s.data.toList.drop k=foldL s.data.toList from by rw [List.take_of_length_le (by rw [blen]; omega),List.drop_of_length_le (by rw [blen]; omega),List.append_nil]; rfl] at hb
   clear hR
   go_wp2_with fail
   go_ret
   exact ⟨rfl,hC⟩
theorem foldO_p (s:ByteArray) (hs:s.size<=maxLen):ZAC Tryz.prog 173 [.s s] (.s (ZD4 s)) [] :=
 ZAC.of_lits #[.string s] (.inl rfl) rfl Tryz.call173 fun w _=>(fold_any s hs w).mono fun _ _ ⟨he,hc⟩=>⟨he,hc.below (Nat.le_refl _) (fun _ _ h=>h)⟩
end Go.Proofs.YticbonkojpabnaaGreatDoor
