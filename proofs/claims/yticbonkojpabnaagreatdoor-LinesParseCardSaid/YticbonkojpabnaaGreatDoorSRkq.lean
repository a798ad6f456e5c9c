/- Lines of rules: what words are read from a line that was written. No program in sight. -/
import Derived.Test.YticbonkojpabnaaGreatDoorSRpz
import Derived.Test.YticbonkojpabnaaGreatDoorSRuF
import Derived.Test.YticbonkojpabnaaGreatDoorSFdp
import Derived.Test.YticbonkojpabnaaGreatDoorSSb
import Derived.Test.YticbonkojpabnaaGreatDoorSSm
import Derived.Test.YticbonkojpabnaaGreatDoorSSp
set_option linter.unusedSimpArgs false
set_option linter.unusedVariables false
set_option maxRecDepth 100000
namespace Go.Proofs.YticbonkojpabnaaGreatDoor
open Go.RowKit
def qtI (n:Int):Bool:=n == 34 || n == 92
def ZAU (l:List UInt8):List UInt8:=l.flatMap fun b=>if qtI (b.toNat:Int)=true then [92,b] else [b]
def ZBi (s:ByteArray):ByteArray:=⟨(34::(ZAU s.data.toList++[34])).toArray⟩
def ZA1 (s:ByteArray):ByteArray × Int:=if allI valI s=true then (ZBi s,0) else (⟨#[]⟩,2)
theorem ZF6 {b:UInt8} (v:List UInt8) (h:qtI (b.toNat:Int)=true):ZAU (b::v)=92::b::ZAU v:=by simp [ZAU,h]
theorem ZG6 {b:UInt8} (v:List UInt8) (h:qtI (b.toNat:Int)=false):ZAU (b::v)=b::ZAU v:=by simp [ZAU,h]
theorem ZEy (l:List UInt8) (b:UInt8):ZAU (l++[b])=ZAU l++(if qtI (b.toNat:Int)=true then [92,b] else [b]):=by simp [ZAU]
theorem ZCg:∀ l:List UInt8,(ZAU l).length<=2*l.length
 | []=>by simp [ZAU]
 | b::l=>by
  have:=ZCg l
  cases h:qtI (b.toNat:Int) with
  | true=>rw [ZF6 l h]; simp only [List.length_cons]; omega
  | false=>rw [ZG6 l h]; simp only [List.length_cons]; omega
theorem ZBW (s:ByteArray):(ZBi s).data.toList=34::(ZAU s.data.toList++[34]):=by
 unfold ZBi
 show (List.toArray _).toList=_
 rw [List.toList_toArray]
theorem ZKt (s:ByteArray):(ZBi s).size<=2*s.size+2:=by
 have:=ZCg s.data.toList
 rw [blen] at this
 rw [<- blen,ZBW]
 simp
 omega
theorem ZGw (s:ByteArray):(ZA1 s).1.size<=2*s.size+2:=by
 unfold ZA1
 split
 ·exact ZKt s
 ·exact Nat.zero_le _
theorem ZBY {s:ByteArray} {k:Nat} {x:UInt8} {r:List UInt8} (h:s.data.toList.drop k=x::r):s.data.toList[k]? = some x/\s.data.toList.drop (k+1)=r:=by
 have h0:(s.data.toList.drop k)[0]? = some x:=by rw [h]; rfl
 rw [List.getElem?_drop] at h0
 refine ⟨h0,?_⟩
 have h1:(s.data.toList.drop k).drop 1=r:=by rw [h]; rfl
 rwa [List.drop_drop] at h1
theorem ZIn {s:ByteArray} {k:Nat} {x:UInt8} {r:List UInt8} (h:s.data.toList.drop k=x::r):k<s.size:=by
 have:=(List.getElem?_eq_some_iff.1 (ZBY h).1).1
 rwa [blen] at this
theorem ZFE {s:ByteArray} {k:Nat} {x r:List UInt8} (h:s.data.toList.drop k=x++r):s.data.toList.drop (k+x.length)=r:=by
 have h1:(s.data.toList.drop k).drop x.length=r:=by rw [h,List.drop_left]
 rwa [List.drop_drop] at h1
theorem ZJE {s:ByteArray} (post:List UInt8):∀ (v:List UInt8) (k:Nat) (acc:List UInt8),(∀ b∈v,valI (b.toNat:Int)=true)->s.data.toList.drop k=ZAU v++34::post->ZBQ s k acc=some (acc++v,k+(ZAU v).length+1)
 | [],k,acc,_,h=>by
  have h:s.data.toList.drop k=34::post:=h
  have h1:=(ZBY h).1
  rw [ZBf acc (by unfold atB; rw [h1]; rfl),List.append_nil]
  rfl
 | b::v,k,acc,hv,h=>by
  have hb:=hv b (.head _)
  cases hq:qtI (b.toNat:Int) with
  | true =>
   rw [ZF6 v hq] at h ⊢
   obtain ⟨h1,h2⟩:=ZBY h
   obtain ⟨h3,h4⟩:=ZBY h2
   have a92:atB s k 92=true:=by unfold atB; rw [h1]; rfl
   have a34:atB s k 34=false:=by unfold atB; rw [h1]; rfl
   have hn:nxt s k=some (b,k+1+1):=by unfold nxt; rw [if_pos a92,h3]; simp only [if_pos hb]
   rw [ZA2 acc a34 hn,ZJE post v (k+1+1) (acc++[b]) (fun x hx=>hv x (.tail _ hx)) h4]
   simp only [List.append_assoc,List.cons_append,List.nil_append,List.length_cons,Option.some.injEq,Prod.mk.injEq,true_and]
   omega
  | false =>
   rw [ZG6 v hq] at h ⊢
   obtain ⟨h1,h2⟩:=ZBY h
   unfold qtI at hq
   rw [Bool.or_eq_false_iff] at hq
   have a92:atB s k 92=false:=by unfold atB; rw [h1]; exact hq.2
   have a34:atB s k 34=false:=by unfold atB; rw [h1]; exact hq.1
   have hn:nxt s k=some (b,k+1):=by unfold nxt; rw [if_neg (by rw [a92]; decide),h1]; simp only [if_pos hb]
   rw [ZA2 acc a34 hn,ZJE post v (k+1) (acc++[b]) (fun x hx=>hv x (.tail _ hx)) h2]
   simp only [List.append_assoc,List.cons_append,List.nil_append,List.length_cons,Option.some.injEq,Prod.mk.injEq,true_and]
   omega
/-- a word, as it stands in a line -/
def prtW (w:Wd):List UInt8:=if w.2=true then 34::(ZAU w.1.data.toList++[34]) else w.1.data.toList
def WdOk (w:Wd):Prop:=if w.2=true then allI valI w.1=true else tokB w.1=true
def wdB (w:Wd):ByteArray:=if w.2=true then ZBi w.1 else w.1
theorem wdB_l (w:Wd):(wdB w).data.toList=prtW w:=by
 unfold wdB prtW
 split
 ·exact ZBW _
 ·rfl
theorem tok_no (b:UInt8) (h:tokI (b.toNat:Int)=true):(b == 34)=false:=by
 have:=u8_of (q:=fun b=>!tokI (b.toNat:Int) || !(b == 34)) (by decide +kernel) b
 simpa only [h,Bool.not_true,Bool.false_or,Bool.not_eq_true'] using this
theorem ZIc {w:Wd} (hw:WdOk w) (q:List UInt8):∃ b r,prtW w++q=b::r/\blkI (b.toNat:Int)=false/\(b == 34)=w.2/\(w.2=false->tokI (b.toNat:Int)=true):=by
 obtain ⟨t,f⟩:=w
 cases f with
 | true=>exact ⟨34,_,rfl,rfl,rfl,fun h=>by cases h⟩
 | false =>
  have hw:tokB t=true:=hw
  obtain ⟨h0,h1⟩:=ZFp hw
  show ∃ b r,t.data.toList++q=b::r/\_
  cases hl:t.data.toList with
  | nil=>rw [<- blen,hl] at h0; cases h0
  | cons b r =>
   have hb:=h1 b (by rw [hl]; exact .head _)
   exact ⟨b,r++q,rfl,(tok_facts b hb).2.1,tok_no b hb,fun _=>hb⟩
theorem ZMp {s:ByteArray} {k:Nat} {w:Wd} {post:List UInt8} (hw:WdOk w) (h:s.data.toList.drop k=prtW w++post) (hp:∀ b,post.head? = some b->blkI (b.toNat:Int)=true) :
  ZB8 s k=some (w.1,k+(prtW w).length)/\atB s k 34=w.2/\k<s.size:=by
 obtain ⟨b,r,e1,e2,e3,e4⟩:=ZIc hw post
 have h1:=ZBY (h.trans e1)
 have h2:atB s k 34=w.2:=by
  unfold atB
  rw [h1.1,<- e3,Option.any_some,Bool.eq_iff_iff,beq_iff_eq,beq_iff_eq]
  constructor
  ·intro h; exact UInt8.toNat_inj.1 (by have:((34:UInt8)).toNat=34:=rfl; omega)
  ·intro h; rw [h]; rfl
 refine ⟨?_,h2,ZIn (h.trans e1)⟩
 obtain ⟨t,f⟩:=w
 cases f with
 | true =>
  have hw:allI valI t=true:=hw
  have h:s.data.toList.drop k=34::(ZAU t.data.toList++[34])++post:=h
  have h3:s.data.toList.drop (k+1)=ZAU t.data.toList++34::post:=by
   have:=(ZBY (x:=34) (r:=(ZAU t.data.toList++[34])++post) h).2
   rw [this]
   simp
  rw [ZEH (ZJM (Nat.le_of_lt (ZIn (h.trans rfl))) h2)]
  unfold ZAw
  rw [if_pos h2,ZJE post _ _ [] (ZJK hw) h3]
  show some _=some _
  rw [List.nil_append]
  refine congrArg some (Prod.ext (inL ?_) ?_)
  ·show (List.toArray _).toList=_
   rw [List.toList_toArray]
  ·show _=k+(34::(ZAU t.data.toList++[34])).length
   simp only [List.length_cons,List.length_append,List.length_nil]
   omega
 | false =>
  have hw:tokB t=true:=hw
  obtain ⟨h0,h4⟩:=ZFp hw
  have h:s.data.toList.drop k=t.data.toList++post:=h
  have ht:tw tokI s k=t.data.toList.length:=ZLK h h4 (fun b hb=>(blk_facts b (hp b hb)).2.1)
  have hlen:t.data.toList.length=t.size:=blen t
  rw [ZEC (by rw [ht]; omega),ht]
  refine congrArg some (Prod.ext (inL ?_) rfl)
  rw [exL,List.drop_take,h,Nat.add_sub_cancel_left,List.take_left]
theorem gap_prt {s:ByteArray} {k:Nat} {y r:List UInt8} (h:s.data.toList.drop k=y++r) (hy:∀ b∈y,blkI (b.toNat:Int)=true) (hr:∀ b,r.head? = some b->blkI (b.toNat:Int)=false) (hne:y≠[] \/ r=[]):gapS s k=some (k+y.length):=by
 have ht:tw blkI s k=y.length:=ZLK h hy hr
 unfold gapS
 rw [ht,if_neg]
 rintro ⟨h1,_,h2⟩
 have hy0:=List.eq_nil_of_length_eq_zero h1
 rcases hne with hne | hne
 ·exact hne hy0
 ·rw [hy0,hne] at h
  have:=List.drop_eq_nil_iff.1 h
  rw [blen] at this
  omega
/-- words with blanks ahead of each -/
def lnL:List (List UInt8 × Wd)->List UInt8
 | []=>[]
 | x::r=>x.1++(prtW x.2++lnL r)
def BlkL (y:List UInt8):Prop:=∀ b∈y,blkI (b.toNat:Int)=true
theorem ZH5 {s:ByteArray} {z:List UInt8} (hz:BlkL z):∀ (r:List (List UInt8 × Wd)) (w:Wd) (k:Nat),WdOk w->(∀ x∈r,x.1≠[]/\BlkL x.1/\WdOk x.2)->s.data.toList.drop k=prtW w++(lnL r++z)->ZAV s k=(w::r.map (·.2),true)
 | [],w,k,hw,_,h=>by
  have h:s.data.toList.drop k=prtW w++z:=h
  have hp:∀ b,z.head? = some b->blkI (b.toNat:Int)=true:=fun b hb=>hz b (by cases z with | nil=>cases hb | cons c z=>simp at hb; subst hb; exact .head _)
  obtain ⟨h1,h2,h3⟩:=ZMp hw h hp
  have h4:=ZFE h
  have h5:gapS s (k+(prtW w).length)=some (k+(prtW w).length+z.length):=gap_prt (r:=[]) (by rw [List.append_nil]; exact h4) hz (fun b hb=>by cases hb) (.inr rfl)
  have h6:=ZFE (x:=z) (r:=[]) (by rw [List.append_nil]; exact h4)
  have h7:=List.drop_eq_nil_iff.1 h6
  rw [blen] at h7
  rw [ZA0 h3 h1 h5,ZBt h7,h2]
  rfl
 | (y,v)::r,w,k,hw,hr,h=>by
  obtain ⟨y1,y2,y3⟩:=hr _ (.head _)
  have h:s.data.toList.drop k=prtW w++(y++(prtW v++(lnL r++z))):=by rw [h]; simp [lnL]
  have hp:∀ b,(y++(prtW v++(lnL r++z))).head? = some b->blkI (b.toNat:Int)=true:=fun b hb=>by
   cases y with
   | nil=>exact absurd rfl y1
   | cons c y=>simp at hb; subst hb; exact y2 _ (.head _)
  obtain ⟨h1,h2,h3⟩:=ZMp hw h hp
  have h4:=ZFE h
  obtain ⟨b,r9,e1,e2,_⟩:=ZIc y3 (lnL r++z)
  have h5:=gap_prt h4 y2 (fun b' hb'=>by rw [e1] at hb'; cases hb'; exact e2) (.inl y1)
  have h6:=ZH5 hz r v _ y3 (fun x hx=>hr x (.tail _ hx)) (ZFE h4)
  rw [ZA0 h3 h1 h5,h6,h2]
  rfl
theorem words_of {s:ByteArray} {z y:List UInt8} (hz:BlkL z) (hy:BlkL y) (r:List (List UInt8 × Wd)) (w:Wd) (hw:WdOk w) (hr:∀ x∈r,x.1≠[]/\BlkL x.1/\WdOk x.2) (h:s.data.toList=y++(prtW w++(lnL r++z))):ZBB s=(w::r.map (·.2),true):=by
 obtain ⟨b,r9,e1,e2,_⟩:=ZIc hw (lnL r++z)
 have h0:tw blkI s 0=y.length:=ZLK h hy (fun b' hb'=>by rw [e1] at hb'; cases hb'; exact e2)
 unfold ZBB
 rw [h0]
 refine ZH5 hz r w _ hw hr ?_
 have:=ZFE (k:=0) h
 rwa [Nat.zero_add] at this
/-- what a template may be read of is a value -/
theorem oneT_val {s:ByteArray} {k j:Nat} {p:Prt} (h:oneT s k=some (p,j)):∀ i (hi:i<s.size),k<=i->i<j->valI (s[i].toNat:Int)=true:=by
 have at_val:∀ {k:Nat} {b:Int},atB s k b=true->valI b=true->∀ (hk:k<s.size),valI (s[k].toNat:Int)=true:=by
  intro k b ha hb hk
  obtain ⟨_,e⟩:=ZBG ha
  rw [e]; exact hb
 have tok_val:∀ m:Nat,m<256->tokI (m:Int)=true->valI (m:Int)=true:=by decide +kernel
 have sml_val:∀ m:Nat,m<256->smlI (m:Int)=true->valI (m:Int)=true:=by decide +kernel
 unfold oneT at h
 split at h
 ·split at h
  ·split at h
   ·rename_i hk hv
    cases h
    intro i hi h1 h2
    obtain rfl:i=k:=by omega
    exact hv
   ·cases h
  ·cases h
 ·rename_i h36
  have h36:atB s k 36=true:=by simpa using h36
  split at h
  ·rename_i h37
   cases h
   intro i hi h1 h2
   by_cases e:i=k
   ·subst e; exact at_val h36 rfl hi
   ·obtain rfl:i=k+1:=by omega
    exact at_val h37 rfl hi
  ·split at h
   ·cases h
   ·rename_i hno
    have hk:k<=s.size:=Nat.le_of_lt (ZBG h36).1
    have hl:=ZCR nbrI s k hk
    have n1:k+tw nbrI s k≠s.size:=fun e=>hno (.inl e)
    have n3:atB s (k+1) 123=true:=by
     cases e:atB s (k+1) 123 with
     | true=>rfl
     | false=>exact absurd (.inr (.inr e)) hno
    have hend:=tw_stop (q:=nbrI) (s:=s) (k:=k) (by omega)
    have he:(s[k+tw nbrI s k]'(by omega)).toNat=125:=by
     unfold nbrI at hend
     have h9:=bne_eq_false_iff_eq.1 hend
     exact Int.ofNat.inj h9
    have fin:∀ (d:Nat) (q:Int->Bool),(∀ m:Nat,m<256->q (m:Int)=true->valI (m:Int)=true)->(∀ i (hi:i<s.size),k<=i->i<k+d->valI (s[i].toNat:Int)=true)->allI q (s.extract (k+d) (k+tw nbrI s k))=true ->
      ∀ i (hi:i<s.size),k<=i->i<k+tw nbrI s k+1->valI (s[i].toNat:Int)=true:=by
     intro d q hq h0 ha i hi h1 h2
     by_cases e:i=k+tw nbrI s k
     ·subst e; rw [he]; rfl
     ·by_cases e2:i<k+d
      ·exact h0 i hi h1 e2
      ·obtain ⟨_,h3⟩:=ZI7 (by omega) ha i (by omega) (by omega)
       exact hq _ (s[i].toNat_lt) h3
    split at h
    ·rename_i h64
     split at h
     ·rename_i ht
      cases h
      refine fin 3 tokI tok_val (fun i hi h1 h2=>?_) (by unfold tokB at ht; rw [Bool.and_eq_true] at ht; exact ht.2)
      by_cases e:i=k
      ·subst e; exact at_val h36 rfl hi
      ·by_cases e2:i=k+1
       ·subst e2; exact at_val n3 rfl hi
       ·obtain rfl:i=k+2:=by omega
        exact at_val h64 rfl hi
     ·cases h
    ·split at h
     ·rename_i ht
      cases h
      refine fin 2 smlI sml_val (fun i hi h1 h2=>?_) ht
      by_cases e:i=k
      ·subst e; exact at_val h36 rfl hi
      ·obtain rfl:i=k+1:=by omega
       exact at_val n3 rfl hi
     ·cases h
theorem tpW_val {s:ByteArray}:∀ (z k:Nat) (acc l:List Prt),s.size - k=z->tpW s k acc=some l->∀ i (hi:i<s.size),k<=i->valI (s[i].toNat:Int)=true:=by
 intro z
 induction z using Nat.strongRecOn with
 | _ z ih =>
  intro k acc l hz h i hi hki
  have hk:k<s.size:=by omega
  cases ho:oneT s k with
  | none=>rw [ZDb hk ho] at h; cases h
  | some x =>
   obtain ⟨p,j⟩:=x
   have hl:=ZG9 ho
   rw [ZCs hk ho] at h
   by_cases e:i<j
   ·exact oneT_val ho i hi hki e
   ·exact ih (s.size - j) (by omega) j _ l rfl h i hi (by omega)
theorem ZH4 {s:ByteArray} (h:(ZAM s).2≠2):allI valI s=true:=by
 unfold ZAM at h
 cases ht:tpW s 0 [] with
 | none=>rw [ht] at h; exact absurd rfl h
 | some l=>exact ZB1 fun i hi=>tpW_val _ 0 [] l rfl ht i hi (Nat.zero_le _)
def spB:ByteArray:=⟨#[32]⟩
def ZDd (n:Int):ByteArray:=if n=2 then kRes else kReq
def ZBI (k:Int) (a b:ByteArray):List Wd :=
 if k=1 then [(kIf,false),(kHas,false),(a,false)] else if k=2 then [(kIf,false),(ZA8,false),(a,false)] else if k=3 then [(kIf,false),(kIs,false),(a,false),(b,true)] else []
def kwA (ac:Int):ByteArray:=if ac=1 then kSet else if ac=2 then kAdd else if ac=3 then kRem else kRen
def ZCL (r:Rl):List Wd:=if r.ac=1 \/ r.ac=2 then [(r.nm,false),(wrL r.ps,true)] else if r.ac=3 then [(r.nm,false)] else [(r.nm,false),(r.un,false)]
def ZCp (r:Rl):List Wd:=ZBI r.gk r.ga r.gb++(kwA r.ac,false)::ZCL r
def ZDA (r:Rl):List Wd:=(ZDd r.sd,false)::ZCp r
def ZAx (r:Rl):ByteArray:=ZBU spB ((ZDA r).map wdB)
def ZIo (r:Rl):ByteArray × Int:=if ZAO r=0 then (ZAx r,0) else (⟨#[]⟩,ZAO r)
theorem ZF4 (w:Wd):∀ l:List Wd,(ZBU spB (wdB w::l.map wdB)).data.toList=prtW w++lnL (l.map fun x=>([32],x)):=by
 intro l
 induction l generalizing w with
 | nil=>rw [List.map_nil,ZCH,wdB_l]; simp [lnL]
 | cons x l ih =>
  rw [List.map_cons,ZEQ (by simp),ZAp,ZAp,ih x,wdB_l,List.map_cons]
  show _=prtW w++([32]++(prtW x++lnL (l.map fun x=>([32],x))))
  have e:spB.data.toList=[32]:=rfl
  rw [e,List.append_assoc]
theorem ZCM {r:Rl} (h:ZAO r=0):(r.sd=1 \/ r.sd=2)/\ZBK r.gk r.ga r.gb=true/\ZDi r.nm=true/\actB r.sd r.ac r.un r.ps=true:=by
 unfold ZAO at h
 split at h
 ·rename_i h1
  simp only [Bool.and_eq_true] at h1
  obtain ⟨⟨⟨h1,h2⟩,h3⟩,h4⟩:=h1
  unfold ZKj at h1
  exact ⟨of_decide_eq_true h1,h2,h3,h4⟩
 ·cases h
theorem ZEW {l:List Prt} (h:(ZB9 l).2=0):ZAM (wrL l)=(l,0)/\ZB9 l=(wrL l,0):=by
 unfold ZB9 at h ⊢
 split at h
 ·cases h
 ·rename_i hc
  have h1:(ZAM (wrL l)).2=0:=Decidable.byContradiction fun e=>hc (.inl e)
  have h2:(ZAM (wrL l)).1=l:=Decidable.byContradiction fun e=>hc (.inr e)
  refine ⟨Prod.ext h2 h1,?_⟩
  rw [if_neg hc]
theorem ZFR {n ac:Int} {un:ByteArray} {ps:List Prt} (h:actB n ac un ps=true) (hac:ac=1 \/ ac=2):un=⟨#[]⟩/\(ZB9 ps).2=0:=by
 unfold actB at h
 rw [if_pos hac,Bool.and_eq_true,decide_eq_true_eq] at h
 refine ⟨(ZAi _).2 h.1,?_⟩
 have:=h.2
 unfold ZFZ at this
 rw [Bool.and_eq_true,decide_eq_true_eq] at this
 exact this.2
theorem tail_W {sd ac:Int} {gk:Int} {ga gb nm un:ByteArray} {ps:List Prt} (ha:actB sd ac un ps=true) (g:Gd):ZBa sd g (kwA ac) (ZCL ⟨sd,gk,ga,gb,ac,nm,un,ps⟩)=some (⟨sd,g.1,g.2.1,g.2.2,ac,nm,un,ps⟩,false):=by
 have n1:kAdd≠kSet:=by decide +kernel
 have n2:kRem≠kSet:=by decide +kernel
 have n3:kRem≠kAdd:=by decide +kernel
 have n4:kRen≠kSet:=by decide +kernel
 have n5:kRen≠kAdd:=by decide +kernel
 have n6:kRen≠kRem:=by decide +kernel
 by_cases h1:ac=1
 ·subst h1
  obtain ⟨rfl,h3⟩:=ZFR ha (.inl rfl)
  have hp:=(ZEW h3).1
  simp [ZBa,kwA,ZCL,ZA7,actL,setL,ZCw,ZCJ,hp]
 by_cases h2:ac=2
 ·subst h2
  obtain ⟨rfl,h3⟩:=ZFR ha (.inr rfl)
  have hp:=(ZEW h3).1
  simp [ZBa,kwA,ZCL,ZA7,actL,setL,ZCw,ZCJ,hp,n1]
 unfold actB at ha
 rw [if_neg (fun h=>h.elim h1 h2)] at ha
 by_cases h3:ac=3
 ·subst h3
  rw [if_pos rfl,Bool.and_eq_true,decide_eq_true_eq,decide_eq_true_eq] at ha
  have e1:un=⟨#[]⟩:=(ZAi _).2 ha.1
  have e2:ps=[]:=List.eq_nil_of_length_eq_zero ha.2
  subst e1; subst e2
  simp [ZBa,kwA,ZCL,ZA7,actL,n2,n3]
 ·rw [if_neg h3] at ha
  split at ha
  ·rename_i h4
   subst h4
   rw [Bool.and_eq_true,decide_eq_true_eq] at ha
   have e2:ps=[]:=List.eq_nil_of_length_eq_zero ha.2
   subst e2
   simp [ZBa,kwA,ZCL,ZA7,actL,renL,n4,n5,n6]
  ·cases ha
theorem kw_if (ac:Int):kwA ac≠kIf:=by
 unfold kwA
 split
 ·decide +kernel
 ·split
  ·decide +kernel
  ·split
   ·decide +kernel
   ·decide +kernel
theorem guard_W {k:Int} {a b:ByteArray} (h:ZBK k a b=true) (rest:List Wd) :
  (k=0/\a=⟨#[]⟩/\b=⟨#[]⟩/\ZBI k a b=[]) \/ ∃ t,ZBI k a b=(kIf,false)::t/\ZBD (t++rest)=some ((k,a,b),rest):=by
 have n1:ZA8≠kHas:=by decide +kernel
 have n2:kIs≠kHas:=by decide +kernel
 have n3:kIs≠ZA8:=by decide +kernel
 unfold ZBK at h
 split at h
 ·rename_i h0
  rw [Bool.and_eq_true,decide_eq_true_eq,decide_eq_true_eq] at h
  refine .inl ⟨h0,(ZAi _).2 h.1,(ZAi _).2 h.2,?_⟩
  subst h0
  rfl
 ·split at h
  ·rename_i h0
   rw [Bool.and_eq_true,decide_eq_true_eq] at h
   have e1:b=⟨#[]⟩:=(ZAi _).2 h.2
   subst e1
   rcases h0 with rfl | rfl
   ·exact .inr ⟨_,rfl,by simp [ZBD,ZA7]⟩
   ·exact .inr ⟨_,rfl,by simp [ZBD,ZA7,n1]⟩
  ·split at h
   ·rename_i h0
    subst h0
    exact .inr ⟨_,rfl,by simp [ZBD,ZA7,ZCJ,n2,n3]⟩
   ·cases h
theorem rule_W {r:Rl} (h:ZAO r=0):ZEc (ZDA r)=some (r,false):=by
 obtain ⟨h1,h2,h3,h4⟩:=ZCM h
 have hs:ZE0 (ZDA r)=some (r.sd,ZCp r):=by
  have n1:kRes≠kReq:=by decide +kernel
  unfold ZDA
  rcases h1 with h1 | h1 <;> rw [h1]
  ·simp [ZE0,ZDd,ZA7]
  ·simp [ZE0,ZDd,ZA7,n1]
 unfold ZEc
 rw [hs]
 obtain ⟨sd,gk,ga,gb,ac,nm,un,ps⟩:=r
 rcases guard_W h2 ((kwA ac,false)::ZCL ⟨sd,gk,ga,gb,ac,nm,un,ps⟩) with ⟨e1,e2,e3,e4⟩ | ⟨t,e1,e2⟩
 ·have e1:gk=0:=e1
  have e2:ga=⟨#[]⟩:=e2
  have e3:gb=⟨#[]⟩:=e3
  subst e1; subst e2; subst e3
  have:ZCp ⟨sd,0,⟨#[]⟩,⟨#[]⟩,ac,nm,un,ps⟩=(kwA ac,false)::ZCL ⟨sd,0,⟨#[]⟩,⟨#[]⟩,ac,nm,un,ps⟩:=rfl
  rw [this]
  simp only [ZA7]
  rw [if_neg (kw_if ac)]
  exact tail_W h4 _
 ·have:ZCp ⟨sd,gk,ga,gb,ac,nm,un,ps⟩=(kIf,false)::(t++(kwA ac,false)::ZCL ⟨sd,gk,ga,gb,ac,nm,un,ps⟩):=by
   show ZBI gk ga gb++_=_
   have e1:ZBI gk ga gb=_:=e1
   rw [e1]
   rfl
  rw [this]
  have e2:ZBD _=some ((gk,ga,gb),_):=e2
  simp only [ZA7,if_true,e2]
  exact tail_W h4 _
theorem ZMg {s:ByteArray} (h:ZDi s=true):tokB s=true:=by
 unfold ZDi at h
 rw [Bool.and_eq_true] at h
 exact h.1
theorem ZMz {r:Rl} (h:ZAO r=0):∀ w∈ZDA r,WdOk w:=by
 obtain ⟨h1,h2,h3,h4⟩:=ZCM h
 have kw:∀ t:ByteArray,tokB t=true->WdOk (t,false):=fun t ht=>ht
 have t1:tokB kReq=true:=by decide +kernel
 have t2:tokB kRes=true:=by decide +kernel
 have t3:tokB kIf=true:=by decide +kernel
 have t4:tokB kHas=true:=by decide +kernel
 have t5:tokB ZA8=true:=by decide +kernel
 have t6:tokB kIs=true:=by decide +kernel
 have t7:tokB (kwA r.ac)=true:=by
  unfold kwA
  split
  ·decide +kernel
  ·split
   ·decide +kernel
   ·split
    ·decide +kernel
    ·decide +kernel
 have hnm:=ZMg h3
 intro w hw
 unfold ZDA ZCp at hw
 rcases List.mem_cons.1 hw with rfl | hw
 ·refine kw _ ?_
  unfold ZDd
  split
  ·exact t2
  ·exact t1
 rcases List.mem_append.1 hw with hw | hw
 ·unfold ZBI at hw
  unfold ZBK at h2
  split at hw
  ·rename_i hk
   rw [if_neg (by omega),if_pos (.inl hk),Bool.and_eq_true] at h2
   simp only [List.mem_cons,List.mem_nil_iff,or_false] at hw
   rcases hw with rfl | rfl | rfl
   ·exact t3
   ·exact t4
   ·exact h2.1
  ·split at hw
   ·rename_i hk
    rw [if_neg (by omega),if_pos (.inr hk),Bool.and_eq_true] at h2
    simp only [List.mem_cons,List.mem_nil_iff,or_false] at hw
    rcases hw with rfl | rfl | rfl
    ·exact t3
    ·exact t5
    ·exact h2.1
   ·split at hw
    ·rename_i hk
     rw [if_neg (by omega),if_neg (by omega),if_pos hk,decide_eq_true_eq] at h2
     have hc:=ZMa h2
     simp only [List.mem_cons,List.mem_nil_iff,or_false] at hw
     rcases hw with rfl | rfl | rfl | rfl
     ·exact t3
     ·exact t6
     ·exact hc.1
     ·exact hc.2.1
    ·cases hw
 rcases List.mem_cons.1 hw with rfl | hw
 ·exact t7
 unfold ZCL at hw
 split at hw
 ·rename_i hac
  have hp:=(ZEW (ZFR h4 hac).2).1
  simp only [List.mem_cons,List.mem_nil_iff,or_false] at hw
  rcases hw with rfl | rfl
  ·exact hnm
  ·exact ZH4 (by rw [hp]; simp)
 ·split at hw
  ·simp only [List.mem_cons,List.mem_nil_iff,or_false] at hw
   subst hw
   exact hnm
  ·rename_i h12 h3'
   simp only [List.mem_cons,List.mem_nil_iff,or_false] at hw
   unfold actB at h4
   rw [if_neg h12,if_neg h3'] at h4
   split at h4
   ·rw [Bool.and_eq_true] at h4
    rcases hw with rfl | rfl
    ·exact hnm
    ·exact ZMg h4.1
   ·cases h4
theorem ZNC {r:Rl} (h:ZAO r=0):ZBB (ZAx r)=(ZDA r,true):=by
 have hok:=ZMz h
 have hb:(ZAx r).data.toList=[]++(prtW (ZDd r.sd,false)++(lnL ((ZCp r).map fun x=>([32],x))++[])):=by
  unfold ZAx ZDA
  rw [List.map_cons,ZF4,List.nil_append,List.append_nil]
 have:=words_of (z:=[]) (y:=[]) (fun b hb=>by cases hb) (fun b hb=>by cases hb) _ _ (hok _ (.head _)) (fun x hx=>by
  obtain ⟨w,hw,rfl⟩:=List.mem_map.1 hx
  refine ⟨by simp,fun b hb=>?_,hok _ (.tail _ hw)⟩
  simp at hb
  subst hb
  rfl) hb
 rw [this,List.map_map]
 show ((ZDd r.sd,false)::(ZCp r).map (fun x=>x),true)=_
 rw [List.map_id']
 rfl
/-- a rule is read from its line as it is -/
theorem ZKS {r:Rl} (h:ZAO r=0):ZAT (ZAx r)=(r,0):=by
 rw [ZMF,ZNC h,if_pos rfl,rule_W h]
 unfold outR
 simp [h]
/-- how long a line is -/
theorem ZIJ (r:Rl):(ZAx r).size<=60+r.ga.size+2*r.gb.size+r.nm.size+r.un.size+4*sumT r.ps+8*r.ps.length:=by
 have hw:=ZEZ r.ps
 have q1:=ZCg r.gb.data.toList
 have q2:=ZCg (wrL r.ps).data.toList
 rw [blen] at q1 q2
 have z1:=blen r.ga
 have z2:=blen r.nm
 have z3:=blen r.un
 have tl:(lnL ((ZCp r).map fun x=>([32],x))).length<=50+r.ga.size+2*r.gb.size+r.nm.size+r.un.size+2*(wrL r.ps).size:=by
  unfold ZCp ZBI kwA ZCL
  have e1:kIf.data.toList.length=2:=rfl
  have e2:kHas.data.toList.length=3:=rfl
  have e3:ZA8.data.toList.length=5:=rfl
  have e4:kIs.data.toList.length=2:=rfl
  have e5:kSet.data.toList.length=3:=rfl
  have e6:kAdd.data.toList.length=3:=rfl
  have e7:kRem.data.toList.length=6:=rfl
  have e8:kRen.data.toList.length=6:=rfl
  repeat' split
  all_goals simp only [List.cons_append,List.nil_append,List.map_cons,List.map_nil,lnL,prtW,List.length_append,List.length_cons,List.length_nil,if_true,Bool.false_eq_true,if_false]
  all_goals omega
 have hs:(prtW (ZDd r.sd,false)).length<=8:=by
  show (ZDd r.sd).data.toList.length<=8
  unfold ZDd
  split
  ·exact Nat.le_refl _
  ·show 7<=8; omega
 rw [<- blen]
 unfold ZAx ZDA
 rw [List.map_cons,ZF4,List.length_append]
 omega
/-- a row that is being made, not empty -/
inductive Acc2 (n:Nat) (tk:List Nat) (sz:Nat):AV->List (List AV)->Prop
 | tight (e0:List AV) (es:List (List AV)):Acc2 n tk sz (.sl .tight sz (e0::es)) (e0::es)
 | own (t e:Nat) (es:List (List AV)) (hn:n<=t) (ht:tk[t]? = some e):Acc2 n tk sz (.sl (.own t e) sz es) es
theorem Acc2.app {n:Nat} {st:St} {i:TI} {a:AV} {es ys:List (List AV)} {tg:Tk} {K:AV->St->Prop} (h:Acc2 n st.tk i.size a es) (hn:n<=st.tk.length) (hy:ys≠[]) (hb:(es.length+ys.length)*i.bytes<=140737488355328) (hm:es.length+ys.length<=maxLen)
  (hK:∀ t e tk',n<=t->tk'[t]? = some e->n<=tk'.length->(∀ t,t<n->tk'[t]? = st.tk[t]?)->K (.sl (.own t e) i.size (es++ys)) ⟨st.heap,tk'⟩):ZAn i a (.sl tg i.size ys) st K:=by
 cases h with
 | tight e0 es =>
  unfold ZAn srcA
  simp only [decide_true]
  refine ⟨fun e=>absurd e hy,fun _=>⟨hb,hm,?_⟩⟩
  refine hK _ _ _ hn (by simp) (by simp; omega) (fun t ht=>?_)
  rw [List.getElem?_append_left (by omega)]
 | own t e es h1 h2=>exact Acc.app (.own t e es h1 h2) hn hy hb hm hK
attribute [local irreducible] ZAn
set_option maxHeartbeats 1000000 in
theorem quote_p (s:ByteArray) (hs:s.size<=1099511627776):ZAC Tryz.prog 175 [.s s] (.tup [.s (ZA1 s).1,.i (ZA1 s).2]) []:=by
 have hmx:maxLen=9223372036854775807:=rfl
 refine ZAC.of rfl (ZAB.of_vc T_ok mixed Tryz.func175 rfl Tryz.call175 ?_)
 refine .p rfl (ZMI ZJs s (by omega)) ?_
 refine ZAA (fun hv=>?_) (fun hv=>?_)
 ·rw [Bool.not_eq_true'] at hv
  have e:ZA1 s=(⟨#[]⟩,2):=by unfold ZA1; rw [hv]; rfl
  rw [e]
  rfl
 rw [Bool.not_eq_false'] at hv
 have e:ZA1 s=(ZBi s,0):=by unfold ZA1; rw [if_pos hv]
 rw [e]
 refine ZAF [4,13] (fun g vals st'=>∃ (k:Nat) (a:AV),k+g=s.size/\vals=[a,.i k]/\Acc2 0 st'.tk 1 a (u8L (34::ZAU (s.data.toList.take k)))) s.size rfl ⟨0,_,by omega,rfl,.tight _ _⟩ ?_
 rintro g vals st1 ⟨k,a,hk,rfl,hA⟩
 have hql:=ZCg (s.data.toList.take k)
 have hlk:(s.data.toList.take k).length<=k:=by rw [List.length_take]; omega
 have hA0:=hA
 cases hA with
 | tight e0 es9 =>
  skip
  have hA:=hA0
  refine ZAA (fun hd=>?_) (fun hd=>?_)
  ·have hd:=of_decide_eq_true hd
   have k1:k<s.size:=by omega
   have hsn:ZAU (s.data.toList.take (k+1))=ZAU (s.data.toList.take k)++(if qtI (s[k].toNat:Int)=true then [92,s[k]] else [s[k]]):=by
    rw [List.take_add_one,List.getElem?_eq_getElem (by rw [blen]; exact k1),Option.toList_some,ZEy,bget s k k1]
   refine ⟨k,k1,rfl,?_⟩
   refine ZAA (fun h1=>?_) (fun h1=>?_)
   ·have hq:qtI (s[k].toNat:Int)=true:=by unfold qtI; rw [h1]; rfl
    refine Acc2.app (n:=0) (i:=ti5) (es:=(u8L (34::ZAU (s.data.toList.take k)))) hA (Nat.zero_le _) (List.cons_ne_nil _ _) ?_ ?_ (fun t e tk' q0 q1 q2 q3=>?_)
    ·show (List.length _+1)*1<=_; simp only [List.length_append,ZAE,List.length_cons,List.length_nil]; omega
    ·show List.length _+1<=9223372036854775807; simp only [List.length_append,ZAE,List.length_cons,List.length_nil]; omega
    refine ⟨k,k1,rfl,?_⟩
    refine Acc2.app (n:=0) (i:=ti5) (es:=(u8L (34::ZAU (s.data.toList.take k))++[[.u8 92]])) (.own t e _ q0 q1) (Nat.zero_le _) (List.cons_ne_nil _ _) ?_ ?_ (fun t2 e2 tk2 z0 z1 z2 z3=>?_)
    ·show (List.length _+1)*1<=_; simp only [List.length_append,ZAE,List.length_cons,List.length_nil]; omega
    ·show List.length _+1<=9223372036854775807; simp only [List.length_append,ZAE,List.length_cons,List.length_nil]; omega
    intro c hc
    rw [IntWalk.i64_in _ (by omega)] at hc
    obtain rfl:c=((k+1:Nat):Int):=by omega
    have he:u8L (34::ZAU (s.data.toList.take (k+1)))=u8L (34::ZAU (s.data.toList.take k))++[[.u8 92]]++[[.u8 s[k]]]:=by rw [hsn,if_pos hq]; simp [u8L]
    refine ⟨g - 1,by omega,k+1,_,by omega,rfl,?_⟩
    rw [he]
    exact .own _ _ _ z0 z1
   ·refine ⟨k,k1,rfl,?_⟩
    refine ZAA (fun h2=>?_) (fun h2=>?_)
    ·have hq:qtI (s[k].toNat:Int)=true:=by unfold qtI; rw [h1,h2]; rfl
     refine Acc2.app (n:=0) (i:=ti5) (es:=(u8L (34::ZAU (s.data.toList.take k)))) hA (Nat.zero_le _) (List.cons_ne_nil _ _) ?_ ?_ (fun t e tk' q0 q1 q2 q3=>?_)
     ·show (List.length _+1)*1<=_; simp only [List.length_append,ZAE,List.length_cons,List.length_nil]; omega
     ·show List.length _+1<=9223372036854775807; simp only [List.length_append,ZAE,List.length_cons,List.length_nil]; omega
     refine ⟨k,k1,rfl,?_⟩
     refine Acc2.app (n:=0) (i:=ti5) (es:=(u8L (34::ZAU (s.data.toList.take k))++[[.u8 92]])) (.own t e _ q0 q1) (Nat.zero_le _) (List.cons_ne_nil _ _) ?_ ?_ (fun t2 e2 tk2 z0 z1 z2 z3=>?_)
     ·show (List.length _+1)*1<=_; simp only [List.length_append,ZAE,List.length_cons,List.length_nil]; omega
     ·show List.length _+1<=9223372036854775807; simp only [List.length_append,ZAE,List.length_cons,List.length_nil]; omega
     intro c hc
     rw [IntWalk.i64_in _ (by omega)] at hc
     obtain rfl:c=((k+1:Nat):Int):=by omega
     have he:u8L (34::ZAU (s.data.toList.take (k+1)))=u8L (34::ZAU (s.data.toList.take k))++[[.u8 92]]++[[.u8 s[k]]]:=by rw [hsn,if_pos hq]; simp [u8L]
     refine ⟨g - 1,by omega,k+1,_,by omega,rfl,?_⟩
     rw [he]
     exact .own _ _ _ z0 z1
    ·have hq:¬ qtI (s[k].toNat:Int)=true:=by unfold qtI; rw [h1,h2]; decide
     refine ⟨k,k1,rfl,?_⟩
     refine Acc2.app (n:=0) (i:=ti5) (es:=(u8L (34::ZAU (s.data.toList.take k)))) hA (Nat.zero_le _) (List.cons_ne_nil _ _) ?_ ?_ (fun t e tk' q0 q1 q2 q3=>?_)
     ·show (List.length _+1)*1<=_; simp only [List.length_append,ZAE,List.length_cons,List.length_nil]; omega
     ·show List.length _+1<=9223372036854775807; simp only [List.length_append,ZAE,List.length_cons,List.length_nil]; omega
     intro c hc
     rw [IntWalk.i64_in _ (by omega)] at hc
     obtain rfl:c=((k+1:Nat):Int):=by omega
     have he:u8L (34::ZAU (s.data.toList.take (k+1)))=u8L (34::ZAU (s.data.toList.take k))++[[.u8 s[k]]]:=by rw [hsn,if_neg hq]; simp [u8L]
     refine ⟨g - 1,by omega,k+1,_,by omega,rfl,?_⟩
     rw [he]
     exact .own _ _ _ q0 q1
  ·have hd:=of_decide_eq_false hd
   obtain rfl:k=s.size:=by omega
   refine Acc2.app (n:=0) (i:=ti5) (es:=(u8L (34::ZAU (s.data.toList.take s.size)))) hA (Nat.zero_le _) (List.cons_ne_nil _ _) ?_ ?_ (fun t e tk' q0 q1 q2 q3=>?_)
   ·show (List.length _+1)*1<=_; simp only [List.length_append,ZAE,List.length_cons,List.length_nil]; omega
   ·show List.length _+1<=9223372036854775807; simp only [List.length_append,ZAE,List.length_cons,List.length_nil]; omega
   refine ⟨ZBi s,?_,rfl⟩
   rw [ZBW,List.take_of_length_le (by rw [blen]; exact Nat.le_refl _)]
   simp [u8L]
 | own t0 e0 _ hn0 ht0 =>
  skip
  have hA:=hA0
  refine ZAA (fun hd=>?_) (fun hd=>?_)
  ·have hd:=of_decide_eq_true hd
   have k1:k<s.size:=by omega
   have hsn:ZAU (s.data.toList.take (k+1))=ZAU (s.data.toList.take k)++(if qtI (s[k].toNat:Int)=true then [92,s[k]] else [s[k]]):=by
    rw [List.take_add_one,List.getElem?_eq_getElem (by rw [blen]; exact k1),Option.toList_some,ZEy,bget s k k1]
   refine ⟨k,k1,rfl,?_⟩
   refine ZAA (fun h1=>?_) (fun h1=>?_)
   ·have hq:qtI (s[k].toNat:Int)=true:=by unfold qtI; rw [h1]; rfl
    refine Acc2.app (n:=0) (i:=ti5) (es:=(u8L (34::ZAU (s.data.toList.take k)))) hA (Nat.zero_le _) (List.cons_ne_nil _ _) ?_ ?_ (fun t e tk' q0 q1 q2 q3=>?_)
    ·show (List.length _+1)*1<=_; simp only [List.length_append,ZAE,List.length_cons,List.length_nil]; omega
    ·show List.length _+1<=9223372036854775807; simp only [List.length_append,ZAE,List.length_cons,List.length_nil]; omega
    refine ⟨k,k1,rfl,?_⟩
    refine Acc2.app (n:=0) (i:=ti5) (es:=(u8L (34::ZAU (s.data.toList.take k))++[[.u8 92]])) (.own t e _ q0 q1) (Nat.zero_le _) (List.cons_ne_nil _ _) ?_ ?_ (fun t2 e2 tk2 z0 z1 z2 z3=>?_)
    ·show (List.length _+1)*1<=_; simp only [List.length_append,ZAE,List.length_cons,List.length_nil]; omega
    ·show List.length _+1<=9223372036854775807; simp only [List.length_append,ZAE,List.length_cons,List.length_nil]; omega
    intro c hc
    rw [IntWalk.i64_in _ (by omega)] at hc
    obtain rfl:c=((k+1:Nat):Int):=by omega
    have he:u8L (34::ZAU (s.data.toList.take (k+1)))=u8L (34::ZAU (s.data.toList.take k))++[[.u8 92]]++[[.u8 s[k]]]:=by rw [hsn,if_pos hq]; simp [u8L]
    refine ⟨g - 1,by omega,k+1,_,by omega,rfl,?_⟩
    rw [he]
    exact .own _ _ _ z0 z1
   ·refine ⟨k,k1,rfl,?_⟩
    refine ZAA (fun h2=>?_) (fun h2=>?_)
    ·have hq:qtI (s[k].toNat:Int)=true:=by unfold qtI; rw [h1,h2]; rfl
     refine Acc2.app (n:=0) (i:=ti5) (es:=(u8L (34::ZAU (s.data.toList.take k)))) hA (Nat.zero_le _) (List.cons_ne_nil _ _) ?_ ?_ (fun t e tk' q0 q1 q2 q3=>?_)
     ·show (List.length _+1)*1<=_; simp only [List.length_append,ZAE,List.length_cons,List.length_nil]; omega
     ·show List.length _+1<=9223372036854775807; simp only [List.length_append,ZAE,List.length_cons,List.length_nil]; omega
     refine ⟨k,k1,rfl,?_⟩
     refine Acc2.app (n:=0) (i:=ti5) (es:=(u8L (34::ZAU (s.data.toList.take k))++[[.u8 92]])) (.own t e _ q0 q1) (Nat.zero_le _) (List.cons_ne_nil _ _) ?_ ?_ (fun t2 e2 tk2 z0 z1 z2 z3=>?_)
     ·show (List.length _+1)*1<=_; simp only [List.length_append,ZAE,List.length_cons,List.length_nil]; omega
     ·show List.length _+1<=9223372036854775807; simp only [List.length_append,ZAE,List.length_cons,List.length_nil]; omega
     intro c hc
     rw [IntWalk.i64_in _ (by omega)] at hc
     obtain rfl:c=((k+1:Nat):Int):=by omega
     have he:u8L (34::ZAU (s.data.toList.take (k+1)))=u8L (34::ZAU (s.data.toList.take k))++[[.u8 92]]++[[.u8 s[k]]]:=by rw [hsn,if_pos hq]; simp [u8L]
     refine ⟨g - 1,by omega,k+1,_,by omega,rfl,?_⟩
     rw [he]
     exact .own _ _ _ z0 z1
    ·have hq:¬ qtI (s[k].toNat:Int)=true:=by unfold qtI; rw [h1,h2]; decide
     refine ⟨k,k1,rfl,?_⟩
     refine Acc2.app (n:=0) (i:=ti5) (es:=(u8L (34::ZAU (s.data.toList.take k)))) hA (Nat.zero_le _) (List.cons_ne_nil _ _) ?_ ?_ (fun t e tk' q0 q1 q2 q3=>?_)
     ·show (List.length _+1)*1<=_; simp only [List.length_append,ZAE,List.length_cons,List.length_nil]; omega
     ·show List.length _+1<=9223372036854775807; simp only [List.length_append,ZAE,List.length_cons,List.length_nil]; omega
     intro c hc
     rw [IntWalk.i64_in _ (by omega)] at hc
     obtain rfl:c=((k+1:Nat):Int):=by omega
     have he:u8L (34::ZAU (s.data.toList.take (k+1)))=u8L (34::ZAU (s.data.toList.take k))++[[.u8 s[k]]]:=by rw [hsn,if_neg hq]; simp [u8L]
     refine ⟨g - 1,by omega,k+1,_,by omega,rfl,?_⟩
     rw [he]
     exact .own _ _ _ q0 q1
  ·have hd:=of_decide_eq_false hd
   obtain rfl:k=s.size:=by omega
   refine Acc2.app (n:=0) (i:=ti5) (es:=(u8L (34::ZAU (s.data.toList.take s.size)))) hA (Nat.zero_le _) (List.cons_ne_nil _ _) ?_ ?_ (fun t e tk' q0 q1 q2 q3=>?_)
   ·show (List.length _+1)*1<=_; simp only [List.length_append,ZAE,List.length_cons,List.length_nil]; omega
   ·show List.length _+1<=9223372036854775807; simp only [List.length_append,ZAE,List.length_cons,List.length_nil]; omega
   refine ⟨ZBi s,?_,rfl⟩
   rw [ZBW,List.take_of_length_le (by rw [blen]; exact Nat.le_refl _)]
   simp [u8L]
theorem ZMr (s:ByteArray) (hs:s.size<=1099511627776):ZAC Tryz.prog 64 [.s s] (.tup [.s (ZA1 s).1,.i (ZA1 s).2]) []:=by
 have hmx:maxLen=9223372036854775807:=rfl
 refine ZAC.of rfl (ZAB.of_vc T_ok mixed Tryz.func64 rfl Tryz.call64 ?_)
 refine ZAF [4,5] (fun g vals st'=>∃ k:Nat,k+g=s.size/\vals=[.s ⟨(34::ZAU (s.data.toList.take k)).toArray⟩,.i k]/\∀ j (hj:j<s.size),j<k->valI (s[j].toNat:Int)=true) s.size rfl ⟨0,by omega,rfl,fun j _ h=>absurd h (by omega)⟩ ?_
 rintro g vals st1 ⟨k,hk,rfl,ha⟩
 have hql:=ZCg (s.data.toList.take k)
 have hlk:(s.data.toList.take k).length<=k:=by rw [List.length_take]; omega
 have hsz:(⟨(34::ZAU (s.data.toList.take k)).toArray⟩:ByteArray).size<=2*k+1:=by
  show (List.toArray _).size<=_
  rw [List.size_toArray,List.length_cons]
  omega
 refine ZAA (fun hd=>?_) (fun hd=>?_)
 ·have hd:=of_decide_eq_true hd
  have k1:k<s.size:=by omega
  refine ⟨k,k1,rfl,?_⟩
  refine .p rfl (ZFg _ (by omega) (by have:=s[k].toNat_lt; omega)) ?_
  refine ZAA (fun hv=>?_) (fun hv=>?_)
  ·rw [Bool.not_eq_true'] at hv
   have e:ZA1 s=(⟨#[]⟩,2):=by unfold ZA1; rw [ZB4 k1 hv]; rfl
   rw [e]
   rfl
  rw [Bool.not_eq_false'] at hv
  have ha2:∀ j (hj:j<s.size),j<k+1->valI (s[j].toNat:Int)=true:=fun j hj hjk=>by
   by_cases e:j=k
   ·subst e; exact hv
   ·exact ha j hj (by omega)
  have hsn:ZAU (s.data.toList.take (k+1))=ZAU (s.data.toList.take k)++(if qtI (s[k].toNat:Int)=true then [92,s[k]] else [s[k]]):=by
   rw [List.take_add_one,List.getElem?_eq_getElem (by rw [blen]; exact k1),Option.toList_some,ZEy,bget s k k1]
  refine ⟨k,k1,rfl,?_⟩
  refine ZAA (fun h1=>?_) (fun h1=>?_)
  ·have hq:qtI (s[k].toNat:Int)=true:=by unfold qtI; rw [h1]; rfl
   refine ⟨by show _+1<=_; omega,?_⟩
   intro c hc
   rw [IntWalk.i64_in _ (by omega)] at hc
   obtain rfl:c=((k+1:Nat):Int):=by omega
   refine ⟨_,rfl,_,rfl,by omega,by omega,?_⟩
   refine ⟨by rw [ZAD,ext1 s k k1]; show _+1+1<=_; omega,?_⟩
   intro c hc
   rw [IntWalk.i64_in _ (by omega)] at hc
   obtain rfl:c=((k+1:Nat):Int):=by omega
   refine ⟨g - 1,by omega,k+1,by omega,?_,ha2⟩
   refine congrArg (fun x=>[AV.s x,AV.i ((k+1:Nat):Int)]) (inL ?_)
   rw [ZAp,ZAp,ext1 s k k1]
   show _=(List.toArray _).toList
   rw [List.toList_toArray,hsn,if_pos hq]
   show (List.toArray _).toList++[92]++[s[k]]=_
   rw [List.toList_toArray]
   simp
  ·refine ⟨k,k1,rfl,?_⟩
   refine ZAA (fun h2=>?_) (fun h2=>?_)
   ·have hq:qtI (s[k].toNat:Int)=true:=by unfold qtI; rw [h1,h2]; rfl
    refine ⟨by show _+1<=_; omega,?_⟩
    intro c hc
    rw [IntWalk.i64_in _ (by omega)] at hc
    obtain rfl:c=((k+1:Nat):Int):=by omega
    refine ⟨_,rfl,_,rfl,by omega,by omega,?_⟩
    refine ⟨by rw [ZAD,ext1 s k k1]; show _+1+1<=_; omega,?_⟩
    intro c hc
    rw [IntWalk.i64_in _ (by omega)] at hc
    obtain rfl:c=((k+1:Nat):Int):=by omega
    refine ⟨g - 1,by omega,k+1,by omega,?_,ha2⟩
    refine congrArg (fun x=>[AV.s x,AV.i ((k+1:Nat):Int)]) (inL ?_)
    rw [ZAp,ZAp,ext1 s k k1]
    show _=(List.toArray _).toList
    rw [List.toList_toArray,hsn,if_pos hq]
    show (List.toArray _).toList++[92]++[s[k]]=_
    rw [List.toList_toArray]
    simp
   ·have hq:¬ qtI (s[k].toNat:Int)=true:=by unfold qtI; rw [h1,h2]; decide
    intro c hc
    rw [IntWalk.i64_in _ (by omega)] at hc
    obtain rfl:c=((k+1:Nat):Int):=by omega
    refine ⟨_,rfl,_,rfl,by omega,by omega,?_⟩
    refine ⟨by rw [ext1 s k k1]; show _+1<=_; omega,?_⟩
    intro c hc
    rw [IntWalk.i64_in _ (by omega)] at hc
    obtain rfl:c=((k+1:Nat):Int):=by omega
    refine ⟨g - 1,by omega,k+1,by omega,?_,ha2⟩
    refine congrArg (fun x=>[AV.s x,AV.i ((k+1:Nat):Int)]) (inL ?_)
    rw [ZAp,ext1 s k k1]
    show _=(List.toArray _).toList
    rw [List.toList_toArray,hsn,if_neg hq]
    show (List.toArray _).toList++[s[k]]=_
    rw [List.toList_toArray]
    rfl
 ·have hd:=of_decide_eq_false hd
  obtain rfl:k=s.size:=by omega
  have e:ZA1 s=(ZBi s,0):=by unfold ZA1; rw [if_pos (ZB1 fun j hj=>ha j hj hj)]
  rw [e]
  refine ⟨by show _+1<=_; omega,?_⟩
  refine congrArg (fun x=>AV.tup [AV.s x,AV.i 0]) (inL ?_)
  rw [ZAp,ZBW,List.take_of_length_le (by rw [blen]; exact Nat.le_refl _)]
  show (List.toArray _).toList++[34]=_
  rw [List.toList_toArray]
  rfl
end Go.Proofs.YticbonkojpabnaaGreatDoor
