/-
  The evaluator, laid for the kernel: it says what the evaluator says.
-/
import Derived.Test.YtfpmanknbjakfaaGreatDoorSkMb
import Derived.ChangeSlices
import Derived.WideShapes
set_option linter.unusedSimpArgs false
set_option linter.unusedVariables false
namespace Go.Sk
theorem OZ{α:Type}:∀(p:Id) (t:gD α),U9 p t=t.get p
 | .h,t=>by cases t<;>rfl
 | .o p,t=>by
  show U9 p (YG t)=_
  rw[OZ p]
  cases t with
  |e=>cases p<;>rfl
  |n l v r=>rfl
 | .i p,t=>by
  show U9 p (XU t)=_
  rw[OZ p]
  cases t with
  |e=>cases p<;>rfl
  |n l v r=>rfl
theorem Mv{α:Type}:∀(p:Id) (t:gD α) (a:α),Lv p t a=gD.set p t a
 | .h,t,a=>by cases t<;>rfl
 | .o p,t,a=>by
  show gD.n (Lv p (YG t) a) (OO t) (XU t)=_
  rw[Mv p]
  cases t<;>rfl
 | .i p,t,a=>by
  show gD.n (YG t) (OO t) (Lv p (XU t) a)=_
  rw[Mv p]
  cases t<;>rfl
theorem UR:∀n,(lg n).nat=n+1
 |0=>rfl
 |n+1=>by
  show(lg n).succ.nat=_
  rw[Id.eB,UR n]
theorem Zd{i j:Nat}(h:lg i=lg j):i=j:=by
 have:=congrArg Id.nat h
 rw[UR,UR]at this;omega
theorem Zm(n:Nat)(T:gD AV)(t:Nat):gT n T t=if t<n then(T.get (lg t)).getD Ak else Ak:=by
 unfold gT
 rw[OZ]
 by_cases h:t<n
 ·rw[if_pos h]
  have:Nat.blt t n=true:=by simpa[ak2]using h
  rw[this]
  cases T.get (lg t)<;>rfl
 ·rw[if_neg h]
  have:Nat.blt t n=false:=by
   cases e:Nat.blt t n with
   |false=>rfl
   |true=>exact absurd (by simpa[ak2]using e) h
  rw[this];rfl
theorem Ew(n:Nat)(T:gD AV):(ig n T).length=n:=by simp[ig]
theorem L6{n:Nat}{T:gD AV}{t:Nat}(h:t<n):(ig n T)[t]?=some (gT n T t):=by simp[ig,h]
theorem Q8(n:Nat)(T:gD AV)(t:Nat):(ig n T).getD t Ak=gT n T t:=by
 by_cases h:t<n
 ·rw[aal,L6 h];rfl
 ·rw[aal,aco (by rw[Ew];omega),Zm,if_neg h];rfl
theorem Rh(n:Nat)(T:gD AV)(d:Option Tmp)(v:AV):IG (ig n T) d v=ig n (pT n T d v):=by
 cases d with
 |none=>rfl
 |some d=>
  show(ig n T).set d v=ig n (bs (Nat.blt d n) (Lv (lg d) T v) T)
  by_cases h:d<n
  ·have e:Nat.blt d n=true:=by simpa[ak2]using h
   rw[e]
   apply ajY
   intro t
   rcases ajO t n with ht|ht
   ·rw[L6 ht,aj1,Ew,L6 ht,Zm,Zm,if_pos ht,if_pos ht]
    show _=some (((Lv (lg d) T v).get (lg t)).getD Ak)
    rw[Mv,gD.ak]
    by_cases hdt:d=t
    ·subst hdt;simp[h]
    ·rw[if_neg hdt,if_neg (fun e=>hdt (Zd e).symm)]
   ·rw[aco (by rw[List.length_set,Ew];exact ht),aco (by rw[Ew];exact ht)]
  ·have e:Nat.blt d n=false:=by
    cases e:Nat.blt d n with
    |false=>rfl
    |true=>exact absurd (by simpa[ak2]using e) h
   rw[e]
   exact List.set_eq_of_length_le (by rw[Ew];exact Nat.not_lt.1 h)
theorem P6:∀(l:List AV) (i:Nat) (T:gD AV) (t:Nat),((QG l i T).get (lg t))=if i<=t/\t<i+l.length then l[t - i]? else T.get (lg t)
 |[],i,T,t=>by
  show T.get (lg t)=_
  rw[if_neg (by simp)]
 |v::l,i,T,t=>by
  show(QG l (i+1) (Lv (lg i) T v)).get (lg t)=_
  rw[P6 l,Mv,gD.ak]
  by_cases h:i+1<=t/\t<i+1+l.length
  ·rw[if_pos h,if_pos (by simp;omega)]
   rw[show t - i=(t - (i+1))+1 by omega];simp
  ·rw[if_neg h]
   by_cases ht:t=i
   ·subst ht;simp
   ·rw[if_neg (fun e=>ht (Zd e)),if_neg (by simp;omega)]
theorem Qf(l:List AV)(k:Nat):ig (l.length+k) (rC l)=l++List.replicate k Ak:=by
 apply ajY
 intro t
 rcases ajO t (l.length+k)with ht|ht
 ·rw[L6 ht,Zm,if_pos ht]
  show some (((QG l 0 .e).get (lg t)).getD Ak)=_
  rw[P6]
  by_cases h:t<l.length
  ·rw[if_pos (by omega),ajt h];simp[h]
  ·rw[if_neg (by omega),adI (by omega)]
   have:(gD.e:gD AV).get (lg t)=none:=by cases lg t<;>rfl
   rw[this]
   have h2:t - l.length<k:=by omega
   simp[h2]
 ·rw[aco (by rw[Ew];exact ht),aco (by simp;exact ht)]
theorem YX{l:List AV}{n:Nat}(h:l.length=n):ig n (rC l)=l:=by
 have:=Qf l 0
 simpa[h]using this
section
variable{n:Nat}{T:gD AV}
theorem Sy(o:Operand):Ay (ig n T) o=gA n T o:=by
 cases o with
 |tmp t=>show some ((ig n T).getD t Ak)=some (gT n T t);rw[Q8]
 |const v=>rfl
 |global g=>rfl
 |func f=>rfl
theorem UJ:∀l,Dh (ig n T) l=uP n T l
 |[]=>rfl
 |o::r=>by
  show(match Ay (ig n T) o,Dh (ig n T) r with|some v,some l=>some (v::l)|_,_=>none)=(match gA n T o,uP n T r with|some v,some l=>some (v::l)|_,_=>none)
  rw[Sy,UJ r]
theorem PV:∀l,Dc (ig n T) l=Rj n T l
 |[]=>rfl
 |(i,o)::r=>by
  show(match Ay (ig n T) o,Dc (ig n T) r with|some v,some l=>some ((i,v)::l)|_,_=>none)=(match gA n T o,Rj n T r with|some v,some l=>some ((i,v)::l)|_,_=>none)
  rw[Sy,PV r]
theorem adA(x:Option Operand):DZ (ig n T) x=zo n T x:=by
 cases x with
 |none=>rfl
 |some o=>show(Ay (ig n T) o).map some=(gA n T o).map some;rw[Sy]
theorem Rv{X:Cx}{fn:FuncId}{o:Oper}{h:AH}:Ci X fn (ig n T) o h=Sc o.op X.P (o.dst.any (X.mu fn)) X.call n T h:=by
 unfold Ci
 cases e:o.op<;>simp only[Sy,UJ,PV,adA]<;>first|rfl|skip
 case makeFunc f a b=>cases f<;>rfl
 case call c=>
  show I6 X (o.dst.any (X.mu fn)) (ig n T) c h=abZ c X.P (o.dst.any (X.mu fn)) X.call n T h
  unfold I6 abZ
  rw[UJ]
  cases uP n T c.args.toList with
  |none=>rfl
  |some args=>
   simp only
   cases c.callee with
   |value f=>simp only;rw[Sy];rfl
   |invoke r m=>rfl
   |builtin b=>rfl
theorem Xl(ops:Array Oper)(j:Nat):JE ops (ig n T) j=Rs ops n T j:=by
 unfold JE Rs
 cases(ops[j]?).bind (·.dst)with
 |none=>rfl
 |some d=>
  simp only
  by_cases h:d<n
  ·have e:Nat.blt d n=true:=by simpa[ak2]using h
   rw[L6 h,e]
   simp only[Vy]
   cases gT n T d<;>rfl
  ·have e:Nat.blt d n=false:=by
    cases e:Nat.blt d n with
    |false=>rfl
    |true=>exact absurd (by simpa[ak2]using e) h
   rw[aco (by rw[Ew];exact Nat.not_lt.1 h),e];rfl
theorem M9(ops:Array Oper)(o:Oper):BS ops (ig n T) o=Jq ops n T o:=by
 unfold BS Jq
 cases o.guard with
 |none=>rfl
 |some p=>obtain⟨j,w⟩:=p;simp only[Xl]
theorem adb(P:Program)(o:Oper)(r:Id):newAt P (ig n T) o r=newF P n T o r:=by
 unfold newAt newF
 cases o.op<;>simp only[Sy,PV]<;>rfl
end
noncomputable def toA(n:Nat)(r:uQ):Option (Bo × fO):=r.map fun x=>(x.1,⟨ig n x.2.T,x.2.df,x.2.h⟩)
structure Ri (P:Program) (X:Cx) (fn:FuncId) (c:FC):Prop where
 P:X.P=P
 mu:X.mu fn=c.mu
 call:X.call=c.call
 fn:c.fn=fn
section
variable{P:Program}{X:Cx}{fn:FuncId}{c:FC}
theorem UU(hc:Ri P X fn c){ops:Array Oper}:∀(l:List Oper) (T:gD AV) (df:List Id) (h:AH),Ic X fn ops l ⟨ig c.n T,df,h⟩=toA c.n (zq l ops P c T df h)
 |[],T,df,h=>rfl
 |o::r,T,df,h=>by
  show _=toA c.n (R6 o (zq r) ops P c T df h)
  unfold Ic R6
  simp only[M9,Rv,hc.P,hc.mu,hc.call]
  cases Jq ops c.n T o with
  |false=>simp only[WH,ajB,if_false,Rh];exact UU hc r _ _ _
  |true=>
   simp only[Vy,if_true]
   cases Sc o.op P (o.dst.any c.mu) c.call c.n T h with
   |none=>rfl
   |some x=>
    obtain⟨x,h'⟩:=x
    cases x with
    |ret v=>simp only[Rh];exact UU hc r _ _ _
    |iY v=>rfl
noncomputable def sJ(n:Nat)(st:FD):jP:=⟨ig n st.T,st.h,st.E,st.A⟩
theorem QL(hc:Ri P X fn c){ops:Array Oper}:∀(l:List Nat) (T:gD AV) (h:AH) (E:List Dk) (A:List GL),jC X fn ops l ⟨ig c.n T,h,E,A⟩=(zu l ops P c T h E A).map (sJ c.n)
 |[],T,h,E,A=>rfl
 |j::r,T,h,E,A=>by
  show _=(SB j (zu r) ops P c T h E A).map (sJ c.n)
  unfold jC SB
  cases ho:ops[j]? with
  |none=>rfl
  |some o=>
   simp only
   unfold Gs
   simp only[M9,Rv,hc.P,hc.mu,hc.call,adb]
   cases Jq ops c.n T o with
   |false=>
    simp only[WH,ajB,if_false]
    cases Bd P (o.dst.any c.mu) o.op<;>simp only[aaX,OG,Zn,Rh]<;>exact QL hc r _ _ _ _
   |true=>
    simp only[Vy,if_true]
    cases Bd P (o.dst.any c.mu) o.op<;>simp only[adZ,Vi,acB,abt]
    case new=>
     cases newF P c.n T o h.next with
     |none=>rfl
     |some x=>obtain⟨v,ob⟩:=x;simp only[Rh];exact QL hc r _ _ _ _
    all_goals
     cases Sc o.op P (o.dst.any c.mu) c.call c.n T h with
     |none=>rfl
     |some x=>
      obtain⟨x,h'⟩:=x
      cases x with
      |ret v=>simp only[Rh];exact QL hc r _ _ _ _
      |iY v=>rfl
theorem Yb{n:Nat}{T:gD AV}(d:Option Tmp)(v:AV):KY (ig n T) d v=UM n T d v:=by
 unfold KY UM
 cases d with
 |none=>rfl
 |some d=>
  simp only
  by_cases h:d<n
  ·have e:Nat.blt d n=true:=by simpa[ak2]using h
   rw[L6 h,e];rfl
  ·have e:Nat.blt d n=false:=by
    cases e:Nat.blt d n with
    |false=>rfl
    |true=>exact absurd (by simpa[ak2]using e) h
   rw[aco (by rw[Ew];exact Nat.not_lt.1 h),e];rfl
theorem VN(hc:Ri P X fn c){ops:Array Oper}{T:List Nat}{st:FD}{j:Nat}{o:Oper}:GU X fn ops T (sJ c.n st) j o=RL P c ops T st j o:=by
 unfold GU RL
 simp only[sJ,M9,Rv,hc.P,hc.mu,hc.call,Yb]
 cases Jq ops c.n st.T o<;>rfl
theorem OI(hc:Ri P X fn c){ops:Array Oper}{T:List Nat}{st:FD}:∀l,Gf X fn ops T (sJ c.n st) l=Iz P c ops T st l
 |[]=>rfl
 |j::r=>by
  unfold Gf Iz
  rw[OI hc r]
  cases ops[j]? with
  |none=>rfl
  |some o=>simp only[VN hc]
theorem ZV(hc:Ri P X fn c){ops:Array Oper}{T:gD AV}{df:List Id}{h:AH}:drawn X fn ops ⟨ig c.n T,df,h⟩=toA c.n (UC ops P c T df h):=by
 unfold drawn UC
 simp only[hc.P,hc.mu]
 cases Gc P c.mu ops with
 |none=>rfl
 |some pl=>
  simp only[QL hc]
  cases zu pl.ord ops P c T h [] []with
  |none=>rfl
  |some st=>
   simp only[ajF,OI hc]
   have e:(sJ c.n st).A.all (PY pl.T (sJ c.n st))=st.A.all (QJ pl.T st):=rfl
   rw[e]
   show(if(st.E.isEmpty&&st.A.isEmpty||(Iz P c ops pl.T st pl.ord&&st.A.all (QJ pl.T st)&&GV st.A))=true then _ else _)=_
   cases(st.E.isEmpty&&st.A.isEmpty||(Iz P c ops pl.T st pl.ord&&st.A.all (QJ pl.T st)&&GV st.A))<;>rfl
theorem Rk{rd:Option Id}{f:Operand}{ps:Array Tmp}{assign body:Code}{s:fO}{r:Bo × fO}(h:BX X fn rd f ps assign body s=some r):r.2.tm=s.tm:=by
 have hent:∀l s1,Gy fn rd ps assign body s=some (l,s1)->s1.tm=s.tm:=fun l s1 he=>by
  unfold Gy at he
  split at he
  ·split at he
   ·simp only[aac,aaW]at he;obtain⟨_,rfl⟩:=he;rfl
   ·cases he
  ·simp only[aac,aaW]at he;obtain⟨_,rfl⟩:=he;rfl
 have hlv:∀l s1 r,Cm l s1=some r->r.2.tm=s1.tm:=fun l s1 r he=>by
  unfold Cm at he
  repeat' split at he
  all_goals first
   |(cases he;done)
   |(simp only[aac]at he;subst he;rfl)
 unfold BX at h
 split at h
 ·cases h
 ·rename_i l s1 he
  split at h
  ·split at h
   ·rw[hlv _ _ _ h,hent _ _ he]
   ·simp only[aac]at h;subst h;exact(hent l s1 he :)
   ·cases h
  ·cases h
theorem ZH(hc:Ri P X fn c){f:Operand}{ps:Array Tmp}{assign body:Code}{T:gD AV}{df:List Id}{h:AH} :
  BX X fn c.rd f ps assign body ⟨ig c.n T,df,h⟩=toA c.n (XW f ps assign body P c T df h):=by
 have e:BX ⟨P,fun _=>c.mu,c.call⟩ c.fn c.rd f ps assign body ⟨ig c.n T,df,h⟩=BX X fn c.rd f ps assign body ⟨ig c.n T,df,h⟩:=by
  unfold BX
  rw[hc.fn]
  simp only[hc.call]
 unfold XW
 rw[e]
 cases hr:BX X fn c.rd f ps assign body ⟨ig c.n T,df,h⟩with
 |none=>rfl
 |some r=>
  obtain⟨x,s⟩:=r
  have:=Rk hr
  simp only at this
  simp only[toA,ajF]
  rw[YX (by rw[this,Ew])]
theorem RF(hc:Ri P X fn c):∀(k:Code) (T:gD AV) (df:List Id) (h:AH),AB X (fun _ ops s=>drawn X fn ops s) fn c.rd c.m k ⟨ig c.n T,df,h⟩=toA c.n (Gx k P c T df h):=by
 intro k
 induction k with
 |skip=>intro T df h;rfl
 |label l=>intro T df h;rfl
 |region id ops draw=>
  intro T df h
  show(if draw then drawn X fn ops _ else Ic X fn ops ops.toList _)=toA c.n (bs draw (UC ops P c T df h) (zq ops.toList ops P c T df h))
  cases draw with
  |true=>exact ZV hc
  |false=>exact UU hc _ _ _ _
 |seq a b iha ihb=>
  intro T df h
  show Xr (AB X _ fn c.rd c.m a ⟨ig c.n T,df,h⟩) _=toA c.n (aeX (Gx a) (Gx b) P c T df h)
  rw[iha]
  unfold aeX
  cases Gx a P c T df h with
  |none=>rfl
  |some r=>
   obtain⟨x,T',nI,h'⟩:=r
   cases x<;>first|exact ihb T' nI h'|rfl
 |cond o t e vR vS=>
  intro T df h
  show(match Ay (ig c.n T) o with|some (.bool true)=>_|some (.bool false)=>_|_=>none)=toA c.n (abD o (Gx t) (Gx e) P c T df h)
  unfold abD
  rw[Sy]
  cases gA c.n T o with
  |none=>rfl
  |some v=>
   cases v<;>first|rfl|skip
   rename_i b
   cases b with
   |true=>exact vR T df h
   |false=>exact vS T df h
 |block id b ih=>
  intro T df h
  show outBlock id (AB X _ fn c.rd c.m b ⟨ig c.n T,df,h⟩)=toA c.n (Yo id (Gx b) P c T df h)
  rw[ih]
  unfold Yo
  cases Gx b P c T df h with
  |none=>rfl
  |some r=>
   obtain⟨x,T',nI,h'⟩:=r
   cases x<;>first|rfl|skip
   rename_i i
   show(if i=id then _ else _)=_
   simp only
   by_cases hi:i=id
   ·rw[if_pos hi]
    have:Nat.beq i id=true:=by rw[hi];exact Nat.beq_refl id
    rw[this];rfl
   ·rw[if_neg hi]
    have:Nat.beq i id=false:=by
     cases e:Nat.beq i id with
     |false=>rfl
     |true=>exact absurd (ajW e) hi
    rw[this];rfl
 |loop b ih=>
  intro T df h
  show iter (AB X _ fn c.rd c.m b) c.m ⟨ig c.n T,df,h⟩=toA c.n (Y3 (Gx b) c.m P c T df h)
  have key:∀m T df h,iter (AB X (fun _ ops s=>drawn X fn ops s) fn c.rd c.m b) m ⟨ig c.n T,df,h⟩=toA c.n (Y3 (Gx b) m P c T df h):=by
   intro m
   induction m with
   |zero=>intro T df h;rfl
   |succ m im=>
    intro T df h
    show(match AB X _ fn c.rd c.m b ⟨ig c.n T,df,h⟩with|some (.normal,s')=>iter _ m s'|r=>r)=toA c.n (match Gx b P c T df h with|some (.normal,⟨T',nI,h'⟩)=>Y3 (Gx b) m P c T' nI h'|r=>r)
    rw[ih]
    cases Gx b P c T df h with
    |none=>rfl
    |some r=>
     obtain⟨x,T',nI,h'⟩:=r
     cases x<;>first|exact im T' nI h'|rfl
  exact key c.m T df h
 |scope b ih=>intro T df h;exact ih T df h
 |exit id=>intro T df h;rfl
 |ret=>intro T df h;rfl
 |rangeFunc f ps a b _ _=>intro T df h;exact ZH hc
 |goto l=>intro T df h;rfl
 |refuse w=>intro T df h;rfl
theorem ac4{n:Nat}{T:gD AV}{h:AH}(r:ResultVar):GX P (ig n T) h r=aek P n T h r:=by
 cases r with
 |tmp t=>show some ((ig n T).getD t Ak)=some (gT n T t);rw[Q8]
 |cell a t=>show Av P t ((ig n T).getD a Ak) h=Av P t (gT n T a) h;rw[Q8]
theorem RV{n:Nat}{T:gD AV}{h:AH}:∀l,Ch P (ig n T) h l=V5 P n T h l
 |[]=>rfl
 |r::rs=>by
  show(match GX P (ig n T) h r,Ch P (ig n T) h rs with|some v,some l=>some (v::l)|_,_=>none)=(match aek P n T h r,V5 P n T h rs with|some v,some l=>some (v::l)|_,_=>none)
  rw[ac4,RV rs]
theorem aav{fn:Func}{n:Nat}{r:uQ}:Eo P fn (toA n r)=acR P fn n r:=by
 cases r with
 |none=>rfl
 |some r=>
  obtain⟨x,T,df,h⟩:=r
  cases x with
  |exit i=>rfl
  |iY v=>rfl
  |normal=>
   show(match CJ df h with|some h=>(match Ch P (ig n T) h fn.results.toList with|some l=>some (Ar.ret (Ep l),h)|none=>none)|none=>none)=(match CJ df h with|some h=>(match V5 P n T h fn.results.toList with|some l=>some (Ar.ret (Ep l),h)|none=>none)|none=>none)
   cases CJ df h with
   |none=>rfl
   |some h'=>simp only[RV]
  |ret=>
   show(match CJ df h with|some h=>(match Ch P (ig n T) h fn.results.toList with|some l=>some (Ar.ret (Ep l),h)|none=>none)|none=>none)=(match CJ df h with|some h=>(match V5 P n T h fn.results.toList with|some l=>some (Ar.ret (Ep l),h)|none=>none)|none=>none)
   cases CJ df h with
   |none=>rfl
   |some h'=>simp only[RV]
end
theorem Ls:∀(ps:List Tmp) (args tm:List AV),(BO tm ps args).length=tm.length
 |[],_,_=>by simp[BO]
 |_::_,[],_=>by simp[BO]
 |p::ps,v::args,tm=>by simp only[BO];rw[Ls ps args];simp
theorem Px(P:Program)(mu:FuncId->Nat->Bool)(hk:Am):∀n fn args h,Af (Aj P mu hk) n fn args h=HY P mu hk n fn args h:=by
 intro n
 induction n with
 |zero=>intro fn args h;rfl
 |succ n ih=>
  intro fn args h
  have hcall:Af (Aj P mu hk) n=HY P mu hk n:=by funext f a k;exact ih f a k
  cases fn with
  |func f=>
   show(match hk f args h with
    |some r=>some (Ar.ret r.1,r.2)
    |none=>match P.funcs[f]? with
     |none=>none
     |some fn=>match fn.body with
      |none=>none
      |some c=>Eo P fn (AB ⟨P,mu,Af (Aj P mu hk) n⟩ (fun _ ops s=>drawn ⟨P,mu,Af (Aj P mu hk) n⟩ f ops s) f none n c ⟨args++List.replicate (fn.ntmps - args.length) Ak,[],h⟩))=RJ P mu hk n (HY P mu hk n) f args h
   unfold RJ
   cases hk f args h with
   |some r=>rfl
   |none=>
   simp only
   cases hf:P.funcs[f]? with
   |none=>rfl
   |some fn=>
    simp only
    cases hb:fn.body with
    |none=>rfl
    |some c=>
     simp only
     rw[<-Qf]
     have:=RF (P:=P) (X:=⟨P,mu,Af (Aj P mu hk) n⟩) (fn:=f) (c:=⟨mu f,f,none,HY P mu hk n,args.length+(fn.ntmps - args.length),n⟩) ⟨rfl,rfl,hcall,rfl⟩ c (rC args) [] h
     rw[<-aav,<-this]
  |yield l=>
   show(match h.get l with|some (.loop _ _ fn tm ps assign body _)=>_|_=>none)=Py P mu n (HY P mu hk n) l args h
   unfold Py
   cases hg:h.get l with
   |none=>rfl
   |some ob=>
    cases ob<;>first|rfl|skip
    rename_i st pd fn tm ps assign body d
    simp only
    by_cases hl:args.length≠ps.size
    ·rw[if_pos hl,if_pos hl]
    ·rw[if_neg hl,if_neg hl]
     have e1:=RF (P:=P) (X:=⟨P,mu,Af (Aj P mu hk) n⟩) (fn:=fn) (c:=⟨mu fn,fn,some l,HY P mu hk n,tm.length,n⟩) ⟨rfl,rfl,hcall,rfl⟩ assign (rC (BO tm ps.toList args)) [] h
     simp only at e1
     rw[YX (Ls _ _ _)]at e1
     show(match AB _ _ fn (some l) n assign _ with|some (.normal,s)=>_|_=>none)=_
     have vT:AB ⟨(Aj P mu hk).P,(Aj P mu hk).mu,Af (Aj P mu hk) n⟩ ((Aj P mu hk).dw ⟨(Aj P mu hk).P,(Aj P mu hk).mu,Af (Aj P mu hk) n⟩ fn) fn (some l) n assign ⟨BO tm ps.toList args,[],h⟩=_:=e1
     rw[vT]
     cases Gx assign P ⟨mu fn,fn,some l,HY P mu hk n,tm.length,n⟩ (rC (BO tm ps.toList args)) [] h with
     |none=>rfl
     |some r=>
      obtain⟨x,T,df,h1⟩:=r
      cases x<;>first|rfl|skip
      show(match Du l _ h1 with|some h2=>_|none=>none)=_
      simp only
      cases Du l (fun st pd=>match st with| .ready=>some (.busy,pd)|_=>none) h1 with
      |none=>rfl
      |some h2=>
       simp only
       have e2:=RF (P:=P) (X:=⟨P,mu,Af (Aj P mu hk) n⟩) (fn:=fn) (c:=⟨mu fn,fn,some l,HY P mu hk n,tm.length,n⟩) ⟨rfl,rfl,hcall,rfl⟩ body T [] h2
       have e2':AB ⟨(Aj P mu hk).P,(Aj P mu hk).mu,Af (Aj P mu hk) n⟩ ((Aj P mu hk).dw ⟨(Aj P mu hk).P,(Aj P mu hk).mu,Af (Aj P mu hk) n⟩ fn) fn (some l) n body ⟨ig tm.length T,[],h2⟩=_:=e2
       show(if df.isEmpty then Ei l (AB _ _ fn (some l) n body ⟨ig tm.length T,[],h2⟩)else none)=_
       rw[e2']
       cases df.isEmpty with
       |false=>rfl
       |true=>
        simp only[if_true]
        cases Gx body P ⟨mu fn,fn,some l,HY P mu hk n,tm.length,n⟩ T [] h2 with
        |none=>rfl
        |some r=>obtain⟨x,T',nI,h3⟩:=r;rfl
end Go.Sk
namespace Go.Sk
mutual
def EZ:AV->Bool
 | .bool _=>true
 | .int _ _=>true
 | .str _=>true
 | .fP=>true
 | .aj=>true
 | .fH=>true
 | .gL=>true
 | .fB=>true
 | .iface _ v=>EZ v
 | .agg cs=>RD cs
 | .eU cs=>RD cs
 |_=>false
def RD:List AV->Bool
 |[]=>true
 |v::l=>EZ v&&RD l
end
theorem Nk:∀{l:List AV},RD l=true->∀i (hi:i<l.length),EZ l[i]=true
 |[],_,i,hi=>by simp at hi
 |v::l,h,i,hi=>by
  simp only[RD,abB]at h
  cases i with
  |zero=>exact h.1
  |succ i=>exact Nk h.2 i (by simpa using hi)
theorem bf.sK{ρ1 ρ2:eF}{v:AV}{c:Value}(h:bf ρ1 v c):EZ v=true->bf ρ2 v c:=by
 induction h with
 |bool b=>intro _;exact .bool b
 |int k n=>intro _;exact .int k n
 |str l=>intro _;exact .str l
 |fP=>intro _;exact .fP
 |ptr r off b h=>intro hp;simp[EZ]at hp
 |ref v b off c hc _ ih=>intro hp;simp[EZ]at hp
 |aj=>intro _;exact .aj
 |eP xs cap b off n s c hs hc _ hn hcap ih=>intro hp;simp[EZ]at hp
 |hsl r off len cap b n h hn hcap=>intro hp;simp[EZ]at hp
 |fH=>intro _;exact .fH
 |map r b h=>intro hp;simp[EZ]at hp
 |fn f g a b ca cb hf h1 _ h2 _ ih1 ih2=>intro hp;simp[EZ]at hp
 |gL=>intro _;exact .gL
 |iface t v cv _ ih=>intro hp;exact .iface t v cv (ih (by simpa[EZ]using hp))
 |fB=>intro _;exact .fB
 |agg cs eG h1 _ ih=>intro hp;exact .agg cs eG h1 fun i hi hj=>ih i hi hj (Nk (by simpa[EZ]using hp) i hi)
 |eU cs eG h1 _ ih=>intro hp;exact .eU cs eG h1 fun i hi hj=>ih i hi hj (Nk (by simpa[EZ]using hp) i hi)
def IC:Cap->Cap
 | .pat k m=> .pat k m
 |_=> .unk
mutual
def AU:AV->AV
 | .eP xs c=> .eP (Cv xs) (IC c)
 | .ref v=> .ref (AU v)
 | .agg cs=> .agg (Cv cs)
 | .eU cs=> .eU (Cv cs)
 | .iface t v=> .iface t (AU v)
 |v=>v
def Cv:List AV->List AV
 |[]=>[]
 |v::l=>AU v::Cv l
end
mutual
def BK:AV->Bool
 | .ptr _ _=>false
 | .hsl _ _ _ _=>false
 | .map _=>false
 | .fn _ _ _=>false
 | .eP xs _=>Bz xs
 | .ref v=>BK v
 | .agg cs=>Bz cs
 | .eU cs=>Bz cs
 | .iface _ v=>BK v
 |_=>true
def Bz:List AV->Bool
 |[]=>true
 |v::l=>BK v&&Bz l
end
theorem Fg:∀{l:List AV},Bz l=true->∀i (hi:i<l.length),BK l[i]=true
 |[],_,i,hi=>by simp at hi
 |v::l,h,i,hi=>by
  simp only[Bz,abB]at h
  cases i with
  |zero=>exact h.1
  |succ i=>exact Fg h.2 i (by simpa using hi)
theorem BF:∀l,(Cv l).length=l.length
 |[]=>rfl
 |v::l=>by simp[Cv,BF l]
theorem EI:∀(l:List AV) i (hi:i<l.length),(Cv l)[i]'(by rw[BF];exact hi)=AU l[i]
 |[],i,hi=>by simp at hi
 |v::l,i,hi=>by
  cases i with
  |zero=>rfl
  |succ i=>exact EI l i (by simpa using hi)
theorem GY(v:AV):(AU v).cells=Cv v.cells:=by
 cases v<;>simp[AU,AV.cells,Cv]
def eF.hide(ρ:eF)(base:Nat):eF:=⟨base,fun _=>none,fun _ _=>none,ρ.fQ,fun _=>none⟩
theorem bf.mM{ρ ρ2:eF}(him:∀b o v,ρ.fQ b o=some v->ρ2.fQ b o=some v){v:AV}{c:Value}(h:bf ρ v c):BK v=true->bf ρ2 (AU v) c:=by
 induction h with
 |bool b=>intro _;exact .bool b
 |int k n=>intro _;exact .int k n
 |str l=>intro _;exact .str l
 |fP=>intro _;exact .fP
 |ptr r off b h=>intro hp;simp[BK]at hp
 |ref v b off c hc _ ih=>
  intro hp
  have hp':BK v=true:=by simpa[BK]using hp
  have hl:(AU v).cells.length=v.cells.length:=by rw[GY,BF]
  refine .ref _ b off c (fun j hj=>him _ _ _ (hc j (by rw[<-hl];exact hj))) (fun j hj=>?_)
  have hj':j<v.cells.length:=by rw[<-hl];exact hj
  have hfc:Bz v.cells=true:=by
   cases v<;>simp_all [AV.cells,BK,Bz]
  have:=ih j hj' (Fg hfc j hj')
  have e:(AU v).cells[j]=AU v.cells[j]:=by
   simp only[GY];exact EI _ _ _
  rw[e];exact this
 |aj=>intro _;exact .aj
 |eP xs cap b off n s c hs hc _ hn hcap ih=>
  intro hp
  have hp':Bz xs=true:=by simpa[BK]using hp
  have hlen:(Cv xs).length=xs.length:=BF xs
  have hck:jF ρ2 (IC cap) b (off+(Cv xs).length*s) s (Cv xs).length n:=by
   rw[hlen]
   cases cap with
   |pat k m=>exact⟨hcap.1,hcap.2.1,fun i j hi hj=>him _ _ _ (hcap.2.2 i j hi hj)⟩
   |_=>trivial
  have key:bf ρ2 (.eP (Cv xs) (IC cap)) (.slice (some ⟨b,off,none⟩) (Cv xs).length n):=by
   refine .eP (Cv xs) (IC cap) b off n s c (fun i hi=>?_) (fun i j hi hj=>him _ _ _ (hc i j (by rw[<-hlen];exact hi) hj)) (fun i hi j hj=>?_) (by rw[hlen];exact hn) hck
   ·have hi':i<xs.length:=by rw[<-hlen];exact hi
    rw[EI xs i hi',GY,BF];exact hs i hi'
   ·have hi':i<xs.length:=by rw[<-hlen];exact hi
    have hx:=EI xs i hi'
    have hj':j<xs[i].cells.length:=by rw[hx,GY,BF]at hj;exact hj
    have hfx:=Fg hp' i hi'
    have hfc:Bz xs[i].cells=true:=by
     generalize xs[i]=u at hfx
     cases u<;>simp_all [AV.cells,BK,Bz]
    have:=ih i hi' j hj' (Fg hfc j hj')
    have e:(Cv xs)[i].cells[j]=AU xs[i].cells[j]:=by
     have:(Cv xs)[i].cells=Cv xs[i].cells:=by rw[hx,GY]
     simp only[this];exact EI _ _ _
    rw[e];exact this
  rw[hlen]at key;exact key
 |hsl r off len cap b n h hn hcap=>intro hp;simp[BK]at hp
 |fH=>intro _;exact .fH
 |map r b h=>intro hp;simp[BK]at hp
 |fn f g a b ca cb hf h1 _ h2 _ ih1 ih2=>intro hp;simp[BK]at hp
 |gL=>intro _;exact .gL
 |iface t v cv _ ih=>intro hp;exact .iface t _ cv (ih (by simpa[BK]using hp))
 |fB=>intro _;exact .fB
 |agg cs eG h1 _ ih=>
  intro hp
  refine .agg _ eG (by rw[BF];exact h1) fun i hi hj=>?_
  have hi':i<cs.length:=by rw[BF]at hi;exact hi
  rw[EI cs i hi']
  exact ih i hi' hj (Fg (by simpa[BK]using hp) i hi')
 |eU cs eG h1 _ ih=>
  intro hp
  refine .eU _ eG (by rw[BF];exact h1) fun i hi hj=>?_
  have hi':i<cs.length:=by rw[BF]at hi;exact hi
  rw[EI cs i hi']
  exact ih i hi' hj (Fg (by simpa[BK]using hp) i hi')
theorem bf.hide{ρ:eF}{b0:Nat}{v:AV}{c:Value}(h:bf ρ v c)(hf:BK v=true):bf (ρ.hide b0) (AU v) c:=bf.mM (ρ:=ρ) (ρ2:=ρ.hide b0) (fun _ _ _ e=>e) h hf
theorem Rel.hide{ρ:eF}{h:AH}{w:World}(hR:Rel ρ h w):Rel (ρ.hide w.heap.size) .empty w where
 obj:=fun r o b h1 _=>by rw[DT]at h1;cases h1
 bound:=fun r b h1=>by cases h1
 inj:=fun r r' b h1=>by cases h1
 dom:=fun r o h1=>by rw[DT]at h1;cases h1
 fD:=fun g e b c h1=>by rw[DT]at h1;cases h1
 gW:=fun g e x h1=>by cases h1
 iL:=fun g e e' x h1=>by rw[DT]at h1;cases h1
 gone:=fun g o e x h1=>by rw[DT]at h1;cases h1
 iR:=fun g g' e e' b c c' h1=>by rw[DT]at h1;cases h1
 fQ:=hR.fQ
 one:=hR.one
 iP:=fun b o v r _ h1=>by cases h1
 iW:=fun b z h1=>by cases h1
 iT:=fun b cs q=>by
  obtain⟨_,T,fr,h1⟩:=hR.iT b cs q
  exact⟨lt_of_block h1,T,fr,h1⟩
theorem WM{E:Ev}(hE:Bh E){n:Nat}{k:FuncId}{args:List AV}{v:AV}{h':AH}(he:Af E n (.func k) (Cv args) .empty=some (.ret v,h')){ρ:eF}{h:AH}{w:World}{eD:List Value}
  (hR:Rel ρ h w) (ha:dz ρ args eD) (hf:Bz args=true) (hv:EZ v=true):QB E.P k/\Calls E.P k eD.toArray w (D6 ρ h w (.ret v) h):=by
 have hl:dz (ρ.hide w.heap.size) (Cv args) eD:=⟨by rw[BF];exact ha.1,fun i hi hj=>by
  have hi':i<args.length:=by rw[BF]at hi;exact hi
  rw[EI args i hi']
  exact(ha.2 i hi' hj).hide (Fg hf i hi')⟩
 obtain⟨hk,hc⟩:=(X8 hE n).func k (Cv args) .empty _ h' he (ρ.hide w.heap.size) w eD hR.hide (ab5 _) hl
 refine⟨hk,hc.mono fun e w' hp=>?_⟩
 cases e with
 |returned cv=>
  obtain⟨av,ρ',h1,h2,h3,h4⟩:=hp
  simp only[Ar.ret.injEq]at h1;subst h1
  have hg:iM w w':=⟨h4.os,h4.tape,h4.output,h4.size,fun k hk=>h4.kept k hk (fun ho=>by have:=ho.base hR.hide;have e:(ρ.hide w.heap.size).base=w.heap.size:=rfl;omega)⟩
  exact⟨v,ρ,rfl,h2.sK hv,hR.grew hg,Stp.grew hg⟩
 |panicked ch=>obtain⟨av,cv,ρ',h1,_⟩:=hp;cases h1
 |outgrown=>exact hp.elim
def AP(hk:Am)(f:FuncId)(s:List AV->Option AV):Am:=fun g args h=>if g=f then(if Bz args then(match s (Cv args)with|some v=>some (v,h)|none=>none)else none)else hk g args h
theorem RO(hk:Am)(f:FuncId)(s:List AV->Option AV){args:List AV}{h:AH}(hf:Bz args=true):AP hk f s f args h=(match s (Cv args)with|some v=>some (v,h)|none=>none):=by simp[AP,hf]
theorem Jm(hk:Am){f g:FuncId}(s:List AV->Option AV)(args:List AV)(ah:AH)(h:g≠f):AP hk f s g args ah=hk g args ah:=by simp[AP,h]
theorem LX{hk:Am}{f:FuncId}{s:List AV->Option AV}{args:List AV}{h h':AH}{v:AV}(he:AP hk f s f args h=some (v,h')):Bz args=true/\s (Cv args)=some v/\h'=h:=by
 cases e:Bz args with
 |false=>simp[AP,e]at he
 |true=>
  rw[RO hk f s e]at he
  cases e2:s (Cv args)with
  |none=>rw[e2]at he;cases he
  |some u=>rw[e2]at he;simp only[aac,aaW]at he;obtain⟨rfl,rfl⟩:=he;exact⟨rfl,rfl,rfl⟩
theorem BP{P:Program}{mu:FuncId->Nat->Bool}{hk:Am}{f:FuncId}{s:List AV->Option AV}(hE:Bh (Aj P mu hk))
  (hs:∀args v,s args=some v->EZ v=true/\∃n h',Af (Aj P mu hk) n (.func f) args .empty=some (.ret v,h')):Bh (Aj P mu (AP hk f s)) where
 hk:=fun g args hh v hh' h ρ w eD hR hb ha=>by
  by_cases hg:g=f
  ·subst hg
   obtain⟨hfr,h',rfl⟩:=LX h
   obtain⟨p2,n,h1,he⟩:=hs _ v h'
   exact WM hE he hR ha hfr p2
  ·have h':hk g args hh=some (v,hh'):=by rw[<-Jm hk s args hh hg];exact h
   exact hE.hk g args hh v hh' h' ρ w eD hR hb ha
 ng:=hE.ng
 dw:=hE.dw
def Gw:List (List AV × AV)->List AV->Option AV
 |[],_=>none
 |(a,v)::r,args=>if AV.jA a args then some v else Gw r args
theorem Uk:∀{l:List (List AV × AV)} {args:List AV} {v:AV},Gw l args=some v->(args,v)∈l
 |[],_,_,h=>by cases h
 |(a,u)::r,args,v,h=>by
  simp only[Gw]at h
  split at h
  ·rename_i hb
   simp only[aac]at h;subst h
   rw[AV.iN hb];simp
  ·exact ajU _ (Uk h)
section
variable{P:Program}{mu:FuncId->Nat->Bool}{hk:Am}
def cx(P:Program)(mu:FuncId->Nat->Bool)(hk:Am)(n:Nat):Cx:=⟨P,mu,Af (Aj P mu hk) n⟩
def rg(P:Program)(mu:FuncId->Nat->Bool)(hk:Am)(n:Nat)(f:FuncId):Nat->Array Oper->fO->Option (Bo × fO):=fun _ ops s=>drawn (cx P mu hk n) f ops s
theorem CU{n:Nat}{f:FuncId}{args:List AV}{h h':AH}{v:AV}(hh:hk f args h=some (v,h'))(hn:0<n):Af (Aj P mu hk) n (.func f) args h=some (.ret v,h'):=by
 obtain⟨m,rfl⟩:∃m,n=m+1:=⟨n - 1,by omega⟩
 show(match hk f args h with
  |some r=>some (Ar.ret r.1,r.2)
  |none=>match P.funcs[f]? with
   |none=>none
   |some fn=>match fn.body with
    |none=>none
    |some c=>Eo P fn (AB (cx P mu hk m) (rg P mu hk m f) f none m c ⟨args++List.replicate (fn.ntmps - args.length) Ak,[],h⟩))=_
 rw[hh]
def abz(P:Program)(mu:FuncId->Nat->Bool)(hk:Am)(n:Nat)(f:FuncId)(fn:Func)(c:Code)(args:List AV)(h:AH):Option (Ar × AH):=
 Eo P fn (AB (cx P mu hk n) (rg P mu hk n f) f none n c ⟨args++List.replicate (fn.ntmps - args.length) Ak,[],h⟩)
theorem acT{n:Nat}{f:FuncId}{fn:Func}{c:Code}{args:List AV}{h:AH}(hh:hk f args h=none)(hf:P.funcs[f]?=some fn)(hc:fn.body=some c) :
  Af (Aj P mu hk) (n+1) (.func f) args h=abz P mu hk n f fn c args h:=by
 show(match hk f args h with
  |some r=>some (Ar.ret r.1,r.2)
  |none=>match P.funcs[f]? with
   |none=>none
   |some fn=>match fn.body with
    |none=>none
    |some c=>Eo P fn (AB (cx P mu hk n) (rg P mu hk n f) f none n c ⟨args++List.replicate (fn.ntmps - args.length) Ak,[],h⟩))=_
 rw[hh,hf]
 simp only[hc]
 rfl
end
section
variable{X:Cx}{dw:Nat->Array Oper->fO->Option (Bo × fO)}{fn:FuncId}{rd:Option Id}{n:Nat}{s:fO}
end
end Go.Sk
namespace Go.Sk
inductive sM (X:Cx) (fn:FuncId) (ops:Array Oper) (h:AH):List Nat->List AV->List AV->Prop
 |nil (tm:List AV):sM X fn ops h [] tm tm
 |cons {j:Nat} {r:List Nat} {o:Oper} {tm lM tm2:List AV} {E1:List Dk} (ho:ops[j]?=some o) (hs:Gs X fn ops j o ⟨tm,h,[],[]⟩=some ⟨lM,h,E1,[]⟩) (hr:sM X fn ops h r lM tm2):sM X fn ops h (j::r) tm tm2
theorem acW{X:Cx}{fn:FuncId}{ops:Array Oper}{j:Nat}{o:Oper}{tm lM:List AV}{h:AH}{E E1:List Dk}(hs:Gs X fn ops j o ⟨tm,h,[],[]⟩=some ⟨lM,h,E1,[]⟩) :
  Gs X fn ops j o ⟨tm,h,E,[]⟩=some ⟨lM,h,E++E1,[]⟩/\∀e∈E1,e.iU=h/\e.hNext=h:=by
 unfold Gs at hs ⊢
 simp only at hs ⊢
 repeat' split at hs
 all_goals first|(cases hs;done)|skip
 all_goals (simp only[aac,jP.mk.injEq]at hs)
 all_goals (obtain⟨h1,h2,h3,h4⟩:=hs)
 all_goals (subst h1)
 all_goals first
  |(simp at h4;done)
  |(subst h3;simp_all)
theorem sM.jC{X:Cx}{fn:FuncId}{ops:Array Oper}{h:AH}{L:List Nat}{tm tm':List AV}(hq:sM X fn ops h L tm tm'):∀E,∃E',Go.Sk.jC X fn ops L ⟨tm,h,E,[]⟩=some ⟨tm',h,E++E',[]⟩/\∀e∈E',e.iU=h/\e.hNext=h:=by
 induction hq with
 |nil tm=>intro E;exact⟨[],by simp[Go.Sk.jC],by simp⟩
 | @cons j r o tm lM tm2 E1 ho hs _ ih=>
  intro E
  obtain⟨h1,h2⟩:=acW (E:=E) hs
  obtain⟨E',h3,h4⟩:=ih (E++E1)
  refine⟨E1++E',by simp only[Go.Sk.jC,ho,h1];rw[h3,aa9],fun e he=>?_⟩
  rcases acI.1 he with he|he
  ·exact h2 e he
  ·exact h4 e he
theorem Hf{X:Cx}{fn:FuncId}{ops:Array Oper}{T:List Nat}{st:jP}:∀{L:List Nat},(∀j∈L,∃o,ops[j]?=some o/\GU X fn ops T st j o=true)->Gf X fn ops T st L=true
 |[],_=>rfl
 |j::r,h=>by
  obtain⟨o,ho,hc⟩:=h j (by simp)
  simp only[Gf,ho,hc,akK]
  exact Hf fun i hi=>h i (ajU _ hi)
theorem WU{X:Cx}{fn:FuncId}{ops:Array Oper}{pl:Plan}(hpl:Gc X.P (X.mu fn) ops=some pl){tm tm':List AV}{df:List Id}{h:AH}(hq:sM X fn ops h pl.ord tm tm'):drawn X fn ops ⟨tm,df,h⟩=some (.normal,⟨tm',df,h⟩):=by
 obtain⟨E',hst,hE⟩:=hq.jC []
 simp only[agV]at hst
 unfold drawn
 rw[hpl]
 simp only[hst]
 unfold Gc at hpl
 split at hpl
 case h_2=>cases hpl
 rename_i T hT
 simp only at hpl
 split at hpl
 case isFalse=>cases hpl
 rename_i hok
 simp only[aac]at hpl;subst hpl
 simp only[abB]at hok
 simp only at hst ⊢
 have hT0:rD ops []:=⟨fun j m h=>by simp at h,fun j h=>by simp at h⟩
 obtain⟨nJ,hTl⟩:=Ov hT (fun i o hi=>by simpa using hi) hT0
 obtain⟨hdf,_,hsame⟩:=U7 (h0:=h) (gH:=tm) nJ hok.1 _ 0 0 _ _ hok.2 hst (fun e he=>by simp at he) (.refl _) (fun _ _=>rfl) (fun _ _=>rfl) (fun i k h=>by simp at h) (fun e he=>by simp at he)
 have hno:jT h E':=fun e he=>(hE e he).2
 rw[if_pos]
 simp only[ajH,abB]
 refine .inr ⟨⟨Hf fun j hj=>?_,rfl⟩,rfl⟩
 obtain⟨o,ho,hop,_⟩:=hdf.op j hj
 refine⟨o,ho,?_⟩
 unfold GU
 unfold mO at hop
 simp only at hop ⊢
 split
 ·rename_i hw
  rw[if_pos hw]at hop
  split
  ·rename_i hk
   rw[hk]at hop
   obtain⟨v,h1,h2,he,hsl,hh,_⟩:=hop
   obtain rfl:=hh hno trivial
   rw[ajz]
   intro k _
   have hend:fM E' h1 k=h1:=by
    unfold fM
    split
    ·rename_i e hek
     exact(hE e (abn hek)).1
    ·rfl
   rw[hend,he]
   simp only[ajH]
   right
   unfold KY
   split
   ·rfl
   ·rename_i d hd
    split
    ·rename_i u hu
     have:=hsl d hd (aao.1 hu).1
     rw[hu]at this;simp only[aac]at this;subst this
     exact AV.beq_refl _
    ·rfl
  ·rfl
 ·rfl
def isLoad:Op->Bool
 | .load _ _=>true
 |_=>false
def ME:Op->Bool
 | .mapUpdate _ _ _ _=>true
 |_=>false
def Vb(P:Program)(mu:Nat->Bool)(ops:Array Oper)(T:List Nat):Bool:=
 (List.range ops.size).all fun j=>match ops[j]? with
  |some o=>(match Bd P (o.dst.any mu) o.op with
   | .read=>(List.range ops.size).all fun i=>match ops[i]? with
    |some o'=>(match Bd P (o'.dst.any mu) o'.op with| .gU=>(T.getD i 0).testBit j||(isLoad o.op&&ME o'.op)|_=>true)
    |none=>true
   |_=>true)
  |none=>true
theorem Vk{P:Program}{mu:Nat->Bool}{ops:Array Oper}{T:List Nat}(h:Vb P mu ops T=true){j i:Nat}{o o':Oper}(ho:ops[j]?=some o)(hk:Bd P (o.dst.any mu) o.op= .read)(ho':ops[i]?=some o')(hk':Bd P (o'.dst.any mu) o'.op= .gU):(T.getD i 0).testBit j=true\/(isLoad o.op=true/\ME o'.op=true):=by
 have hj:j<ops.size:=(ajI.1 ho).1
 have hi:i<ops.size:=(ajI.1 ho').1
 have h1:=ajz.1 h j (ajD.2 hj)
 simp only[ho,hk]at h1
 have h2:=ajz.1 h1 i (ajD.2 hi)
 simpa only[ho',hk',ajH,abB]using h2
theorem NK{P:Program}{t:TypeId}{p:AV}{h:AH}{r:Id}{es es':List (AV × AV × Nat)}{c c':Nat}(hr:h.get r=some (.map es c)):Av P t p (h.set r (.map es' c'))=Av P t p h:=by
 cases p<;>first|rfl|skip
 rename_i q off
 by_cases hq:q=r
 ·subst hq
  simp only[Av,AH.ak,if_pos,hr]
 ·simp only[Av,AH.ak,if_neg hq]
theorem XQ{X:Cx}{fn:FuncId}{tm:List AV}{o:Oper}{h h':AH}{v:AV}(hm:ME o.op=true)(he:Ci X fn tm o h=some (.ret v,h'))(t:TypeId)(p:AV):Av X.P t p h'=Av X.P t p h:=by
 unfold ME at hm
 split at hm
 case h_2=>cases hm
 rename_i a b c d ho
 unfold Ci at he
 rw[ho]at he
 simp only at he
 split at he
 case h_2=>cases he
 rename_i m k x _ _ _
 unfold iy DJ at he
 split at he
 case h_2=>cases he
 rename_i h2 hup
 simp only[aac,aaW]at he
 obtain⟨_,rfl⟩:=he
 split at hup
 case h_2=>cases hup
 rename_i r _
 split at hup
 case h_2=>cases hup
 rename_i es clock hg
 split at hup
 ·simp only[aac]at hup;subst hup;exact NK hg
 ·simp only[aac]at hup;subst hup;exact NK hg
 ·cases hup
theorem ZU{X:Cx}{fn:FuncId}{tm:List AV}{o:Oper}{h h':AH}(hl:isLoad o.op=true)(hh:∀t p,Av X.P t p h'=Av X.P t p h){v:AV}{h1:AH}(he:Ci X fn tm o h=some (.ret v,h1)):∃h2,Ci X fn tm o h'=some (.ret v,h2):=by
 unfold isLoad at hl
 split at hl
 case h_2=>cases hl
 rename_i t a ho
 unfold Ci at he ⊢
 rw[ho]at he ⊢
 simp only at he ⊢
 split at he
 ·rw[hh]
  cases hv:Av X.P t _ h with
  |none=>rw[hv]at he;cases he
  |some u=>
   rw[hv]at he
   simp only[eX,aac,aaW]at he ⊢
   exact⟨h',by rw[he.1],rfl⟩
 ·cases he
theorem Ng{X:Cx}{fn:FuncId}{ops:Array Oper}{t:TypeId}{p:AV}:∀{h:AH} {E:List Dk} {h':AH},Chain X fn ops h E h'->∀k,(∀e∈E.take k,∀o,ops[e.j]?=some o->ME o.op=true)->k<=E.length->Av X.P t p (fM E h' k)=Av X.P t p h
 |h,[],h',hc,k,hm,hk=>by
  have:h'=h:=hc
  subst this
  simp[fM]
 |h,e::E,h',hc,0,hm,hk=>by
  simp[fM,hc.1]
 |h,e::E,h',hc,k+1,hm,hk=>by
  have:fM (e::E) h' (k+1)=fM E h' k:=by simp[fM]
  rw[this,Ng hc.2.2 k (fun e' he'=>hm e' (by simp[he'])) (by simpa using hk)]
  have h1:=hc.1
  rcases hc.2.1 with h2|⟨tm,o,v,ho,hev⟩
  ·rw[h2,h1]
  ·rw[XQ (hm e (by simp) o ho) hev,h1]
theorem Xm{X:Cx}{fn:FuncId}{ops:Array Oper}{pl:Plan}(hpl:Gc X.P (X.mu fn) ops=some pl)(oH:Vb X.P (X.mu fn) ops pl.T=true){tm tm':List AV}{df:List Id}{h h':AH}{E':List Dk}
  (hst:jC X fn ops pl.ord ⟨tm,h,[],[]⟩=some ⟨tm',h',E',[]⟩):drawn X fn ops ⟨tm,df,h⟩=some (.normal,⟨tm',df,h'⟩):=by
 have iI:=PG hst
 unfold drawn
 rw[hpl]
 simp only[hst]
 unfold Gc at hpl
 split at hpl
 case h_2=>cases hpl
 rename_i T hT
 simp only at hpl
 split at hpl
 case isFalse=>cases hpl
 rename_i hok
 simp only[aac]at hpl;subst hpl
 simp only[abB]at hok
 simp only at hst oH ⊢
 have hT0:rD ops []:=⟨fun j m h=>by simp at h,fun j h=>by simp at h⟩
 obtain⟨nJ,hTl⟩:=Ov hT (fun i o hi=>by simpa using hi) hT0
 obtain⟨hdf,_,hsame⟩:=U7 (h0:=h) (gH:=tm) nJ hok.1 _ 0 0 _ _ hok.2 hst (fun e he=>by simp at he) (.refl _) (fun _ _=>rfl) (fun _ _=>rfl) (fun i k h=>by simp at h) (fun e he=>by simp at he)
 obtain⟨E2,hE2,hEk,_,_⟩:=hdf.E
 simp only[agV]at hE2
 subst hE2
 obtain⟨E3,A3,pO,hA3,hch⟩:=iI
 simp only[agV]at pO hA3
 subst pO;subst hA3
 have hch:=hch rfl
 simp only at hch
 rw[if_pos]
 simp only[ajH,abB]
 refine .inr ⟨⟨Hf fun j hj=>?_,rfl⟩,rfl⟩
 obtain⟨o,ho,hop,_⟩:=hdf.op j hj
 refine⟨o,ho,?_⟩
 unfold GU
 unfold mO at hop
 simp only at hop ⊢
 split
 ·rename_i hw
  rw[if_pos hw]at hop
  split
  ·rename_i hk
   rw[hk]at hop
   obtain⟨v,h1,h2,he,hsl,_,E1,E4,hE,hbit,hh⟩:=hop
   have qy:∀e∈E',(T.getD e.j 0).testBit j=false->isLoad o.op=true/\∀o',ops[e.j]?=some o'->ME o'.op=true:=fun e hm hb=>by
    obtain⟨_,o',ho',hk'⟩:=hEk e hm
    rcases Vk oH ho hk ho' hk' with h|⟨h3,h4⟩
    ·rw[hb]at h;cases h
    ·exact⟨h3,fun o2 ho2=>by rw[ho']at ho2;simp only[aac]at ho2;subst ho2;exact h4⟩
   have sO:E1.length<=E'.length:=by rw[hE];simp
   have h1e:h1=fM E' h' E1.length:=hh trivial
   have key:∀k,k<=E'.length->(∀e∈E'.take k,(T.getD e.j 0).testBit j=false)->∃h3,Ci X fn tm' o (fM E' h' k)=some (.ret v,h3):=by
    intro k hk2 hb
    by_cases hl:isLoad o.op=true
    ·refine ZU hl (fun t p=>?_) he
     rw[h1e,Ng hch k (fun e hm=>(qy e (akd hm) (hb e hm)).2) hk2,Ng hch E1.length (fun e hm=>(qy e (akd hm) (hbit e (by rw[hE]at hm;simpa using hm))).2) sO]
    ·have hk0:k=0:=by
      cases k with
      |zero=>rfl
      |succ k=>
       cases nu:E' with
       |nil=>rw[nu]at hk2;simp at hk2
       |cons e E6=>
        rw[nu]at hb
        exact absurd (qy e (by rw[nu];simp) (hb e (by simp))).1 hl
     have hE0:E1.length=0:=by
      cases E1 with
      |nil=>rfl
      |cons e r=>exact absurd (qy e (by rw[hE];simp) (hbit e (by simp))).1 hl
     rw[hk0,<-hE0,<-h1e]
     exact⟨h2,he⟩
   rw[ajz]
   intro k hkr
   have hkl:k<=E'.length:=by simp at hkr;omega
   cases hp:poss T E' j k with
   |false=>rfl
   |true=>
    unfold poss at hp
    simp only[abB]at hp
    obtain⟨h3,hev⟩:=key k hkl (fun e hm=>by have:=ajz.1 hp.1 e hm;simpa using this)
    rw[hev]
    simp only[ajH]
    right
    unfold KY
    split
    ·rfl
    ·rename_i d hd
     split
     ·rename_i u hu
      have:=hsl d hd (aao.1 hu).1
      rw[hu]at this;simp only[aac]at this;subst this
      exact AV.beq_refl _
     ·rfl
  ·rfl
 ·rfl
end Go.Sk
namespace Go.Sk
section
variable{α:Type}
def Vt(v:AV)(k:AV->Option α):Option α:=
 match v with
 | .bool b=>k (.bool b)
 | .int t n=>k (.int t n)
 | .str l=>k (.str l)
 | .fP=>k .fP
 | .ptr r o=>k (.ptr r o)
 | .ref v=>k (.ref v)
 | .aj=>k .aj
 | .eP xs c=>k (.eP xs c)
 | .hsl r o l c=>k (.hsl r o l c)
 | .fH=>k .fH
 | .map r=>k (.map r)
 | .fn f a b=>k (.fn f a b)
 | .gL=>k .gL
 | .iface t v=>k (.iface t v)
 | .fB=>k .fB
 | .agg cs=>k (.agg cs)
 | .eU vs=>k (.eU vs)
theorem Ea(v:AV)(k:AV->Option α):Vt v k=k v:=by cases v<;>rfl
def uR:List AV->Nat->AV->(List AV->Option α)->Option α
 |[],_,_,k=>k []
 |_::l,0,v,k=>k (v::l)
 |a::l,i+1,v,k=>uR l i v fun l'=>k (a::l')
theorem VG:∀(l:List AV) (i:Nat) (v:AV) (k:List AV->Option α),uR l i v k=k (l.set i v)
 |[],_,_,_=>rfl
 |_::_,0,_,_=>rfl
 |a::l,i+1,v,k=>by rw[uR,VG l i v];rfl
def vU:List AV->Nat->(AV->Option α)->Option α
 |[],_,k=>k Ak
 |a::_,0,k=>k a
 |_::l,i+1,k=>vU l i k
theorem UD:∀(l:List AV) (i:Nat) (k:AV->Option α),vU l i k=k (l.getD i Ak)
 |[],_,_=>rfl
 |_::_,0,_=>rfl
 |a::l,i+1,k=>by rw[vU,UD l i];rfl
def Eu(tm:List AV)(d:Option Tmp)(v:AV)(k:List AV->Option α):Option α:=
 match d with
 |some d=>uR tm d v k
 |none=>k tm
theorem ER(tm:List AV)(d:Option Tmp)(v:AV)(k:List AV->Option α):Eu tm d v k=k (IG tm d v):=by
 cases d with
 |none=>rfl
 |some d=>exact VG ..
def Cj(tm:List AV)(x:Operand)(k:AV->Option α):Option α:=
 match x with
 | .tmp i=>vU tm i k
 |x=>match Ay tm x with|some v=>Vt v k|none=>none
theorem IQ(tm:List AV)(x:Operand)(k:AV->Option α):Cj tm x k=(Ay tm x).bind k:=by
 unfold Cj
 split
 ·rw[UD];rfl
 ·cases Ay tm x with
  |none=>rfl
  |some v=>simp only[Ea];rfl
def JW(tm:List AV):List Operand->(List AV->Option α)->Option α
 |[],k=>k []
 |o::r,k=>Cj tm o fun v=>JW tm r fun l=>k (v::l)
theorem Js(tm:List AV):∀(l:List Operand) (k:List AV->Option α),JW tm l k=(Dh tm l).bind k
 |[],k=>rfl
 |o::r,k=>by
  unfold JW Dh
  rw[IQ]
  cases Ay tm o with
  |none=>rfl
  |some v=>
   simp only[ajE]
   rw[Js tm r]
   cases Dh tm r<;>rfl
def K3(tm:List AV)(x:Option Operand)(k:Option AV->Option α):Option α:=
 match x with
 |none=>k none
 |some o=>Cj tm o fun v=>k (some v)
theorem W9(tm:List AV)(x:Option Operand)(k:Option AV->Option α):K3 tm x k=(DZ tm x).bind k:=by
 cases x with
 |none=>rfl
 |some o=>
  simp only[K3,DZ,IQ]
  cases Ay tm o<;>rfl
def Dm(k kp:AV->AH->Option α):Option (Ar × AH)->Option α
 |some (.ret v,h)=>Vt v fun v=>k v h
 |some (.iY v,h)=>kp v h
 |none=>none
def Yw(P:Program)(t:TypeId)(x ix:AV)(h:AH)(k kp:AV->AH->Option α):Option α:=
 match P.underlying t,x,ix with
 |some .string,.str s,.int _ i=>match decide (0<=i)with|true=>(match s[i.toNat]? with|some b=>k (.int .u8 b.toNat) h|none=>none)|false=>none
 |_,_,_=>Dm k kp (eX h (Nh P t x ix))
theorem aay(P:Program)(t:TypeId)(x ix:AV)(h:AH)(k kp:AV->AH->Option α):Yw P t x ix h k kp=Dm k kp (eX h (Nh P t x ix)):=by
 unfold Yw
 split
 ·rename_i s kk i hu
  simp only[Nh,hu]
  by_cases hi:0<=i
  ·rw[if_pos hi]
   simp only[hi,decide_true]
   cases s[i.toNat]?<;>rfl
  ·rw[if_neg hi]
   simp only[hi,decide_false]
   rfl
 ·rfl
def Nc(P:Program)(t:TypeId)(x ix:AV)(h:AH)(k kp:AV->AH->Option α):Option α:=
 match P.underlying t,x,ix with
 |some (.slice elem),.eP xs _,.int _ i=>
  match sizeT P elem with
  |some s=>
   match decide (0<=i)with
   |true=>(match xs[i.toNat]? with|some v=>(match Nat.beq v.cells.length s with|true=>k (.ref v) h|false=>none)|none=>none)
   |false=>none
  |none=>none
 |some (.slice elem),.hsl r off len _,.int _ i=>
  match sizeT P elem with
  |some s=>
   match decide (0<=i)with
   |true=>(match decide (i<(len:Int))with|true=>k (.ptr r (off+i.toNat*s)) h|false=>none)
   |false=>none
  |none=>none
 |_,_,_=>Dm k kp (eX h (BH P t x ix))
theorem Te(P:Program)(t:TypeId)(x ix:AV)(h:AH)(k kp:AV->AH->Option α):Nc P t x ix h k kp=Dm k kp (eX h (BH P t x ix)):=by
 unfold Nc
 split
 ·rename_i elem xs c kk i hu
  simp only[BH,hu]
  cases sizeT P elem with
  |none=>rfl
  |some s=>
   simp only
   by_cases hi:0<=i
   ·simp only[hi,decide_true,true_and]
    by_cases hl:i<(xs.length:Int)
    ·rw[if_pos hl]
     cases hx:xs[i.toNat]? with
     |none=>rfl
     |some v=>
      simp only
      by_cases hs:v.cells.length=s
      ·rw[if_pos hs]
       have:Nat.beq v.cells.length s=true:=by rw[hs];exact Nat.beq_refl s
       rw[this];rfl
      ·rw[if_neg hs]
       have:Nat.beq v.cells.length s=false:=by
        cases e:Nat.beq v.cells.length s with
        |false=>rfl
        |true=>exact absurd (ajW e) hs
       rw[this];rfl
    ·rw[if_neg hl]
     have:xs[i.toNat]?=none:=aco (by omega)
     rw[this];rfl
   ·simp only[hi,decide_false,false_and,if_false];rfl
 ·rename_i elem r off len c kk i hu
  simp only[BH,hu]
  cases sizeT P elem with
  |none=>rfl
  |some s=>
   simp only
   by_cases hi:0<=i
   ·simp only[hi,decide_true,true_and]
    by_cases hl:i<(len:Int)
    ·simp only[hl,decide_true,if_true];rfl
    ·simp only[hl,decide_false,if_false];rfl
   ·simp only[hi,decide_false,false_and,if_false];rfl
 ·rfl
def VD(o:Option AV)(top dflt:Nat)(k:Nat->Option α):Option α:=
 match o with
 |none=>k dflt
 |some (.int _ i)=>match decide (0<=i)with
  |true=>(match decide (i<=(top:Int))with|true=>k i.toNat|false=>none)
  |false=>none
 |some v=>(Cq (some v) top dflt).bind k
theorem ZO(o:Option AV)(top dflt:Nat)(k:Nat->Option α):VD o top dflt k=(Cq o top dflt).bind k:=by
 unfold VD
 split
 ·rfl
 ·rename_i kk i
  by_cases h0:0<=i
  ·by_cases h1:i<=(top:Int)
   ·simp[Cq,I4,h0,h1]
   ·simp[Cq,I4,h0,h1]
  ·simp[Cq,I4,h0]
 ·rfl
def abf(it:AV)(isString:Bool)(h:AH)(k kp:AV->AH->Option α):Option α:=
 match it,isString with
 | .ptr r 0,true=>
  match h.get r with
  |some (.jE s pos)=>
   match decide (pos<s.length)with
   |true=>k (.eU [.bool true,.int .i64 pos,.int .i32 (Mw s pos).1]) (h.set r (.jE s (pos+(Mw s pos).2)))
   |false=>k (.eU [.bool false]) h
  |_=>none
 |_,_=>Dm k kp (CS (RX it isString h))
theorem acf(it:AV)(isString:Bool)(h:AH)(k kp:AV->AH->Option α):abf it isString h k kp=Dm k kp (CS (RX it isString h)):=by
 unfold abf
 split
 ·rename_i r
  unfold RX
  simp only
  cases h.get r with
  |none=>rfl
  |some o=>
   cases o<;>first|rfl|skip
   rename_i s pos
   simp only
   by_cases hp:pos<s.length
   ·simp only[hp,decide_true,if_true];rfl
   ·simp only[hp,decide_false,if_false];rfl
 ·rfl
theorem Uv:∃f:(AV->AH->Option α)->(AV->AH->Option α)->Option (Ar × AH)->Option α,f=Dm:=⟨_,rfl⟩
@[irreducible] noncomputable def eT:(AV->AH->Option α)->(AV->AH->Option α)->Option (Ar × AH)->Option α:=Classical.choose (Uv (α:=α))
theorem BG(k kp:AV->AH->Option α)(r:Option (Ar × AH)):eT k kp r=Dm k kp r:=by
 unfold eT
 rw[Classical.choose_spec (Uv (α:=α))]
theorem AQ{k kp:AV->AH->Option α}{r:Option (Ar × AH)}{v:AV}{h:AH}{y:Option α}(hr:r=some (.ret v,h))(hy:k v h=y):eT k kp r=y:=by
 rw[BG,hr];exact(Ea v fun v=>k v h).trans hy
theorem Aa{Q:Option α->Prop}{k kp:AV->AH->Option α}{r:Option (Ar × AH)}{v:AV}{h:AH}(hr:r=some (.ret v,h))(hy:Q (k v h)):Q (eT k kp r):=by
 rw[AQ hr rfl];exact hy
noncomputable def X0(P:Program)(t:TypeId)(x:AV)(lo hi mx:Option AV)(h:AH)(k kp:AV->AH->Option α):Option α:=
 match P.underlying t,x,mx with
 |some .string,.str s,none=>VD hi s.length s.length fun b=>VD lo b 0 fun a=>k (.str ((s.take b).drop a)) h
 |_,.eP xs c,mx=>eT k kp (eX h (EU P t (.eP xs c) lo hi mx))
 |_,.hsl r o l c,mx=>eT k kp (eX h (EU P t (.hsl r o l c) lo hi mx))
 |_,_,_=>Dm k kp (eX h (EU P t x lo hi mx))
theorem ZX(P:Program)(t:TypeId)(x:AV)(lo hi mx:Option AV)(h:AH)(k kp:AV->AH->Option α):X0 P t x lo hi mx h k kp=Dm k kp (eX h (EU P t x lo hi mx)):=by
 unfold X0
 split
 ·rename_i s hu
  simp only[ZO,EU,hu,DX]
  simp only[akU,akN,ajB,if_false]
  rw[show Cq none s.length s.length=some s.length from rfl]
  simp only[ajE]
  cases Cq hi s.length s.length with
  |none=>rfl
  |some b=>
   simp only[ajE]
   cases Cq lo b 0<;>rfl
 ·exact BG ..
 ·exact BG ..
 ·rfl
noncomputable def Sr(P:Program)(src dst:TypeId)(x:AV)(h:AH)(k kp:AV->AH->Option α):Option α:=
 match x with
 | .int kk n=>Dm k kp (CS (Ho P src dst (.int kk n) h))
 |x=>eT k kp (CS (Ho P src dst x h))
theorem Wo(P:Program)(src dst:TypeId)(x:AV)(h:AH)(k kp:AV->AH->Option α):Sr P src dst x h k kp=Dm k kp (CS (Ho P src dst x h)):=by
 unfold Sr
 split
 ·rfl
 ·exact BG ..
noncomputable def acv(P:Program)(t:TypeId)(p:AV)(h:AH)(k kp:AV->AH->Option α):Option α:=
 match p with
 | .ptr r off=>eT k kp (eX h (Av P t (.ptr r off) h))
 |p=>Dm k kp (eX h (Av P t p h))
theorem abd(P:Program)(t:TypeId)(p:AV)(h:AH)(k kp:AV->AH->Option α):acv P t p h k kp=Dm k kp (eX h (Av P t p h)):=by
 unfold acv
 split
 ·exact BG ..
 ·rfl
noncomputable def ach(P:Program)(t:TypeId)(p v:AV)(h:AH)(k kp:AV->AH->Option α):Option α:=eT k kp (iy (Cg P t p v h))
theorem ZT(P:Program)(t:TypeId)(p v:AV)(h:AH)(k kp:AV->AH->Option α):ach P t p v h k kp=Dm k kp (iy (Cg P t p v h)):=BG ..
noncomputable def abL(X:Cx)(mu:Bool)(tm:List AV)(c:Call)(h:AH)(k kp:AV->AH->Option α):Option α:=
 JW tm c.args.toList fun args=>
  match c.callee with
  | .value f=>Cj tm f fun v=>
   match v with
   | .fn (.func g) [] []=>(match X with|⟨_,_,call⟩=>eT k kp (call (.func g) args h))
   | .fn (.func g) first captured=>(match X with|⟨_,_,call⟩=>eT k kp (call (.func g) (first++args++captured) h))
   | .fn (.yield l) [] []=>(match X with|⟨_,_,call⟩=>eT k kp (call (.yield l) args h))
   | .fn (.yield l) first captured=>Dm k kp (if captured.isEmpty then X.call (.yield l) (first++args) h else none)
   |_=>none
  | .builtin .append=>eT k kp (Bt X mu .append c.argTypes args h)
  | .builtin b=>Dm k kp (Bt X mu b c.argTypes args h)
  |_=>none
theorem abF(X:Cx)(mu:Bool)(tm:List AV)(c:Call)(h:AH)(k kp:AV->AH->Option α):abL X mu tm c h k kp=Dm k kp (I6 X mu tm c h):=by
 unfold abL I6
 rw[Js]
 cases Dh tm c.args.toList with
 |none=>rfl
 |some args=>
  simp only[ajE]
  cases c.callee with
  |builtin b=>cases b<;>first|rfl|exact BG ..
  |invoke a b=>rfl
  |value f=>
   simp only
   rw[IQ]
   cases Ay tm f with
   |none=>rfl
   |some v=>
    simp only[ajE]
    cases v<;>first|rfl|skip
    rename_i f a b
    cases f with
    |yield l=>cases a with
     |nil=>cases b with
      |nil=>simp only[BG,agV,List.isEmpty_nil,if_true]
      |cons=>rfl
     |cons=>rfl
    |func g=>cases a with
     |nil=>cases b with
      |nil=>simp only[BG,agV,ajM]
      |cons=>exact BG ..
     |cons=>exact BG ..
noncomputable def aeC(sh:Bool)(P:Program)(op:BinOp)(t:TypeId)(x y:Operand)(a b:AV)(h:AH)(k kp:AV->AH->Option α):Option α:=
 match sh,a with
 |true,.agg cs=>eT k kp (eX h (Fw P op t x y (.agg cs) b))
 |true,.str l=>match op with
  | .add=>eT k kp (eX h (Fw P .add t x y (.str l) b))
  |op=>Dm k kp (eX h (Fw P op t x y (.str l) b))
 |_,a=>Dm k kp (eX h (Fw P op t x y a b))
theorem ady(sh:Bool)(P:Program)(op:BinOp)(t:TypeId)(x y:Operand)(a b:AV)(h:AH)(k kp:AV->AH->Option α):aeC sh P op t x y a b h k kp=Dm k kp (eX h (Fw P op t x y a b)):=by
 unfold aeC
 split
 ·exact BG ..
 ·split
  ·exact BG ..
  ·rfl
 ·rfl
def Pf(P:Program)(T:TypeId)(h:AH):Option (Ar × AH):=match BL P T with|some z=>CS (LQ T z h)|none=>none
theorem BZ{P:Program}{T:TypeId}{h:AH}{z:AV}{cs:List AV}(hz:BL P T=some z)(hc:z.cells=cs)(hs:cs.all AV.scalar=true):Pf P T h=some (.ret (.ptr h.next 0),h.alloc (.cells cs T)):=by
 subst hc
 simp only[Pf,hz,LQ,if_pos hs,CS]
noncomputable def Yk(sh:Bool)(X:Cx)(mu:Bool)(tm:List AV)(c:Call)(h:AH)(k kp:AV->AH->Option α):Option α:=
 match sh,c.callee with
 |true,.builtin .len=>JW tm c.args.toList fun args=>eT k kp (Bt X mu .len c.argTypes args h)
 |_,_=>abL X mu tm c h k kp
theorem ZQ(sh:Bool)(X:Cx)(mu:Bool)(tm:List AV)(c:Call)(h:AH)(k kp:AV->AH->Option α):Yk sh X mu tm c h k kp=Dm k kp (I6 X mu tm c h):=by
 unfold Yk
 split
 ·rename_i hc
  unfold I6
  rw[Js,hc]
  cases Dh tm c.args.toList with
  |none=>rfl
  |some args=>exact BG ..
 ·exact abF ..
noncomputable def lW(sh:Bool)(X:Cx)(fn:FuncId)(tm:List AV)(o:Oper)(h:AH)(k kp:AV->AH->Option α):Option α:=
 match o.op with
 | .move x| .assign x=>Cj tm x fun v=>k v h
 | .binOp op t x y _=>Cj tm x fun a=>Cj tm y fun b=>aeC sh X.P op t x y a b h k kp
 | .unOp op _ x=>Cj tm x fun a=>Dm k kp (eX h (Xf op a))
 | .extract t ix=>Cj tm t fun v=>(match v with| .eU vs=>(match vs[ix]? with|some v=>Vt v fun v=>k v h|none=>none)|_=>none)
 | .index t x ix=>Cj tm x fun a=>Cj tm ix fun b=>Yw X.P t a b h k kp
 | .indexAddr t x ix=>Cj tm x fun a=>Cj tm ix fun b=>(match sh with|true=>eT k kp (eX h (BH X.P t a b))|false=>Nc X.P t a b h k kp)
 | .pick c a b=>Cj tm c fun c=>
  (match c with
  | .bool v=>(match v with
   |true=>Cj tm a fun x=>k x h
   |false=>Cj tm b fun x=>k x h)
  |_=>none)
 | .convert src dst x=>Cj tm x fun a=>Sr X.P src dst a h k kp
 | .load t a=>Cj tm a fun p=>acv X.P t p h k kp
 | .store t a x=>Cj tm a fun p=>Cj tm x fun v=>ach X.P t p v h k kp
 | .field t x f=>Cj tm x fun v=>Dm k kp (eX h (RA X.P t v f))
 | .fieldAddr s x f=>Cj tm x fun v=>Dm k kp (eX h (I9 X.P s v f))
 | .next it s=>Cj tm it fun v=>abf v s h k kp
 | .range t x=>Cj tm x fun v=>Dm k kp (CS (Rq X.P t v h))
 | .slice t x lo hi mx=>Cj tm x fun v=>K3 tm lo fun a=>K3 tm hi fun b=>K3 tm mx fun c=>(match sh with|true=>eT k kp (eX h (EU X.P t v a b c))|false=>X0 X.P t v a b c h k kp)
 | .alloc elem=>(match sh with|true=>eT k kp (Pf X.P elem h)|false=>Dm k kp (Pf X.P elem h))
 | .box elem x=>Cj tm x fun v=>(match sh with|true=>eT k kp (CS (LQ elem v h))|false=>Dm k kp (CS (LQ elem v h)))
 | .makeSlice t l c=>Cj tm l fun a=>Cj tm c fun b=>eT k kp (CS (FT X.P t a b h))
 | .lookup t x ix ok=>Cj tm x fun a=>Cj tm ix fun b=>eT k kp (eX h (D9 X.P t a b ok h))
 | .mapUpdate t m i x=>Cj tm m fun a=>Cj tm i fun b=>Cj tm x fun c=>eT k kp (iy (DJ X.P t a b c h))
 | .mapEntry t m i=>Cj tm m fun a=>Cj tm i fun b=>eT k kp (CS (FV X.P t a b h))
 | .entryStore _ m s x=>Cj tm m fun a=>Cj tm s fun b=>Cj tm x fun c=>eT k kp (iy (CV a b c h))
 | .call c=>Yk sh X (o.dst.any (X.mu fn)) tm c h k kp
 |_=>Dm k kp (Ci X fn tm o h)
theorem RP(sh:Bool)(X:Cx)(fn:FuncId)(tm:List AV)(o:Oper)(h:AH)(k kp:AV->AH->Option α):lW sh X fn tm o h k kp=Dm k kp (Ci X fn tm o h):=by
 unfold lW
 split<;>first|rfl|skip
 all_goals (rename_i ho;unfold Ci;rw[ho];simp only[IQ,W9])
 ·rename_i x
  cases Ay tm x<;>first|rfl|exact(Ea _ fun v=>k v h).symm
 ·rename_i x
  cases Ay tm x<;>first|rfl|exact(Ea _ fun v=>k v h).symm
 ·rename_i op t x y _
  cases Ay tm x with
  |none=>rfl
  |some a=>
   cases Ay tm y with
   |none=>rfl
   |some b=>exact ady ..
 ·rename_i op _ x
  cases Ay tm x<;>rfl
 ·rename_i t ix
  cases Ay tm t with
  |none=>rfl
  |some v=>
   cases v<;>first|rfl|skip
   rename_i vs
   simp only[ajE]
   cases vs[ix]?<;>rfl
 ·rename_i t x ix
  cases Ay tm x with
  |none=>rfl
  |some a=>
   cases Ay tm ix with
   |none=>rfl
   |some b=>exact aay ..
 ·rename_i t x ix
  cases Ay tm x with
  |none=>rfl
  |some a=>
   cases Ay tm ix with
   |none=>rfl
   |some b=>
    cases sh with
    |true=>exact BG ..
    |false=>exact Te ..
 ·rename_i c a b
  cases Ay tm c with
  |none=>rfl
  |some v=>
   cases v<;>first|rfl|skip
   rename_i v
   cases v with
   |true=>simp only[ajE];cases Ay tm a<;>first|rfl|exact(Ea _ fun v=>k v h).symm
   |false=>simp only[ajE];cases Ay tm b<;>first|rfl|exact(Ea _ fun v=>k v h).symm
 ·rename_i src dst x
  cases Ay tm x with
  |none=>rfl
  |some v=>exact Wo ..
 ·rename_i t a
  cases Ay tm a with
  |none=>rfl
  |some v=>exact abd ..
 ·rename_i t a x
  cases Ay tm a with
  |none=>rfl
  |some p=>
   cases Ay tm x with
   |none=>rfl
   |some v=>exact ZT ..
 ·rename_i t x f
  cases Ay tm x<;>rfl
 ·rename_i t x f
  cases Ay tm x<;>rfl
 ·rename_i t x
  cases Ay tm t with
  |none=>rfl
  |some v=>exact acf ..
 ·rename_i t x
  cases Ay tm x<;>rfl
 ·rename_i t x lo hi mx
  cases Ay tm x with
  |none=>rfl
  |some a=>
   cases DZ tm lo with
   |none=>rfl
   |some b=>
    cases DZ tm hi with
    |none=>rfl
    |some c=>
     cases DZ tm mx with
     |none=>rfl
     |some d=>
      cases sh with
      |true=>exact BG ..
      |false=>exact ZX ..
 ·cases sh with
  |true=>exact BG ..
  |false=>rfl
 ·rename_i elem x
  cases Ay tm x with
  |none=>rfl
  |some v=>
   cases sh with
   |true=>exact BG ..
   |false=>rfl
 ·rename_i t l c
  cases Ay tm l with
  |none=>rfl
  |some a=>
   cases Ay tm c with
   |none=>rfl
   |some b=>exact BG ..
 ·rename_i t x ix ok
  cases Ay tm x with
  |none=>rfl
  |some a=>
   cases Ay tm ix with
   |none=>rfl
   |some b=>exact BG ..
 ·rename_i t m i x
  cases Ay tm m with
  |none=>rfl
  |some a=>
   cases Ay tm i with
   |none=>rfl
   |some b=>
    cases Ay tm x with
    |none=>rfl
    |some c=>exact BG ..
 ·rename_i t m i
  cases Ay tm m with
  |none=>rfl
  |some a=>
   cases Ay tm i with
   |none=>rfl
   |some b=>exact BG ..
 ·rename_i t m i x
  cases Ay tm m with
  |none=>rfl
  |some a=>
   cases Ay tm i with
   |none=>rfl
   |some b=>
    cases Ay tm x with
    |none=>rfl
    |some c=>exact BG ..
 ·exact ZQ ..
def Nl(tm:List AV)(d:Nat)(yes no bad:List AV->Option α):Option α:=
 vU tm d fun v=>match v with
  | .bool b=>(match b with
   |true=>uR tm d (.bool true) yes
   |false=>uR tm d (.bool false) no)
  |_=>bad tm
theorem abV{tm:List AV}{d:Nat}{b:Bool}(h:tm.getD d Ak= .bool b):tm.set d (.bool b)=tm:=by
 induction tm generalizing d with
 |nil=>rfl
 |cons a l ih=>
  cases d with
  |zero=>simp at h;subst h;rfl
  |succ d=>simp only[akW];rw[ih (by simpa using h)]
theorem Ud(tm:List AV)(d:Nat)(yes no bad:List AV->Option α):Nl tm d yes no bad=(match tm.getD d Ak with| .bool true=>yes tm| .bool false=>no tm|_=>bad tm):=by
 unfold Nl
 rw[UD]
 have hs:=fun b=>abV (tm:=tm) (d:=d) (b:=b)
 revert hs
 cases tm.getD d Ak<;>intro hs<;>first|rfl|skip
 rename_i b
 cases b<;>simp only[VG]<;>rw[hs _ rfl]
def FJ(ops:Array Oper)(tm:List AV)(o:Oper)(yes no:List AV->Option α):Option α:=
 match o.guard with
 |none=>yes tm
 |some (j,want)=>
  match(ops[j]?).bind (·.dst)with
  |some d=>(match want with
   |true=>Nl tm d yes no no
   |false=>Nl tm d no yes no)
  |none=>no tm
def Vl:Option AV->Option Bool
 |some (.bool b)=>some b
 |_=>none
theorem Yq(tm:List AV)(d:Nat):Vl tm[d]?=Vl (some (tm.getD d Ak)):=by
 rw[aal]
 cases tm[d]?<;>rfl
theorem IE(ops:Array Oper)(tm:List AV)(o:Oper)(yes no:List AV->Option α):FJ ops tm o yes no=if BS ops tm o then yes tm else no tm:=by
 unfold FJ BS
 cases o.guard with
 |none=>rfl
 |some p=>
  obtain⟨j,want⟩:=p
  have key:∀y:Option Tmp,(match y with|some d=>(match want with|true=>Nl tm d yes no no|false=>Nl tm d no yes no)|none=>no tm)=if((match y with|some d=>Vl tm[d]?|none=>none)==some want)=true then yes tm else no tm:=by
   intro y
   cases y with
   |none=>rfl
   |some d=>
    simp only[Ud,Yq]
    cases tm.getD d Ak<;>first|(cases want<;>rfl)|skip
    rename_i b
    cases b<;>cases want<;>rfl
  exact key ((ops[j]?).bind (·.dst))
noncomputable def vV(sh:Bool)(X:Cx)(fn:FuncId)(ops:Array Oper)(l:List Oper):List AV->AH->(List AV->AH->Option α)->(AV->List AV->AH->Option α)->Option α:=
 List.rec (motive:=fun _=>List AV->AH->(List AV->AH->Option α)->(AV->List AV->AH->Option α)->Option α)
  (fun tm h k _=>k tm h)
  (fun o _ go tm h k kp=>
   FJ ops tm o
    (fun tm=>lW sh X fn tm o h (fun v h'=>Eu tm o.dst v fun tm=>go tm h' k kp) (fun v h'=>kp v tm h'))
    (fun tm=>Eu tm o.dst Ak fun tm=>go tm h k kp)) l
theorem VI(sh:Bool)(X:Cx)(fn:FuncId)(ops:Array Oper)(df:List Id)(k:List AV->AH->Option α)(kp:AV->List AV->AH->Option α):∀(l:List Oper) (tm:List AV) (h:AH),
  vV sh X fn ops l tm h k kp=(Ic X fn ops l ⟨tm,df,h⟩).bind fun r=>match r.1 with| .normal=>k r.2.tm r.2.h| .iY v=>kp v r.2.tm r.2.h|_=>none
 |[],tm,h=>rfl
 |o::r,tm,h=>by
  show FJ ops tm o (fun tm=>lW sh X fn tm o h (fun v h'=>Eu tm o.dst v fun tm=>vV sh X fn ops r tm h' k kp) (fun v h'=>kp v tm h')) (fun tm=>Eu tm o.dst Ak fun tm=>vV sh X fn ops r tm h k kp)=_
  unfold Ic
  rw[IE]
  split
  ·rw[RP]
   cases Ci X fn tm o h with
   |none=>rfl
   |some x=>
    obtain⟨x,h'⟩:=x
    cases x with
    |ret v=>
     simp only[Dm,Ea,ER]
     exact VI sh X fn ops df k kp r _ h'
    |iY v=>rfl
  ·rw[ER];exact VI sh X fn ops df k kp r _ h
open Classical in
@[irreducible] noncomputable def iB (h:AH) (k:AV->Option α) (r:Option (Ar × AH)):Option α:=
 match r with
 |some (.ret v,h')=>if h'=h then k v else none
 |_=>none
theorem Qb{h:AH}{k:AV->Option α}{r:Option (Ar × AH)}{v:AV}{y:Option α}(hr:r=some (.ret v,h))(hy:k v=y):iB h k r=y:=by
 unfold iB;rw[hr];simp only[if_true];exact hy
theorem Gz{Q:Option α->Prop}{h:AH}{k:AV->Option α}{r:Option (Ar × AH)}{v:AV}(hr:r=some (.ret v,h))(hy:Q (k v)):Q (iB h k r):=by
 rw[Qb hr rfl];exact hy
theorem Jj{h:AH}{k:AV->Option α}{r:Option (Ar × AH)}{y:α}(hr:iB h k r=some y):∃v,r=some (.ret v,h)/\k v=some y:=by
 unfold iB at hr
 split at hr
 ·rename_i v h'
  split at hr
  ·rename_i he;subst he;exact⟨v,rfl,hr⟩
  ·cases hr
 ·cases hr
noncomputable def UG(X:Cx)(fn:FuncId)(tm:List AV)(o:Oper)(c:Call)(h:AH)(k:AV->Option α):Option α:=
 match c.callee with
 | .value f=>JW tm c.args.toList fun args=>Cj tm f fun v=>
  match v with
  | .fn (.func g) [] []=>(match X with|⟨_,_,call⟩=>iB h k (call (.func g) args h))
  |_=>iB h k (Ci X fn tm o h)
 |_=>iB h k (Ci X fn tm o h)
theorem X5{X:Cx}{fn:FuncId}{tm:List AV}{o:Oper}{c:Call}{h:AH}{k:AV->Option α}{y:α}(ho:o.op= .call c)(hr:UG X fn tm o c h k=some y):∃v,Ci X fn tm o h=some (.ret v,h)/\k v=some y:=by
 unfold UG at hr
 split at hr
 ·rename_i f hf
  rw[Js]at hr
  have he:Ci X fn tm o h=I6 X (o.dst.any (X.mu fn)) tm c h:=by unfold Ci;rw[ho]
  rw[he]at hr ⊢
  unfold I6 at hr ⊢
  rw[hf]at hr ⊢
  cases ha:Dh tm c.args.toList with
  |none=>rw[ha]at hr;cases hr
  |some args=>
   rw[ha]at hr
   simp only[ajE,IQ]at hr ⊢
   cases hv:Ay tm f with
   |none=>rw[hv]at hr;cases hr
   |some v=>
    rw[hv]at hr
    simp only[ajE]at hr
    split at hr
    ·have:=Jj hr
     simpa using this
    ·exact Jj hr
 ·exact Jj hr
noncomputable def Qn(sh:Bool)(X:Cx)(fn:FuncId)(ops:Array Oper)(h:AH)(ord:List Nat):List AV->(List AV->Option α)->Option α:=
 List.rec (motive:=fun _=>List AV->(List AV->Option α)->Option α)
  (fun tm k=>k tm)
  (fun j _ go tm k=>
   match ops[j]? with
   |some o=>
    FJ ops tm o
     (fun tm=>
      match Bd X.P (o.dst.any (X.mu fn)) o.op with
      | .new=>none
      | .gU=>(match o.op with
       | .call c=>UG X fn tm o c h fun v=>Eu tm o.dst v fun tm=>go tm k
       |_=>iB h (fun v=>Eu tm o.dst v fun tm=>go tm k) (Ci X fn tm o h))
      |_=>lW sh X fn tm o h (fun v _=>Eu tm o.dst v fun tm=>go tm k) (fun _ _=>none))
     (fun tm=>Eu tm o.dst Ak fun tm=>go tm k)
   |none=>none) ord
theorem Mj{sh:Bool}{X:Cx}{fn:FuncId}{ops:Array Oper}{h:AH}{k:List AV->Option α}{y:α}:∀{ord:List Nat} {tm:List AV},Qn sh X fn ops h ord tm k=some y->∃tm',sM X fn ops h ord tm tm'/\k tm'=some y
 |[],tm,he=>⟨tm,.nil tm,he⟩
 |j::r,tm,he=>by
  have he:(match ops[j]? with
   |some o=>
    FJ ops tm o
     (fun tm=>
      match Bd X.P (o.dst.any (X.mu fn)) o.op with
      | .new=>none
      | .gU=>(match o.op with
       | .call c=>UG X fn tm o c h fun v=>Eu tm o.dst v fun tm=>Qn sh X fn ops h r tm k
       |_=>iB h (fun v=>Eu tm o.dst v fun tm=>Qn sh X fn ops h r tm k) (Ci X fn tm o h))
      |_=>lW sh X fn tm o h (fun v _=>Eu tm o.dst v fun tm=>Qn sh X fn ops h r tm k) (fun _ _=>none))
     (fun tm=>Eu tm o.dst Ak fun tm=>Qn sh X fn ops h r tm k)
   |none=>none)=some y:=he
  cases ho:ops[j]? with
  |none=>rw[ho]at he;cases he
  |some o=>
  rw[ho]at he
  simp only[IE]at he
  split at he
  ·rename_i hw
   split at he
   ·cases he
   ·rename_i hk
    have:∃v,Ci X fn tm o h=some (.ret v,h)/\Qn sh X fn ops h r (IG tm o.dst v) k=some y:=by
     split at he
     ·rename_i c hc
      obtain⟨v,h1,h2⟩:=X5 hc he
      rw[ER]at h2;exact⟨v,h1,h2⟩
     ·obtain⟨v,h1,h2⟩:=Jj he
      rw[ER]at h2;exact⟨v,h1,h2⟩
    obtain⟨v,h1,h2⟩:=this
    obtain⟨tm',h3,h4⟩:=Mj h2
    exact⟨tm',.cons ho (by unfold Gs;rw[if_pos hw];simp only[hk,h1];rfl) h3,h4⟩
   ·rename_i hk1 hk2
    rw[RP]at he
    cases hev:Ci X fn tm o h with
    |none=>rw[hev]at he;cases he
    |some x=>
     obtain⟨x,h'⟩:=x
     rw[hev]at he
     cases x with
     |iY v=>cases he
     |ret v=>
      simp only[Dm,Ea,ER]at he
      obtain⟨tm',h3,h4⟩:=Mj he
      refine⟨tm',.cons (E1:=[]) ho ?_ h3,h4⟩
      unfold Gs
      rw[if_pos hw]
      cases hk:Bd X.P (o.dst.any (X.mu fn)) o.op with
      |new=>exact absurd hk hk1
      |gU=>exact absurd hk hk2
      |pure=>simp only[hev]
      |read=>simp only[hev]
  ·rename_i hw
   rw[ER]at he
   obtain⟨tm',h3,h4⟩:=Mj he
   by_cases hk:Bd X.P (o.dst.any (X.mu fn)) o.op= .gU
   ·exact⟨tm',.cons (E1:=[⟨j,h,h⟩]) ho (by unfold Gs;rw[if_neg hw,hk];rfl) h3,h4⟩
   ·refine⟨tm',.cons (E1:=[]) ho ?_ h3,h4⟩
    unfold Gs
    rw[if_neg hw]
    cases hk2:Bd X.P (o.dst.any (X.mu fn)) o.op with
    |gU=>exact absurd hk2 hk
    |new=>rfl
    |pure=>rfl
    |read=>rfl
noncomputable def O6(sh:Bool)(X:Cx)(fn:FuncId)(ops:Array Oper)(ord:List Nat):List AV->AH->(List AV->AH->Option α)->Option α:=
 List.rec (motive:=fun _=>List AV->AH->(List AV->AH->Option α)->Option α)
  (fun tm h k=>k tm h)
  (fun j _ go tm h k=>
   match ops[j]? with
   |some o=>
    FJ ops tm o
     (fun tm=>
      match Bd X.P (o.dst.any (X.mu fn)) o.op with
      | .new=>none
      | .gU=>lW sh X fn tm o h (fun v h'=>Eu tm o.dst v fun tm=>go tm h' k) (fun _ _=>none)
      |_=>lW sh X fn tm o h (fun v _=>Eu tm o.dst v fun tm=>go tm h k) (fun _ _=>none))
     (fun tm=>Eu tm o.dst Ak fun tm=>go tm h k)
   |none=>none) ord
theorem M4{sh:Bool}{X:Cx}{fn:FuncId}{ops:Array Oper}{k:List AV->AH->Option α}{y:α}:∀{ord:List Nat} {tm:List AV} {h:AH} {E:List Dk},O6 sh X fn ops ord tm h k=some y->
  ∃tm' h' E',jC X fn ops ord ⟨tm,h,E,[]⟩=some ⟨tm',h',E',[]⟩/\k tm' h'=some y
 |[],tm,h,E,he=>⟨tm,h,E,rfl,he⟩
 |j::r,tm,h,E,he=>by
  have he:(match ops[j]? with
   |some o=>
    FJ ops tm o
     (fun tm=>
      match Bd X.P (o.dst.any (X.mu fn)) o.op with
      | .new=>none
      | .gU=>lW sh X fn tm o h (fun v h'=>Eu tm o.dst v fun tm=>O6 sh X fn ops r tm h' k) (fun _ _=>none)
      |_=>lW sh X fn tm o h (fun v _=>Eu tm o.dst v fun tm=>O6 sh X fn ops r tm h k) (fun _ _=>none))
     (fun tm=>Eu tm o.dst Ak fun tm=>O6 sh X fn ops r tm h k)
   |none=>none)=some y:=he
  simp only[jC]
  cases ho:ops[j]? with
  |none=>rw[ho]at he;cases he
  |some o=>
  rw[ho]at he
  simp only[IE,RP]at he
  unfold Gs
  simp only
  split at he
  ·rename_i hw
   rw[if_pos hw]
   cases hk:Bd X.P (o.dst.any (X.mu fn)) o.op<;>rw[hk]at he<;>simp only at he ⊢
   case new=>cases he
   all_goals
    cases hev:Ci X fn tm o h with
    |none=>rw[hev]at he;cases he
    |some x=>
     obtain⟨x,h'⟩:=x
     rw[hev]at he
     cases x with
     |iY v=>cases he
     |ret v=>
      simp only[Dm,Ea,ER]at he ⊢
      exact M4 he
  ·rename_i hw
   rw[if_neg hw]
   rw[ER]at he
   cases hk:Bd X.P (o.dst.any (X.mu fn)) o.op<;>simp only<;>exact M4 he
def YC(tab:Nat->Option (List Nat)):Bool:=match tab 999999 with|some _=>true|none=>false
theorem Kt{X:Cx}{fn:FuncId}{ops:Array Oper}:∀{l:List Oper} {s:fO} {r:Bo × fO},Ic X fn ops l s=some r->(r.1= .normal\/∃v,r.1= .iY v)/\r.2.df=s.df
 |[],s,r,h=>by simp only[Ic,aac]at h;subst h;exact⟨.inl rfl,rfl⟩
 |o::l,s,r,h=>by
  unfold Ic at h
  split at h
  ·split at h
   ·have:=Kt h;exact this
   ·simp only[aac]at h;subst h;exact⟨.inr ⟨_,rfl⟩,rfl⟩
   ·cases h
  ·have:=Kt h;exact this
abbrev KC(α:Type):=Bo->fO->Option α
def Ye(f:fO->KC α->Option α):Nat->fO->KC α->Option α
 |0,_,_=>none
 |n+1,s,k=>f s fun x s'=>match x with| .normal=>Ye f n s' k|x=>k x s'
theorem VL:∃g:(fO->KC α->Option α)->Nat->fO->KC α->Option α,g=Ye:=⟨_,rfl⟩
noncomputable def Dw:(fO->KC α->Option α)->Nat->fO->KC α->Option α:=Classical.choose (VL (α:=α))
theorem TP:(Dw:(fO->KC α->Option α)->Nat->fO->KC α->Option α)=Ye:=Classical.choose_spec (VL (α:=α))
theorem Yr(f:fO->KC α->Option α)(s:fO)(k:KC α):Dw f 0 s k=none:=by rw[TP];rfl
theorem Bc(f:fO->KC α->Option α)(n:Nat)(s:fO)(k:KC α):Dw f (n+1) s k=f s fun x s'=>match x with| .normal=>Dw f n s' k|x=>k x s':=by rw[TP];rfl
attribute [irreducible] Dw
def Ve(tm:List AV)(c:Operand)(t e:List AV->Option α):Option α:=
 match c with
 | .tmp d=>Nl tm d t e fun _=>none
 |c=>Cj tm c fun v=>match v with
  | .bool b=>(match b with|true=>t tm|false=>e tm)
  |_=>none
abbrev CF(α:Type):=fO->KC α->Option α
@[irreducible] def jY (r:Option (Bo × fO)) (k:KC α):Option α:=r.bind fun r=>k r.1 r.2
noncomputable def adz(X:Cx)(dw:Nat->Array Oper->fO->Option (Bo × fO))(fn:FuncId)(tab:Nat->Option (List Nat))(id:Nat)(ops:Array Oper)(draw:Bool)(s:fO)(k:KC α):Option α:=
 match draw with
 |true=>(match tab id with
  |some ord=>(match s with|⟨tm,df,h⟩=>(match tab (id+500000)with
   |some _=>O6 (YC tab) X fn ops ord tm h fun tm h=>k .normal ⟨tm,df,h⟩
   |none=>Qn (YC tab) X fn ops h ord tm fun tm=>k .normal ⟨tm,df,h⟩))
  |none=>jY (dw id ops s) k)
 |false=>match s with|⟨tm,df,h⟩=>vV (YC tab) X fn ops ops.toList tm h (fun tm h=>k .normal ⟨tm,df,h⟩) (fun v tm h=>k (.iY v) ⟨tm,df,h⟩)
def ahZ(a b:CF α)(s:fO)(k:KC α):Option α:=
 a s fun x s'=>match x with| .normal=>b s' k|x=>k x s'
def agw(c:Operand)(t e:CF α)(s:fO)(k:KC α):Option α:=
 match s with|⟨tm,df,h⟩=>Ve tm c (fun tm=>t ⟨tm,df,h⟩ k) (fun tm=>e ⟨tm,df,h⟩ k)
def afu(id:Nat)(b:CF α)(s:fO)(k:KC α):Option α:=
 b s fun x s'=>match x with| .exit i=>(match Nat.beq i id with|true=>k .normal s'|false=>k (.exit i) s')|x=>k x s'
@[irreducible] def iO (l:Id) (tm:List AV) (df:List Id) (k:KC α) (r:Option (Ar × AH)):Option α:=
 match r with
 |some (.ret _,h2)=>(Cm l ⟨tm,df,h2⟩).bind fun r=>k r.1 r.2
 |some (.iY v,h2)=>k (.iY v) ⟨tm,df,h2⟩
 |none=>none
theorem aaq{Q:Option α->Prop}{l:Id}{tm:List AV}{df:List Id}{k:KC α}{r:Option (Ar × AH)}{v:AV}{h2:AH}{x:Bo}{s:fO}(hr:r=some (.ret v,h2))(hl:Cm l ⟨tm,df,h2⟩=some (x,s))(hy:Q (k x s)):Q (iO l tm df k r):=by
 unfold iO;rw[hr];simp only[hl,ajE];exact hy
def Dt(h:AH):Id:=(h.alloc (.defs true)).next
def Dn(fn:FuncId)(tm:List AV)(ps:Array Tmp)(a b:Code)(h:AH):AH:=(h.alloc (.defs true)).alloc (.loop .ready none fn tm ps a b h.next)
def VE(X:Cx)(fn:FuncId)(rd:Option Id)(f:Operand)(ps:Array Tmp)(a b:Code)(s:fO)(k:KC α):Option α:=
 match rd with
 |some _=>(BX X fn rd f ps a b s).bind fun r=>k r.1 r.2
 |none=>match s with
  |⟨tm,df,h⟩=>Cj tm f fun v=>match v with
   | .fn (.func g) first captured=>(match X with|⟨_,_,call⟩=>iO (Dt h) tm (h.next::df) k (call (.func g) (first++[.fn (.yield (Dt h)) [] []]++captured) (Dn fn tm ps a b h)))
   |_=>none
theorem Yh(X:Cx)(fn:FuncId)(rd:Option Id)(f:Operand)(ps:Array Tmp)(a b:Code)(s:fO)(k:KC α):VE X fn rd f ps a b s k=(BX X fn rd f ps a b s).bind fun r=>k r.1 r.2:=by
 unfold VE
 cases rd with
 |some _=>rfl
 |none=>
  obtain⟨tm,df,h⟩:=s
  simp only[BX,Gy,IQ]
  cases Ay tm f with
  |none=>rfl
  |some v=>
   cases v<;>first|rfl|skip
   rename_i g first captured
   cases g<;>first|rfl|skip
   rename_i g
   simp only[ajE]
   unfold iO
   split
   ·rename_i hr;unfold Dt Dn at hr;rw[hr];rfl
   ·rename_i hr;unfold Dt Dn at hr;rw[hr];rfl
   ·rename_i hr;unfold Dt Dn at hr;rw[hr];rfl
noncomputable def KN(X:Cx)(dw:Nat->Array Oper->fO->Option (Bo × fO))(fn:FuncId)(tab:Nat->Option (List Nat))(rd:Option Id)(n:Nat)(c:Code):CF α:=
 Code.rec (motive:=fun _=>CF α)
  (fun s k=>k .normal s)
  (fun id ops draw s k=>adz X dw fn tab id ops draw s k)
  (fun _ _ a b s k=>ahZ a b s k)
  (fun c _ _ t e s k=>agw c t e s k)
  (fun id _ b s k=>afu id b s k)
  (fun _ b s k=>Dw b n s k)
  (fun f ps a b _ _ s k=>VE X fn rd f ps a b s k)
  (fun i s k=>k (.exit i) s)
  (fun _ b s k=>b s k)
  (fun _ s k=>k .normal s)
  (fun l s k=>(AB X dw fn rd n (.goto l) s).bind fun r=>k r.1 r.2)
  (fun s k=>k .ret s)
  (fun w s k=>(AB X dw fn rd n (.refuse w) s).bind fun r=>k r.1 r.2)
  c
theorem aas(tm:List AV)(c:Operand)(t e:List AV->Option α):Ve tm c t e=(match Ay tm c with|some (.bool true)=>t tm|some (.bool false)=>e tm|_=>none):=by
 unfold Ve
 split
 ·rename_i d
  rw[Ud]
  show _=(match some (tm.getD d Ak)with|some (.bool true)=>t tm|some (.bool false)=>e tm|_=>none)
  cases tm.getD d Ak<;>first|rfl|skip
  rename_i b
  cases b<;>rfl
 ·rw[IQ]
  generalize Ay tm _=z
  cases z with
  |none=>rfl
  |some v=>
   cases v<;>first|rfl|skip
   rename_i v
   cases v<;>rfl
def A9(P:Program)(mu:Nat->Bool)(tab:Nat->Option (List Nat)):Code->Bool
 | .region id ops true=>(match tab id with
  |some ord=>(match Gc P mu ops with|some pl=>pl.ord==ord&&(match tab (id+500000)with|some _=>Vb P mu ops pl.T|none=>true)|none=>false)
  |none=>true)
 | .seq a b=>A9 P mu tab a&&A9 P mu tab b
 | .cond _ a b=>A9 P mu tab a&&A9 P mu tab b
 | .block _ b=>A9 P mu tab b
 | .loop b=>A9 P mu tab b
 | .scope b=>A9 P mu tab b
 |_=>true
theorem Ph{X:Cx}{dw:Nat->Array Oper->fO->Option (Bo × fO)}{fn:FuncId}{tab:Nat->Option (List Nat)}{rd:Option Id}{n:Nat}{y:α}(hrg:∀id ops s,dw id ops s=drawn X fn ops s) :
  ∀(c:Code) (s:fO) (k:KC α),A9 X.P (X.mu fn) tab c=true->KN X dw fn tab rd n c s k=some y->((AB X dw fn rd n c s).bind fun r=>k r.1 r.2)=some y:=by
 intro c
 induction c with
 |region id ops draw=>
  intro s k ht hc
  obtain⟨tm,df,h⟩:=s
  cases draw with
  |true=>
   replace hc:(match tab id with
    |some ord=>(match tab (id+500000)with
     |some _=>O6 (YC tab) X fn ops ord tm h fun tm h=>k .normal ⟨tm,df,h⟩
     |none=>Qn (YC tab) X fn ops h ord tm fun tm=>k .normal ⟨tm,df,h⟩)
    |none=>jY (dw id ops ⟨tm,df,h⟩) k)=some y:=hc
   cases htab:tab id with
   |none=>rw[htab]at hc;unfold jY at hc;exact hc
   |some ord=>
    rw[htab]at hc
    simp only[A9,htab]at ht
    split at ht
    ·rename_i pl hpl
     simp only[abB]at ht
     have:pl.ord=ord:=by simpa using ht.1
     subst this
     show(dw id ops ⟨tm,df,h⟩).bind _=_
     cases he5:tab (id+500000)with
     |some _=>
      rw[he5]at hc ht
      obtain⟨tm',h',E',h1,h2⟩:=M4 (E:=[]) hc
      rw[hrg,Xm hpl ht.2 h1]
      exact h2
     |none=>
      rw[he5]at hc
      obtain⟨tm',h1,h2⟩:=Mj hc
      rw[hrg,WU hpl h1]
      exact h2
    ·cases ht
  |false=>
   rw[<-hc]
   show(Ic X fn ops ops.toList ⟨tm,df,h⟩).bind _=vV (YC tab) X fn ops ops.toList tm h _ _
   rw[VI (YC tab) X fn ops df]
   have hx:=fun r=>Kt (X:=X) (fn:=fn) (ops:=ops) (l:=ops.toList) (s:=⟨tm,df,h⟩) (r:=r)
   revert hx
   cases Ic X fn ops ops.toList ⟨tm,df,h⟩with
   |none=>intro _;rfl
   |some r=>
    intro hx
    obtain⟨h1,h2⟩:=hx r rfl
    obtain⟨x,s'⟩:=r
    simp only at h1 h2
    rcases h1 with rfl|⟨v,rfl⟩<;>simp only[ajE]<;>rw[<-h2]
 |seq a b iha ihb=>
  intro s k ht hc
  simp only[A9,abB]at ht
  have h1:=iha s _ ht.1 hc
  show(Xr (AB X dw fn rd n a s) (AB X dw fn rd n b)).bind _=_
  cases he:AB X dw fn rd n a s with
  |none=>rw[he]at h1;cases h1
  |some r=>
   rw[he]at h1
   obtain⟨x,s'⟩:=r
   cases x<;>first|exact ihb s' k ht.2 h1|exact h1
 |cond c t e vR vS=>
  intro s k ht hc
  obtain⟨tm,df,h⟩:=s
  simp only[A9,abB]at ht
  replace hc:Ve tm c (fun tm=>KN X dw fn tab rd n t ⟨tm,df,h⟩ k) (fun tm=>KN X dw fn tab rd n e ⟨tm,df,h⟩ k)=some y:=hc
  show(match Ay tm c with|some (.bool true)=>AB X dw fn rd n t ⟨tm,df,h⟩|some (.bool false)=>AB X dw fn rd n e ⟨tm,df,h⟩|_=>none).bind _=_
  rw[aas]at hc
  revert hc
  cases Ay tm c with
  |none=>intro hc;cases hc
  |some v=>
   cases v<;>intro hc<;>first|(cases hc;done)|skip
   rename_i v
   cases v with
   |true=>exact vR _ k ht.1 hc
   |false=>exact vS _ k ht.2 hc
 |block id b ih=>
  intro s k ht hc
  have h1:=ih s _ ht hc
  show(outBlock id (AB X dw fn rd n b s)).bind _=_
  cases he:AB X dw fn rd n b s with
  |none=>rw[he]at h1;cases h1
  |some r=>
   rw[he]at h1
   obtain⟨x,s'⟩:=r
   cases x<;>first|exact h1|skip
   rename_i i
   replace h1:(match Nat.beq i id with|true=>k .normal s'|false=>k (.exit i) s')=some y:=h1
   show(if i=id then some (Bo.normal,s')else some (.exit i,s')).bind _=_
   by_cases hi:i=id
   ·rw[if_pos hi]
    have:Nat.beq i id=true:=by rw[hi];exact Nat.beq_refl id
    rw[this]at h1;exact h1
   ·rw[if_neg hi]
    have:Nat.beq i id=false:=by
     cases e:Nat.beq i id with
     |false=>rfl
     |true=>exact absurd (ajW e) hi
    rw[this]at h1;exact h1
 |loop b ih=>
  intro s k ht hc
  replace hc:Dw (KN X dw fn tab rd n b) n s k=some y:=hc
  show(iter (AB X dw fn rd n b) n s).bind _=_
  have key:∀m s,Dw (KN X dw fn tab rd n b) m s k=some y->((iter (AB X dw fn rd n b) m s).bind fun r=>k r.1 r.2)=some y:=by
   intro m
   induction m with
   |zero=>intro s hc;rw[Yr]at hc;cases hc
   |succ m im=>
    intro s hc
    rw[Bc]at hc
    have h1:=ih s _ ht hc
    show(match AB X dw fn rd n b s with|some (.normal,s')=>iter (AB X dw fn rd n b) m s'|r=>r).bind _=_
    cases he:AB X dw fn rd n b s with
    |none=>rw[he]at h1;cases h1
    |some r=>
     rw[he]at h1
     obtain⟨x,s'⟩:=r
     cases x<;>first|exact im s' h1|exact h1
  exact key n s hc
 |scope b ih=>intro s k ht hc;exact ih s k ht hc
 |skip=>intro s k _ hc;exact hc
 |label l=>intro s k _ hc;exact hc
 |exit i=>intro s k _ hc;exact hc
 |ret=>intro s k _ hc;exact hc
 |rangeFunc f ps a b _ _=>intro s k _ hc;rw[<-hc];exact(Yh X fn rd f ps a b s k).symm
 |goto l=>intro s k _ hc;exact hc
 |refuse w=>intro s k _ hc;exact hc
end
def Pm{α:Type}:List AV->(List AV->Option α)->Option α
 |[],k=>k []
 |a::l,k=>Pm l fun l=>k (a::l)
theorem MF{α:Type}:∀(l:List AV) (k:List AV->Option α),Pm l k=k l
 |[],k=>rfl
 |a::l,k=>by rw[Pm,MF l]
noncomputable def X9(P:Program)(mu:FuncId->Nat->Bool)(call:nH->List AV->AH->Option (Ar × AH))(dw:Nat->Array Oper->fO->Option (Bo × fO))(tab:Nat->Option (List Nat))(n:Nat)(f:FuncId)(fn:Func)(c:Code)(args:List AV)(h:AH):Option (Ar × AH):=
 Pm (args++List.replicate (fn.ntmps - args.length) Ak) fun tm=>KN ⟨P,mu,call⟩ dw f tab none n c ⟨tm,[],h⟩ fun x s=>Eo P fn (some (x,s))
theorem UW{P:Program}{mu:FuncId->Nat->Bool}{hk:Am}(tab:Nat->Option (List Nat)){n:Nat}{f:FuncId}{fn:Func}{c:Code}{args:List AV}{h:AH}{y:Ar × AH}(hh:hk f args h=none)(hf:P.funcs[f]?=some fn)(hc:fn.body=some c)
  (ht:A9 P (mu f) tab c=true) (hv:X9 P mu (Af (Aj P mu hk) n) (rg P mu hk n f) tab n f fn c args h=some y):Af (Aj P mu hk) (n+1) (.func f) args h=some y:=by
 rw[acT hh hf hc]
 unfold X9 at hv
 unfold abz
 rw[MF]at hv
 have:=Ph (X:=cx P mu hk n) (dw:=rg P mu hk n f) (fun _ _ _=>rfl) c _ _ ht hv
 rw[<-this]
 cases AB (cx P mu hk n) (rg P mu hk n f) f none n c ⟨args++List.replicate (fn.ntmps - args.length) Ak,[],h⟩with
 |none=>rfl
 |some r=>rfl
def K8:Nat->Option (List Nat):=fun _=>none
@[irreducible] def gY (P:Program) (fn:Func) (x:Bo) (s:fO):Option (Ar × AH):=Eo P fn (some (x,s))
theorem Ac{Q:Option (Ar × AH)->Prop}{P:Program}{fn:Func}{x:Bo}{s:fO}{y:Option (Ar × AH)}(hl:Eo P fn (some (x,s))=y)(hy:Q y):Q (gY P fn x s):=by
 unfold gY;rw[hl];exact hy
noncomputable def Yn(P:Program)(mu:FuncId->Nat->Bool)(call:nH->List AV->AH->Option (Ar × AH))(dw:Nat->Array Oper->fO->Option (Bo × fO))(tab:Nat->Option (List Nat))(n:Nat)(f:FuncId)(fn:Func)(c:Code)(args:List AV)(h:AH):Option (Ar × AH):=
 Pm (args++List.replicate (fn.ntmps - args.length) Ak) fun tm=>KN ⟨P,mu,call⟩ dw f tab none n c ⟨tm,[],h⟩ fun x s=>gY P fn x s
theorem AL{P:Program}{mu:FuncId->Nat->Bool}{hk:Am}(tab:Nat->Option (List Nat)){n:Nat}{f:FuncId}{fn:Func}{c:Code}{args:List AV}{h:AH}{y:Ar × AH}(hh:hk f args h=none)(hf:P.funcs[f]?=some fn)(hc:fn.body=some c)
  (ht:A9 P (mu f) tab c=true) (hv:Yn P mu (Af (Aj P mu hk) n) (rg P mu hk n f) tab n f fn c args h=some y):Af (Aj P mu hk) (n+1) (.func f) args h=some y:=by
 refine UW tab hh hf hc ht ?_
 unfold Yn at hv
 unfold X9
 have:(fun x s=>gY P fn x s)=(fun x s=>Eo P fn (some (x,s))):=by funext x s;unfold gY;rfl
 rw[this]at hv
 exact hv
@[irreducible] def jU {α:Type} (l:Id) (h:AH) (k:AH->Option α):Option α:=
 (Du l (fun st pd=>match st with| .ready=>some (.busy,pd)|_=>none) h).bind k
theorem QW{α:Type}{Q:Option α->Prop}{l:Id}{h h2:AH}{k:AH->Option α}(hl:Du l (fun st pd=>match st with| .ready=>some (.busy,pd)|_=>none) h=some h2)(hy:Q (k h2)):Q (jU l h k):=by
 unfold jU;rw[hl];exact hy
@[irreducible] def iZ (l:Id) (x:Bo) (s:fO):Option (Ar × AH):=Ei l (some (x,s))
theorem Mg{Q:Option (Ar × AH)->Prop}{l:Id}{x:Bo}{s:fO}{y:Option (Ar × AH)}(hl:Ei l (some (x,s))=y)(hy:Q y):Q (iZ l x s):=by
 unfold iZ;rw[hl];exact hy
noncomputable def Ya(P:Program)(mu:FuncId->Nat->Bool)(call:nH->List AV->AH->Option (Ar × AH))(dw:Nat->Array Oper->fO->Option (Bo × fO))(tab:Nat->Option (List Nat))(n:Nat)(l:Id)(fn:FuncId)(tm:List AV)(ps:Array Tmp)(a b:Code)(args:List AV)(h:AH):Option (Ar × AH):=
 Pm (BO tm ps.toList args) fun tm=>KN ⟨P,mu,call⟩ dw fn tab (some l) n a ⟨tm,[],h⟩ fun x s=>
  match x with
  | .normal=>(match s with|⟨tm,_,h⟩=>jU l h fun h2=>KN ⟨P,mu,call⟩ dw fn tab (some l) n b ⟨tm,[],h2⟩ fun x s=>iZ l x s)
  |_=>none
def Gj:Code->Bool
 | .rangeFunc _ _ _ _=>false
 | .seq a b=>Gj a&&Gj b
 | .cond _ a b=>Gj a&&Gj b
 | .block _ b=>Gj b
 | .loop b=>Gj b
 | .scope b=>Gj b
 |_=>true
theorem UY{P:Program}{mu:FuncId->Nat->Bool}{hk:Am}(tab:Nat->Option (List Nat)){n:Nat}{l:Id}{st:LoopState}{pd:Option Code}{fn:FuncId}{tm:List AV}{ps:Array Tmp}{a b:Code}{d:Id}{args:List AV}{h:AH}{y:Ar × AH}
  (hg:h.get l=some (.loop st pd fn tm ps a b d)) (hl:args.length=ps.size) (qp:A9 P (mu fn) tab a=true) (htb:A9 P (mu fn) tab b=true)
  (hdf:∀x s,AB (cx P mu hk n) (rg P mu hk n fn) fn (some l) n a ⟨BO tm ps.toList args,[],h⟩=some (x,s)->s.df=[])
  (hv:Ya P mu (Af (Aj P mu hk) n) (rg P mu hk n fn) tab n l fn tm ps a b args h=some y):Af (Aj P mu hk) (n+1) (.yield l) args h=some y:=by
 unfold Ya at hv
 rw[MF]at hv
 have h1:=Ph (X:=cx P mu hk n) (dw:=rg P mu hk n fn) (fun _ _ _=>rfl) a _ _ qp hv
 show(match h.get l with
  |some (.loop _ _ fn tm ps assign body _)=>
   if args.length≠ps.size then none else
   match AB (cx P mu hk n) (rg P mu hk n fn) fn (some l) n assign ⟨BO tm ps.toList args,[],h⟩with
   |some (.normal,s)=>
    match Du l (fun st pd=>match st with| .ready=>some (.busy,pd)|_=>none) s.h with
    |some h2=>if s.df.isEmpty then Ei l (AB (cx P mu hk n) (rg P mu hk n fn) fn (some l) n body ⟨s.tm,[],h2⟩)else none
    |none=>none
   |_=>none
  |_=>none)=some y
 rw[hg]
 simp only[hl,ne_eq,not_true_eq_false,if_false]
 cases he:AB (cx P mu hk n) (rg P mu hk n fn) fn (some l) n a ⟨BO tm ps.toList args,[],h⟩with
 |none=>rw[he]at h1;cases h1
 |some r=>
  obtain⟨x,s⟩:=r
  have hdf:=hdf x s he
  rw[he]at h1
  simp only[ajE]at h1
  cases x<;>simp only at h1 ⊢ <;>first|(cases h1;done)|skip
  obtain⟨lM,df1,h1'⟩:=s
  simp only at hdf h1 ⊢
  subst hdf
  unfold jU at h1
  cases hs:Du l (fun st pd=>match st with| .ready=>some (.busy,pd)|_=>none) h1' with
  |none=>rw[hs]at h1;cases h1
  |some h2=>
   rw[hs]at h1
   simp only[ajE]at h1
   have h3:=Ph (X:=cx P mu hk n) (dw:=rg P mu hk n fn) (fun _ _ _=>rfl) b _ _ htb h1
   simp only[List.isEmpty_nil,if_true]
   cases hb:AB (cx P mu hk n) (rg P mu hk n fn) fn (some l) n b ⟨lM,[],h2⟩with
   |none=>rw[hb]at h3;cases h3
   |some r=>rw[hb]at h3;unfold iZ at h3;exact h3
def loops:Code->List Code
 | .seq a b=>loops a++loops b
 | .cond _ a b=>loops a++loops b
 | .block _ b=>loops b
 | .loop b=>b::loops b
 | .scope b=>loops b
 | .rangeFunc _ _ a b=>loops a++loops b
 |_=>[]
def agj(c:Code)(i:Nat):Code:=(loops c).getD i .skip
def codeOf(fn:Func):Code:=match fn.body with|some c=>c|none=> .skip
end Go.Sk
namespace Go.Sk
def eF.join(ρ ρ1:eF)(n:Nat):eF:={ ρ with fQ:=fun b o=>if b<n then ρ.fQ b o else ρ1.fQ b o }
theorem Rel.sP{ρ:eF}{h:AH}{w:World}(hR:Rel ρ h w){b o:Nat}{v:Value}(he:ρ.fQ b o=some v):b<w.heap.size:=by
 have:=hR.fQ b o v he
 unfold World.cell? at this
 rcases ajO b w.heap.size with q|q
 ·exact q
 ·simp only[akm q]at this;cases this
theorem eF.ny{ρ ρ1:eF}{h:AH}{w:World}(hR:Rel ρ h w):ρ.le (ρ.join ρ1 w.heap.size):=
 ⟨rfl,fun _ _ h=>h,fun _ _ _ h=>h,fun b o v he=>by
  simp only[eF.join]
  rw[if_pos (hR.sP he)];exact he,fun _ _ h=>h⟩
theorem Rel.join{ρ ρ1:eF}{h h1:AH}{w w1:World}(hR0:Rel ρ h w)(hg:iM w w1)(jI:Rel ρ1 h1 w1):Rel (ρ.join ρ1 w.heap.size) h w1:=by
 have hR:=hR0.grew hg
 have hle:=eF.ny (ρ1:=ρ1) hR0
 constructor
 ·intro r o b h1 h2;exact(hR.obj r o b h1 h2).mono hle
 ·exact hR.bound
 ·exact hR.inj
 ·exact hR.dom
 ·intro g e b c h1 h2
  obtain⟨p1,p2,p3,p4⟩:=hR.fD g e b c h1 h2
  refine⟨p1,p2,fun o v q=>?_,p4⟩
  have hlt:b<w.heap.size:=(hR0.gW g e _ h2).2
  simp only[eF.join,if_pos hlt]at q
  exact p3 o v q
 ·exact hR.gW
 ·exact hR.iL
 ·exact hR.gone
 ·exact hR.iR
 ·intro b o v q
  simp only[eF.join]at q
  split at q
  ·exact hR.fQ b o v q
  ·exact jI.fQ b o v q
 ·intro b o v q
  simp only[eF.join]at q
  split at q
  ·exact hR.one b o v q
  ·exact jI.one b o v q
 ·intro b o v r q h1
  have hlt:b<w.heap.size:=(hR0.bound r b h1).2.1
  simp only[eF.join,if_pos hlt]at q
  exact hR.iP b o v r q h1
 ·exact hR.iW
 ·exact hR.iT
theorem Stp.join{ρ ρ1:eF}{h:AH}{w w1:World}(hR0:Rel ρ h w)(hg:iM w w1):Stp ρ h w (ρ.join ρ1 w.heap.size) h w1 where
 le:=eF.ny hR0
 next:=ab5 _
 os:=hg.os
 tape:=hg.tape
 output:=hg.output
 size:=hg.size
 kept:=fun k hk _=>hg.block k hk
 own:=fun _ _ h=>h
 old:=fun _ _ _ e=>e
 fQ:=fun b o v hb e=>by
  simp only[eF.join,if_pos hb]at e
  exact .inl e
theorem acg{E:Ev}(hE:Bh E){n:Nat}{k:FuncId}{args:List AV}{v:AV}{h':AH}(he:Af E n (.func k) (Cv args) .empty=some (.ret v,h')){ρ:eF}{h:AH}{w:World}{eD:List Value}
  (hR:Rel ρ h w) (ha:dz ρ args eD) (hf:Bz args=true) (hv:BK v=true):QB E.P k/\Calls E.P k eD.toArray w (D6 ρ h w (.ret (AU v)) h):=by
 have hl:dz (ρ.hide w.heap.size) (Cv args) eD:=⟨by rw[BF];exact ha.1,fun i hi hj=>by
  have hi':i<args.length:=by rw[BF]at hi;exact hi
  rw[EI args i hi']
  exact(ha.2 i hi' hj).hide (Fg hf i hi')⟩
 obtain⟨hk,hc⟩:=(X8 hE n).func k (Cv args) .empty _ h' he (ρ.hide w.heap.size) w eD hR.hide (ab5 _) hl
 refine⟨hk,hc.mono fun e w' hp=>?_⟩
 cases e with
 |returned cv=>
  obtain⟨av,ρ',h1,h2,h3,h4⟩:=hp
  simp only[Ar.ret.injEq]at h1;subst h1
  have hno:∀b,b<w.heap.size->¬Own (ρ.hide w.heap.size) .empty b:=fun b hb ho=>by
   have:=ho.base hR.hide;have e:(ρ.hide w.heap.size).base=w.heap.size:=rfl;omega
  have hg:iM w w':=⟨h4.os,h4.tape,h4.output,h4.size,fun k hk=>h4.kept k hk (hno k hk)⟩
  refine⟨AU v,ρ.join ρ' w.heap.size,rfl,h2.mM (fun b o u q=>?_) hv,hR.join hg h3,Stp.join hR hg⟩
  simp only[eF.join]
  split
  ·rename_i hb
   exact(h4.fQ b o u hb q).elim (fun x=>x) (fun x=>(hno b hb x).elim)
  ·exact q
 |panicked ch=>obtain⟨av,cv,ρ',h1,_⟩:=hp;cases h1
 |outgrown=>exact hp.elim
theorem Fa{P:Program}{mu:FuncId->Nat->Bool}{hk:Am}{f:FuncId}{s:List AV->Option AV}(hE:Bh (Aj P mu hk))
  (hs:∀args v,s args=some v->∃u,BK u=true/\v=AU u/\∃n h',Af (Aj P mu hk) n (.func f) args .empty=some (.ret u,h')):Bh (Aj P mu (AP hk f s)) where
 hk:=fun g args hh v hh' h ρ w eD hR hb ha=>by
  by_cases hg:g=f
  ·subst hg
   obtain⟨hfr,h',rfl⟩:=LX h
   obtain⟨u,p2,rfl,n,h1,he⟩:=hs _ v h'
   exact acg hE he hR ha hfr p2
  ·have h':hk g args hh=some (v,hh'):=by rw[<-Jm hk s args hh hg];exact h
   exact hE.hk g args hh v hh' h' ρ w eD hR hb ha
 ng:=hE.ng
 dw:=hE.dw
end Go.Sk
namespace Go.Sk
def Grow(h:AH)(l:AV)(xs:List AV):Prop:=
 (l= .aj/\xs=[])\/∃g,l= .eP xs (.own g xs.length)/\xs≠[]/\h.get g=some (.fD xs.length)/\g.nat<h.next.nat
def Gv:AV->Option Id
 | .eP _ (.own g _)=>some g
 |_=>none
theorem LC{P:Program}{types:Array TypeId}{t tx:TypeId}{elem:TypeId}{d:TypeDesc}{l x z:AV}{xs ys:List AV}{h:AH}{n:Nat}
  (h0:types[0]?=some t) (h1:types[1]?=some tx) (ht:P.underlying t=some (.slice elem)) (htx:P.underlying tx=some d) (hd:∀k,d≠ .int k)
  (hx:Df P elem x h=some ys) (hn:sizeT P elem=some n) (hz:BL P elem=some z) (hn0:n≠0) (hzn:z.cells.length=n) (hzs:z.cells.all AV.scalar=true)
  (hy:ys≠[]) (uS:Bj n ys=true) (hhx:Bj n xs=true) (hl:Grow h l xs)
  (hb:(xs.length+ys.length)*P.bytesOf elem<=140737488355328) (hb2:xs.length+ys.length<=140737488355328) :
  ∃l' h',Bg P false types l x h=some (l',h')/\Grow h' l' (xs++ys)/\h.next.nat<=h'.next.nat/\(∀q o,h.get q=some o->Gv l≠some q->q.nat<h.next.nat->h'.get q=some o):=by
 have hyl:ys.length≠0:=fun e=>hy (aan e)
 unfold Bg
 simp only[h0,h1,ht,htx]
 rcases hl with⟨rfl,rfl⟩|⟨g,rfl,hxs,hg,hgn⟩
 ·refine⟨.eP ys (.own h.next ys.length),h.alloc (.fD ys.length),?_,.inr ⟨h.next,by simp,by simpa using hy,by simp[AH.au],by simp[AH.bn,Id.eB]⟩,by simp[AH.bn,Id.eB],fun q o hq _ hlt=>?_⟩
  ·cases d<;>first|exact absurd rfl (hd _)|skip
   all_goals (simp only[hx,hn,hz];simp_all;try omega)
  ·rw[AH.au,if_neg];exact hq
   rintro rfl;omega
 ·have hxl:xs.length≠0:=fun e=>hxs (aan e)
  refine⟨.eP (xs++ys) (.own g (xs.length+ys.length)),h.set g (.fD (xs.length+ys.length)),?_,.inr ⟨g,by simp,by simp[hxs],by simp[AH.ak],by simpa[AH.fE]using hgn⟩,by simp[AH.fE],fun q o hq hne _=>?_⟩
  ·cases d<;>first|exact absurd rfl (hd _)|skip
   all_goals (simp only[hx,hn,hz];simp_all;try omega)
  ·rw[AH.ak,if_neg];exact hq
   rintro rfl;exact hne rfl
theorem A8{P:Program}{t T:TypeId}{r:Id}{off n:Nat}{h:AH}{cs:List AV}{v:AV}(hg:h.get r=some (.cells cs T))(ha:EM P t=some false)(hn:sizeT P t=some n)(hv:cs[off]?=some v) :
  eX h (Av P t (.ptr r off) h)=some (.ret v,h):=by
 simp only[Av,hg,ha,hn,hv,eX]
theorem Dr{P:Program}{t T:TypeId}{r:Id}{off n:Nat}{h:AH}{cs:List AV}(hg:h.get r=some (.cells cs T))(ha:EM P t=some true)(hn:sizeT P t=some n)(hv:off+n<=cs.length) :
  eX h (Av P t (.ptr r off) h)=some (.ret (.agg ((cs.drop off).take n)),h):=by
 simp only[Av,hg,ha,hn,if_pos hv,eX]
theorem Et{P:Program}{t T:TypeId}{r:Id}{off n:Nat}{h:AH}{cs:List AV}{v:AV}(hg:h.get r=some (.cells cs T))(hn:sizeT P t=some n)(hv:v.cells.length=n)(ho:off+n<=cs.length)(hs:v.cells.all AV.scalar=true) :
  iy (Cg P t (.ptr r off) v h)=iy (some (h.set r (.cells (setCells cs off v.cells) T))):=by
 simp only[Cg,hg,hn,if_pos (And.intro hv (And.intro ho hs))]
theorem CG{T:TypeId}{v:AV}{h:AH}{cs:List AV}(hc:v.cells=cs)(hs:cs.all AV.scalar=true):CS (LQ T v h)=some (.ret (.ptr h.next 0),h.alloc (.cells cs T)):=by
 subst hc
 simp only[LQ,if_pos hs,CS]
end Go.Sk
namespace Go.Sk
open Go.RowKit Go.ChangeShapes Go.WideShapes
section
variable{H:Type}{enc:TypeId × Value->H}{P:Program}{w:World}{base:Nat}
end
end Go.Sk
namespace Go.Sk
def jc(X:Cx)(fn:FuncId)(ops:Array Oper)(St:AH->Prop)(tm:List AV):List Nat->Prop
 |[]=>True
 |j::r=>(match ops[j]? with
  |some o=>(match Bd X.P (o.dst.any (X.mu fn)) o.op with
   | .read=>BS ops tm o=true->∀hh,St hh->∃h2,Ci X fn tm o hh=some (.ret (match o.dst with|some d=>tm.getD d Ak|none=>Ak),h2)
   |_=>True)
  |none=>True)/\jc X fn ops St tm r
theorem jc.get{X:Cx}{fn:FuncId}{ops:Array Oper}{St:AH->Prop}{tm:List AV}:∀{L:List Nat},jc X fn ops St tm L->∀j∈L,∀o,ops[j]?=some o->Bd X.P (o.dst.any (X.mu fn)) o.op= .read->BS ops tm o=true->∀hh,St hh->
  ∃h2,Ci X fn tm o hh=some (.ret (match o.dst with|some d=>tm.getD d Ak|none=>Ak),h2)
 |[],_,j,hj,_,_,_,_,_,_=>by cases hj
 |i::r,h,j,hj,o,ho,hk,hw,hh,hs=>by
  rcases acD.1 hj with rfl|hj
  ·have:=h.1
   simp only[ho,hk]at this
   exact this hw hh hs
  ·exact h.2.get j hj o ho hk hw hh hs
open Classical in
@[irreducible] noncomputable def qB {α:Type} (p:Prop) (x:Option α):Option α:=if p then x else none
theorem Ws{α:Type}{Q:Option α->Prop}{p:Prop}{x:Option α}(hp:p)(hy:Q x):Q (qB p x):=by unfold qB;rw[if_pos hp];exact hy
theorem Y4{α:Type}{p:Prop}{x:Option α}{y:α}(h:qB p x=some y):p/\x=some y:=by
 unfold qB at h
 split at h
 ·rename_i hp;exact⟨hp,h⟩
 ·cases h
section
variable{α:Type}
end
end Go.Sk
namespace Go.Sk
def WG(T:List Nat)(E:List Dk)(h:AH)(A:List GL):Prop:=
 (∀a∈A,AO.beq a.obj a.obj=true/\∀k,k<=E.length->poss T E a.j k=true->a.q<=k/\(fM E h k).get a.r=some a.obj)/\GV A=true
def XD(X:Cx)(fn:FuncId)(ops:Array Oper)(T:List Nat)(E:List Dk)(all:List Nat)(k:Nat):Bool:=
 all.any fun j=>(match ops[j]? with|some o=>(match Bd X.P (o.dst.any (X.mu fn)) o.op with| .read=>poss T E j k|_=>false)|none=>false)
def zw(X:Cx)(fn:FuncId)(ops:Array Oper)(T:List Nat)(E:List Dk)(h:AH)(St:AH->Prop)(all:List Nat):Prop:=
 ∀k,k<=E.length->XD X fn ops T E all k=true->St (fM E h k)
theorem Yi{X:Cx}{fn:FuncId}{ops:Array Oper}{pl:Plan}(hpl:Gc X.P (X.mu fn) ops=some pl){St:AH->Prop}{tm tm':List AV}{df:List Id}{h h':AH}{E':List Dk}{A':List GL}
  (hst:jC X fn ops pl.ord ⟨tm,h,[],[]⟩=some ⟨tm',h',E',A'⟩) (hE:zw X fn ops pl.T E' h' St pl.ord) (hr:jc X fn ops St tm' pl.ord) (hA:WG pl.T E' h' A'):drawn X fn ops ⟨tm,df,h⟩=some (.normal,⟨tm',df,h'⟩):=by
 unfold drawn
 rw[hpl]
 simp only[hst]
 rw[if_pos]
 simp only[ajH,abB]
 have hops:∀j∈pl.ord,∃o,ops[j]?=some o:=by
  have:∀(L:List Nat) (s s':jP),jC X fn ops L s=some s'->∀j∈L,∃o,ops[j]?=some o:=by
   intro L
   induction L with
   |nil=>intro s s' _ j hj;cases hj
   |cons i r ih=>
    intro s s' hg j hj
    simp only[jC]at hg
    split at hg
    ·rename_i o ho
     split at hg
     ·rename_i s1 _
      rcases acD.1 hj with rfl|hj
      ·exact⟨o,ho⟩
      ·exact ih s1 s' hg j hj
     ·cases hg
    ·cases hg
  exact this _ _ _ hst
 refine .inr ⟨⟨Hf fun j hj=>?_,?_⟩,hA.2⟩
 ·obtain⟨o,ho⟩:=hops j hj
  refine⟨o,ho,?_⟩
  unfold GU
  simp only
  split
  ·rename_i hw
   split
   ·rename_i hk
    rw[ajz]
    intro k hkr
    simp only[ajD]at hkr
    cases hp:poss pl.T E' j k with
    |false=>simp
    |true=>
    have hrp:XD X fn ops pl.T E' pl.ord k=true:=by
     unfold XD
     rw[List.any_eq_true]
     exact⟨j,hj,by simp only[ho,hk,hp]⟩
    obtain⟨h2,hev⟩:=hr.get j hj o ho hk hw _ (hE k (by omega) hrp)
    rw[hev]
    simp only[ajH]
    right
    unfold KY
    cases hd:o.dst with
    |none=>rfl
    |some d=>
     simp only
     split
     ·rename_i u hu
      rw[aal,hu]
      exact AV.beq_refl _
     ·rfl
   ·rfl
  ·rfl
 ·rw[ajz]
  intro a ha
  unfold PY
  rw[ajz]
  intro k hk
  simp only[ajD]at hk
  obtain⟨h0,hA1⟩:=hA.1 a ha
  cases hp:poss pl.T E' a.j k with
  |false=>simp
  |true=>
   obtain⟨h1,h2⟩:=hA1 k (by omega) hp
   simp only[ak1,ak9,h2,decide_eq_true h1,akK]
   exact h0
theorem AO.nK(cs:List AV)(T:TypeId):AO.beq (.cells cs T) (.cells cs T)=true:=by
 simp[AO.beq,AV.gQ]
theorem VR{α:Type}:∃f:Option (AV × AO)->(AV->AO->Option α)->Option α,f=fun r k=>r.bind fun x=>k x.1 x.2:=⟨_,rfl⟩
noncomputable def Lr{α:Type}:Option (AV × AO)->(AV->AO->Option α)->Option α:=Classical.choose (VR (α:=α))
theorem Q7{α:Type}(r:Option (AV × AO))(k:AV->AO->Option α):Lr r k=r.bind fun x=>k x.1 x.2:=by unfold Lr;rw[Classical.choose_spec (VR (α:=α))]
theorem Vo{α:Type}{Q:Option α->Prop}{r:Option (AV × AO)}{k:AV->AO->Option α}{v:AV}{ob:AO}(hr:r=some (v,ob))(hy:Q (k v ob)):Q (Lr r k):=by
 rw[Q7,hr];exact hy
attribute [irreducible] Lr
section
variable{α:Type}
noncomputable def LK(sh:Bool)(X:Cx)(fn:FuncId)(ops:Array Oper)(T:List Nat)(St:AH->Prop)(all:List Nat)(ord:List Nat):List AV->AH->List Dk->List GL->(List AV->AH->Option α)->Option α:=
 List.rec (motive:=fun _=>List AV->AH->List Dk->List GL->(List AV->AH->Option α)->Option α)
  (fun tm h E A k=>qB (jc X fn ops St tm all/\zw X fn ops T E h St all/\WG T E h A) (k tm h))
  (fun j _ go tm h E A k=>
   match ops[j]? with
   |some o=>
    FJ ops tm o
     (fun tm=>
      match Bd X.P (o.dst.any (X.mu fn)) o.op with
      | .new=>Lr (newAt X.P tm o h.next) fun v ob=>Eu tm o.dst v fun tm=>go tm (h.alloc ob) E (A++[⟨j,h.next,ob,E.length⟩]) k
      | .gU=>lW sh X fn tm o h (fun v h'=>Eu tm o.dst v fun tm=>go tm h' (E++[⟨j,h,h'⟩]) A k) (fun _ _=>none)
      |_=>lW sh X fn tm o h (fun v _=>Eu tm o.dst v fun tm=>go tm h E A k) (fun _ _=>none))
     (fun tm=>match Bd X.P (o.dst.any (X.mu fn)) o.op with
      | .gU=>Eu tm o.dst Ak fun tm=>go tm h (E++[⟨j,h,h⟩]) A k
      |_=>Eu tm o.dst Ak fun tm=>go tm h E A k)
   |none=>none) ord
theorem Kg{sh:Bool}{X:Cx}{fn:FuncId}{ops:Array Oper}{T:List Nat}{St:AH->Prop}{all:List Nat}{k:List AV->AH->Option α}{y:α}:∀{ord:List Nat} {tm:List AV} {h:AH} {E:List Dk} {A:List GL},LK sh X fn ops T St all ord tm h E A k=some y->
  ∃tm' h' E' A',jC X fn ops ord ⟨tm,h,E,A⟩=some ⟨tm',h',E',A'⟩/\jc X fn ops St tm' all/\zw X fn ops T E' h' St all/\WG T E' h' A'/\k tm' h'=some y
 |[],tm,h,E,A,he=>by
  obtain⟨⟨h1,h2,h3⟩,h4⟩:=Y4 (show qB (jc X fn ops St tm all/\zw X fn ops T E h St all/\WG T E h A) (k tm h)=some y from he)
  exact⟨tm,h,E,A,by simp[jC],h1,h2,h3,h4⟩
 |j::r,tm,h,E,A,he=>by
  have he:(match ops[j]? with
   |some o=>
    FJ ops tm o
     (fun tm=>
      match Bd X.P (o.dst.any (X.mu fn)) o.op with
      | .new=>Lr (newAt X.P tm o h.next) fun v ob=>Eu tm o.dst v fun tm=>LK sh X fn ops T St all r tm (h.alloc ob) E (A++[⟨j,h.next,ob,E.length⟩]) k
      | .gU=>lW sh X fn tm o h (fun v h'=>Eu tm o.dst v fun tm=>LK sh X fn ops T St all r tm h' (E++[⟨j,h,h'⟩]) A k) (fun _ _=>none)
      |_=>lW sh X fn tm o h (fun v _=>Eu tm o.dst v fun tm=>LK sh X fn ops T St all r tm h E A k) (fun _ _=>none))
     (fun tm=>match Bd X.P (o.dst.any (X.mu fn)) o.op with
      | .gU=>Eu tm o.dst Ak fun tm=>LK sh X fn ops T St all r tm h (E++[⟨j,h,h⟩]) A k
      |_=>Eu tm o.dst Ak fun tm=>LK sh X fn ops T St all r tm h E A k)
   |none=>none)=some y:=he
  simp only[jC]
  cases ho:ops[j]? with
  |none=>rw[ho]at he;cases he
  |some o=>
  rw[ho]at he
  simp only[IE,RP,Q7]at he
  unfold Gs
  simp only
  split at he
  ·rename_i hw
   rw[if_pos hw]
   cases hk:Bd X.P (o.dst.any (X.mu fn)) o.op<;>rw[hk]at he<;>simp only at he ⊢
   case new=>
    cases hn:newAt X.P tm o h.next with
    |none=>rw[hn]at he;cases he
    |some x=>
     obtain⟨v,ob⟩:=x
     rw[hn]at he
     simp only[ajE,ER]at he ⊢
     exact Kg he
   all_goals
    cases hev:Ci X fn tm o h with
    |none=>rw[hev]at he;cases he
    |some x=>
     obtain⟨x,h'⟩:=x
     rw[hev]at he
     cases x with
     |iY v=>cases he
     |ret v=>
      simp only[Dm,Ea,ER]at he ⊢
      exact Kg he
  ·rename_i hw
   rw[if_neg hw]
   cases hk:Bd X.P (o.dst.any (X.mu fn)) o.op<;>rw[hk]at he<;>simp only[ER]at he ⊢
   all_goals exact Kg he
theorem QS(sh:Bool)(St:AH->Prop){X:Cx}{fn:FuncId}{ops:Array Oper}{T:List Nat}{ord:List Nat}{r:Option (Bo × fO)}(hpl:Gc X.P (X.mu fn) ops=some ⟨ord,T⟩){tm:List AV}{df:List Id}{h:AH}{k:KC α}{Q:Option α->Prop}
  (hr:r=drawn X fn ops ⟨tm,df,h⟩) (hn:¬Q none) (hy:Q (LK sh X fn ops T St ord ord tm h [] [] fun tm' h'=>k .normal ⟨tm',df,h'⟩)):Q (jY r k):=by
 unfold jY
 rw[hr]
 cases hc:LK sh X fn ops T St ord ord tm h [] [] fun tm' h'=>k .normal ⟨tm',df,h'⟩with
 |none=>rw[hc]at hy;exact absurd hy hn
 |some y=>
  obtain⟨tm',h',E',A',q1,q2,q3,q5,q6⟩:=Kg hc
  rw[Yi hpl q1 q3 q2 q5]
  rw[hc]at hy
  simp only[ajE,q6]
  exact hy
end
end Go.Sk
namespace Go.Sk
def GA(tm:List AV)(o:Oper):AV:=match o.dst with|some d=>tm.getD d Ak|none=>Ak
def afG(m i:Nat):Bool:=Nat.beq (Nat.mod (Nat.div m (Nat.pow 2 i)) 2) 1
theorem Y0(m i:Nat):afG m i=m.testBit i:=by
 rw[Nat.testBit_eq_decide_div_mod_eq]
 show Nat.beq (m / 2 ^ i % 2) 1=decide (m / 2 ^ i % 2=1)
 cases h:Nat.beq (m / 2 ^ i % 2) 1 with
 |true=>exact(decide_eq_true (ajW h)).symm
 |false=>exact(decide_eq_false (Nat.ne_of_beq_eq_false h)).symm
def RG(n:Nat)(k:Nat->Bool):Bool:=match n with
 |0=>k 0
 |n+1=>k (n+1)
theorem Uu(n:Nat)(k:Nat->Bool):RG n k=k n:=by cases n<;>rfl
def JK(T:List Nat)(j:Nat):List Dk->Nat->Bool
 |[],_=>true
 |e::r,0=>(RG e.j fun i=>RG j fun j=>!afG (T.getD j 0) i)&&JK T j r 0
 |e::r,k+1=>(RG e.j fun i=>RG j fun j=>!afG (T.getD i 0) j)&&JK T j r k
theorem NS(T:List Nat)(j:Nat):∀(E:List Dk) (k:Nat),JK T j E k=poss T E j k
 |[],k=>by simp[JK,poss]
 |e::r,0=>by simp[JK,NS T j r 0,poss,Y0,Uu]
 |e::r,k+1=>by simp[JK,NS T j r k,poss,Y0,Uu,Bool.and_assoc]
def XK(X:Cx)(fn:FuncId)(tm:List AV)(o:Oper)(h:AH)(v:AV):Prop:=
 match o.op with
 | .load t a=>(match Ay tm a with|some p=>eX h (Av X.P t p h)=some (.ret v,h)|none=>False)
 | .lookup t m k ok=>(match Ay tm m,Ay tm k with|some a,some b=>eX h (D9 X.P t a b ok h)=some (.ret v,h)|_,_=>False)
 | .call c=>(match c.callee,Dh tm c.args.toList with| .builtin b,some args=>Bt X (o.dst.any (X.mu fn)) b c.argTypes args h=some (.ret v,h)|_,_=>False)
 |_=>Ci X fn tm o h=some (.ret v,h)
theorem aaH{X:Cx}{fn:FuncId}{tm:List AV}{o:Oper}{h:AH}{v:AV}(hr:XK X fn tm o h v):Ci X fn tm o h=some (.ret v,h):=by
 unfold XK at hr
 split at hr
 ·rename_i t a ho
  split at hr
  ·rename_i p hp;unfold Ci;rw[ho];simp only[hp];exact hr
  ·cases hr
 ·rename_i t m k ok ho
  split at hr
  ·rename_i a b h1 h2;unfold Ci;rw[ho];simp only[h1,h2];exact hr
  ·cases hr
 ·rename_i c ho
  split at hr
  ·rename_i b args h1 h2;unfold Ci;rw[ho];simp only[I6,h1,h2];exact hr
  ·cases hr
 ·exact hr
def NZ(X:Cx)(fn:FuncId)(T:List Nat)(tm:List AV)(E:List Dk)(h:AH)(j:Nat)(o:Oper)(a:Prop):List Nat->Prop
 |[]=>a
 |k::r=>match JK T j E k with
  |true=>XK X fn tm o (fM E h k) (GA tm o)/\NZ X fn T tm E h j o a r
  |false=>NZ X fn T tm E h j o a r
def Hg(X:Cx)(fn:FuncId)(ops:Array Oper)(T:List Nat)(tm:List AV)(E:List Dk)(h:AH)(ks:List Nat)(a:Prop):List Nat->Prop
 |[]=>a
 |j::r=>match ops[j]? with
  |some o=>(match Bd X.P (o.dst.any (X.mu fn)) o.op with
   | .read=>(match BS ops tm o with|true=>NZ X fn T tm E h j o (Hg X fn ops T tm E h ks a r) ks|false=>Hg X fn ops T tm E h ks a r)
   |_=>Hg X fn ops T tm E h ks a r)
  |none=>Hg X fn ops T tm E h ks a r
def Ro(T:List Nat)(E:List Dk)(h:AH)(n:GL)(a:Prop):List Nat->Prop
 |[]=>a
 |k::r=>match JK T n.j E k with
  |true=>(n.q<=k/\(fM E h k).get n.r=some n.obj)/\Ro T E h n a r
  |false=>Ro T E h n a r
def Sj(n:GL)(a:Prop):List GL->Prop
 |[]=>a
 |b::r=>n.r≠b.r/\Sj n a r
def VF(T:List Nat)(E:List Dk)(h:AH)(ks:List Nat):List GL->Prop
 |[]=>True
 |n::r=>AO.beq n.obj n.obj=true/\Ro T E h n (Sj n (VF T E h ks r) r) ks
def zx(X:Cx)(fn:FuncId)(ops:Array Oper)(T:List Nat)(tm:List AV)(E:List Dk)(h:AH)(A:List GL)(all:List Nat):Prop:=
 Hg X fn ops T tm E h (List.range (E.length+1)) (VF T E h (List.range (E.length+1)) A) all
theorem Ka{X:Cx}{fn:FuncId}{T:List Nat}{tm:List AV}{E:List Dk}{h:AH}{j:Nat}{o:Oper}{a:Prop}:∀{ks:List Nat},NZ X fn T tm E h j o a ks->a/\∀k∈ks,JK T j E k=true->∃h2,Ci X fn tm o (fM E h k)=some (.ret (GA tm o),h2)
 |[],ha=>⟨ha,fun k hk=>by cases hk⟩
 |k::r,ha=>by
  unfold NZ at ha
  split at ha
  ·obtain⟨h1,h2⟩:=Ka ha.2
   exact⟨h1,fun i hi hp=>by rcases acD.1 hi with rfl|hi;exact⟨_,aaH ha.1⟩;exact h2 i hi hp⟩
  ·rename_i hf
   obtain⟨h1,h2⟩:=Ka ha
   exact⟨h1,fun i hi hp=>by
    rcases acD.1 hi with rfl|hi
    ·rw[hf]at hp;cases hp
    ·exact h2 i hi hp⟩
theorem M0{X:Cx}{fn:FuncId}{ops:Array Oper}{T:List Nat}{tm:List AV}{E:List Dk}{h:AH}{ks:List Nat}{a:Prop}:∀{L:List Nat},Hg X fn ops T tm E h ks a L->
  a/\∀j∈L,∀o,ops[j]?=some o->Bd X.P (o.dst.any (X.mu fn)) o.op= .read->BS ops tm o=true->∀k∈ks,JK T j E k=true->∃h2,Ci X fn tm o (fM E h k)=some (.ret (GA tm o),h2)
 |[],ha=>⟨ha,fun k hk=>by cases hk⟩
 |j::r,ha=>by
  have key:Hg X fn ops T tm E h ks a r->(∀o,ops[j]?=some o->Bd X.P (o.dst.any (X.mu fn)) o.op= .read->BS ops tm o=true->∀k∈ks,JK T j E k=true->∃h2,Ci X fn tm o (fM E h k)=some (.ret (GA tm o),h2))->
    a/\∀i∈j::r,∀o,ops[i]?=some o->Bd X.P (o.dst.any (X.mu fn)) o.op= .read->BS ops tm o=true->∀k∈ks,JK T i E k=true->∃h2,Ci X fn tm o (fM E h k)=some (.ret (GA tm o),h2):=fun hr hj=>by
   obtain⟨h1,h2⟩:=M0 hr
   exact⟨h1,fun i hi=>by rcases acD.1 hi with rfl|hi;exact hj;exact h2 i hi⟩
  unfold Hg at ha
  split at ha
  ·rename_i o ho
   split at ha
   ·rename_i hk
    split at ha
    ·rename_i hw
     obtain⟨h1,h2⟩:=Ka ha
     exact key h1 fun o2 ho2 _ _ k hk hp=>by rw[ho]at ho2;cases ho2;exact h2 k hk hp
    ·rename_i hw
     exact key ha fun o2 ho2 _ hw2=>by rw[ho]at ho2;cases ho2;rw[hw]at hw2;cases hw2
   ·rename_i hk
    exact key ha fun o2 ho2 hk2=>by rw[ho]at ho2;cases ho2;exact absurd hk2 hk
  ·rename_i ho
   exact key ha fun o2 ho2=>by rw[ho]at ho2;cases ho2
theorem K9{T:List Nat}{E:List Dk}{h:AH}{n:GL}{a:Prop}:∀{ks:List Nat},Ro T E h n a ks->a/\∀k∈ks,JK T n.j E k=true->n.q<=k/\(fM E h k).get n.r=some n.obj
 |[],ha=>⟨ha,fun k hk=>by cases hk⟩
 |k::r,ha=>by
  unfold Ro at ha
  split at ha
  ·obtain⟨h1,h2⟩:=K9 ha.2
   exact⟨h1,fun i hi hp=>by rcases acD.1 hi with rfl|hi;exact ha.1;exact h2 i hi hp⟩
  ·rename_i hf
   obtain⟨h1,h2⟩:=K9 ha
   exact⟨h1,fun i hi hp=>by
    rcases acD.1 hi with rfl|hi
    ·rw[hf]at hp;cases hp
    ·exact h2 i hi hp⟩
theorem MR{n:GL}{a:Prop}:∀{L:List GL},Sj n a L->a/\∀b∈L,n.r≠b.r
 |[],ha=>⟨ha,fun b hb=>by cases hb⟩
 |b::r,ha=>by
  obtain⟨h1,h2⟩:=MR ha.2
  exact⟨h1,fun c hc=>by rcases acD.1 hc with rfl|hc;exact ha.1;exact h2 c hc⟩
theorem NV{T:List Nat}{E:List Dk}{h:AH}:∀{A:List GL},VF T E h (List.range (E.length+1)) A->WG T E h A
 |[],_=>⟨fun a ha=>(by cases ha),rfl⟩
 |n::r,ha=>by
  obtain⟨h1,h2⟩:=K9 ha.2
  obtain⟨h3,h4⟩:=MR h1
  obtain⟨h5,h6⟩:=NV h3
  refine⟨fun b hb=>?_,?_⟩
  ·rcases acD.1 hb with rfl|hb
   ·exact⟨ha.1,fun k hk hp=>h2 k (by simp;omega) (by rw[NS];exact hp)⟩
   ·exact h5 b hb
  ·unfold GV
   rw[h6,Bool.and_true,ajz]
   intro b hb;exact decide_eq_true (h4 b hb)
theorem ac5{X:Cx}{fn:FuncId}{ops:Array Oper}{pl:Plan}(hpl:Gc X.P (X.mu fn) ops=some pl){tm tm':List AV}{df:List Id}{h h':AH}{E':List Dk}{A':List GL}
  (hst:jC X fn ops pl.ord ⟨tm,h,[],[]⟩=some ⟨tm',h',E',A'⟩) (ho:zx X fn ops pl.T tm' E' h' A' pl.ord):drawn X fn ops ⟨tm,df,h⟩=some (.normal,⟨tm',df,h'⟩):=by
 obtain⟨hA,hR⟩:=M0 ho
 replace hA:=NV hA
 unfold drawn
 rw[hpl]
 simp only[hst]
 rw[if_pos]
 simp only[ajH,abB]
 have hops:∀j∈pl.ord,∃o,ops[j]?=some o:=by
  have:∀(L:List Nat) (s s':jP),jC X fn ops L s=some s'->∀j∈L,∃o,ops[j]?=some o:=by
   intro L
   induction L with
   |nil=>intro s s' _ j hj;cases hj
   |cons i r ih=>
    intro s s' hg j hj
    simp only[jC]at hg
    split at hg
    ·rename_i o ho
     split at hg
     ·rename_i s1 _
      rcases acD.1 hj with rfl|hj
      ·exact⟨o,ho⟩
      ·exact ih s1 s' hg j hj
     ·cases hg
    ·cases hg
  exact this _ _ _ hst
 refine .inr ⟨⟨Hf fun j hj=>?_,?_⟩,hA.2⟩
 ·obtain⟨o,ho⟩:=hops j hj
  refine⟨o,ho,?_⟩
  unfold GU
  simp only
  split
  ·rename_i hw
   split
   ·rename_i hk
    rw[ajz]
    intro k hkr
    cases hp:poss pl.T E' j k with
    |false=>simp
    |true=>
    obtain⟨h2,hev⟩:=hR j hj o ho hk hw k hkr (by rw[NS];exact hp)
    rw[hev]
    simp only[ajH]
    right
    unfold KY GA
    cases hd:o.dst with
    |none=>rfl
    |some d=>
     simp only
     split
     ·rename_i u hu
      rw[aal,hu]
      exact AV.beq_refl _
     ·rfl
   ·rfl
  ·rfl
 ·rw[ajz]
  intro a ha
  unfold PY
  rw[ajz]
  intro k hk
  simp only[ajD]at hk
  obtain⟨h0,hA1⟩:=hA.1 a ha
  cases hp:poss pl.T E' a.j k with
  |false=>simp
  |true=>
   obtain⟨h1,h2⟩:=hA1 k (by omega) hp
   simp only[ak1,ak9,h2,decide_eq_true h1,akK]
   exact h0
section
variable{α:Type}
noncomputable def Kv(sh:Bool)(X:Cx)(fn:FuncId)(ops:Array Oper)(T:List Nat)(all:List Nat)(ord:List Nat):List AV->AH->List Dk->List GL->(List AV->AH->Option α)->Option α:=
 List.rec (motive:=fun _=>List AV->AH->List Dk->List GL->(List AV->AH->Option α)->Option α)
  (fun tm h E A k=>qB (zx X fn ops T tm E h A all) (k tm h))
  (fun j _ go tm h E A k=>
   match ops[j]? with
   |some o=>
    FJ ops tm o
     (fun tm=>
      match Bd X.P (o.dst.any (X.mu fn)) o.op with
      | .new=>Lr (newAt X.P tm o h.next) fun v ob=>Eu tm o.dst v fun tm=>go tm (h.alloc ob) E (A++[⟨j,h.next,ob,E.length⟩]) k
      | .gU=>lW sh X fn tm o h (fun v h'=>Eu tm o.dst v fun tm=>go tm h' (E++[⟨j,h,h'⟩]) A k) (fun _ _=>none)
      |_=>lW sh X fn tm o h (fun v _=>Eu tm o.dst v fun tm=>go tm h E A k) (fun _ _=>none))
     (fun tm=>match Bd X.P (o.dst.any (X.mu fn)) o.op with
      | .gU=>Eu tm o.dst Ak fun tm=>go tm h (E++[⟨j,h,h⟩]) A k
      |_=>Eu tm o.dst Ak fun tm=>go tm h E A k)
   |none=>none) ord
theorem J2{sh:Bool}{X:Cx}{fn:FuncId}{ops:Array Oper}{T:List Nat}{all:List Nat}{k:List AV->AH->Option α}{y:α}:∀{ord:List Nat} {tm:List AV} {h:AH} {E:List Dk} {A:List GL},Kv sh X fn ops T all ord tm h E A k=some y->
  ∃tm' h' E' A',jC X fn ops ord ⟨tm,h,E,A⟩=some ⟨tm',h',E',A'⟩/\zx X fn ops T tm' E' h' A' all/\k tm' h'=some y
 |[],tm,h,E,A,he=>by
  obtain⟨h1,h4⟩:=Y4 (show qB (zx X fn ops T tm E h A all) (k tm h)=some y from he)
  exact⟨tm,h,E,A,by simp[jC],h1,h4⟩
 |j::r,tm,h,E,A,he=>by
  have he:(match ops[j]? with
   |some o=>
    FJ ops tm o
     (fun tm=>
      match Bd X.P (o.dst.any (X.mu fn)) o.op with
      | .new=>Lr (newAt X.P tm o h.next) fun v ob=>Eu tm o.dst v fun tm=>Kv sh X fn ops T all r tm (h.alloc ob) E (A++[⟨j,h.next,ob,E.length⟩]) k
      | .gU=>lW sh X fn tm o h (fun v h'=>Eu tm o.dst v fun tm=>Kv sh X fn ops T all r tm h' (E++[⟨j,h,h'⟩]) A k) (fun _ _=>none)
      |_=>lW sh X fn tm o h (fun v _=>Eu tm o.dst v fun tm=>Kv sh X fn ops T all r tm h E A k) (fun _ _=>none))
     (fun tm=>match Bd X.P (o.dst.any (X.mu fn)) o.op with
      | .gU=>Eu tm o.dst Ak fun tm=>Kv sh X fn ops T all r tm h (E++[⟨j,h,h⟩]) A k
      |_=>Eu tm o.dst Ak fun tm=>Kv sh X fn ops T all r tm h E A k)
   |none=>none)=some y:=he
  simp only[jC]
  cases ho:ops[j]? with
  |none=>rw[ho]at he;cases he
  |some o=>
  rw[ho]at he
  simp only[IE,RP,Q7]at he
  unfold Gs
  simp only
  split at he
  ·rename_i hw
   rw[if_pos hw]
   cases hk:Bd X.P (o.dst.any (X.mu fn)) o.op<;>rw[hk]at he<;>simp only at he ⊢
   case new=>
    cases hn:newAt X.P tm o h.next with
    |none=>rw[hn]at he;cases he
    |some x=>
     obtain⟨v,ob⟩:=x
     rw[hn]at he
     simp only[ajE,ER]at he ⊢
     exact J2 he
   all_goals
    cases hev:Ci X fn tm o h with
    |none=>rw[hev]at he;cases he
    |some x=>
     obtain⟨x,h'⟩:=x
     rw[hev]at he
     cases x with
     |iY v=>cases he
     |ret v=>
      simp only[Dm,Ea,ER]at he ⊢
      exact J2 he
  ·rename_i hw
   rw[if_neg hw]
   cases hk:Bd X.P (o.dst.any (X.mu fn)) o.op<;>rw[hk]at he<;>simp only[ER]at he ⊢
   all_goals exact J2 he
theorem adw(pl:Plan){X:Cx}{fn:FuncId}{ops:Array Oper}{r:Option (Bo × fO)}{tm:List AV}{df:List Id}{h:AH}{k:KC α}{Q:Option α->Prop}
  (hpl:Gc X.P (X.mu fn) ops=some pl) (hr:r=drawn X fn ops ⟨tm,df,h⟩) (hn:¬Q none) (hy:Q (Kv true X fn ops pl.T pl.ord pl.ord tm h [] [] fun tm' h'=>k .normal ⟨tm',df,h'⟩)):Q (jY r k):=by
 unfold jY
 rw[hr]
 cases hc:Kv true X fn ops pl.T pl.ord pl.ord tm h [] [] fun tm' h'=>k .normal ⟨tm',df,h'⟩with
 |none=>rw[hc]at hy;exact absurd hy hn
 |some y=>
  obtain⟨tm',h',E',A',q1,q2,q6⟩:=J2 hc
  rw[ac5 hpl q1 q2]
  rw[hc]at hy
  simp only[ajE,q6]
  exact hy
end
end Go.Sk
namespace Go.Sk
theorem OT{s:Nat}:∀{xs:List AV},(∀i (hi:i<xs.length),xs[i].cells.length=s)->∀i (hi:i<xs.length) j (hj:j<xs[i].cells.length),(flat xs)[i*s+j]?=some xs[i].cells[j]
 |[],_,i,hi=>by simp at hi
 |x::xs,h,i,hi=>by
  intro j hj
  have h0:x.cells.length=s:=by have:=h 0 (by simp);simpa using this
  rw[DU]
  cases i with
  |zero=>
   simp only[ajJ]at hj ⊢
   rw[ald,ajs,ajt hj,aae hj]
  |succ i=>
   simp only[List.getElem_cons_succ]at hj ⊢
   rw[adI (by rw[h0,ajP];omega),h0,show(i+1)*s+j - s=i*s+j by rw[ajP];omega]
   exact OT (fun k hk=>by have:=h (k+1) (by simpa using hk);simpa using this) i (by simpa using hi) j hj
end Go.Sk
namespace Go.Sk
inductive Fz (r:Id) (xs:List AV):AV->AV->Prop
 |refl (v:AV):Fz r xs v v
 |hit (len:Nat) (cap:Jb):xs.length=len->Fz r xs (.hsl r 0 len cap) (.eP xs .unk)
 |agg (cs us:List AV):cs.length=us.length->(∀i (h1:i<cs.length) (h2:i<us.length),Fz r xs cs[i] us[i])->Fz r xs (.agg cs) (.agg us)
 |eU (cs us:List AV):cs.length=us.length->(∀i (h1:i<cs.length) (h2:i<us.length),Fz r xs cs[i] us[i])->Fz r xs (.eU cs) (.eU us)
end Go.Sk
namespace Go.Sk
theorem adL{ρ:eF}{h:AH}{w:World}(h3:Rel ρ h w){r:Id}{xs:List AV}{T:TypeId}{s:Nat}(hg:h.get r=some (.cells (flat xs) T))(hxs:∀i (hi:i<xs.length),xs[i].cells.length=s) :
  ∃ρ2,ρ2.base=ρ.base/\Rel ρ2 (h.set r .dead) w/\Stp ρ h w ρ2 (h.set r .dead) w/\∀v u c,Fz r xs v u->bf ρ v c->bf ρ2 u c:=by
 have own:∀{ρ2:eF},ρ2.obj=ρ.obj->ρ2.fD=ρ.fD->∀b,Own ρ2 (h.set r .dead) b->Own ρ h b:=fun e1 e2 b ho=>by
  rcases ho with⟨q,o,h1,h2,h5⟩|⟨g,e,c,h1,h2⟩
  ·rw[AH.ak]at h2
   split at h2
   ·cases h2;exact h5.elim
   ·exact .inl ⟨q,o,by rw[<-e1];exact h1,h2,h5⟩
  ·rw[AH.ak]at h2
   split at h2
   ·cases h2
   ·exact .inr ⟨g,e,c,by rw[<-e2];exact h1,h2⟩
 cases hb:ρ.obj r with
 |none=>
  refine⟨ρ,rfl,h3.kill hg (by trivial:(AO.cells (flat xs) T).live),⟨ρ.le_refl,by rw[AH.fE];exact ab5 _,rfl,rfl,rfl,ab5 _,fun _ _ _=>rfl,fun b _ ho=>own rfl rfl b ho,fun _ _ _ e=>e,fun _ _ _ _ e=> .inl e⟩,fun v u c hf=>?_⟩
  induction hf generalizing c with
  |refl v=>exact fun h=>h
  |hit len cap hl=>intro h;cases h with|hsl _ _ _ _ b n h1 _ _=>rw[hb]at h1;cases h1
  |agg cs us hl _ ih=>intro h;cases h with|agg _ eG h1 hv=>exact .agg us eG (by omega) fun i hi hj=>ih i (by omega) hi _ (hv i (by omega) hj)
  |eU cs us hl _ ih=>intro h;cases h with|eU _ eG h1 hv=>exact .eU us eG (by omega) fun i hi hj=>ih i (by omega) hi _ (hv i (by omega) hj)
 |some b=>
  obtain⟨hbase,hlt,_⟩:=h3.bound r b hb
  obtain⟨eG,fr,hbl,hpre,hone,_⟩:=h3.obj r _ b hg hb
  have hni:∀o,ρ.fQ b o=none:=fun o=>by
   cases e:ρ.fQ b o with
   |none=>rfl
   |some v=>have:=h3.iP b o v r e hb;rw[hg]at this;cases this
  have vW:∀q,ρ.obj q=some b->(h.set r .dead).get q=some .dead:=fun q hq=>by
   rw[AH.ak]
   split
   ·rfl
   ·rename_i hne
    by_cases hd:h.get q=some .dead
    ·exact hd
    ·exact absurd (h3.inj q r b hq hb hd (by rw[hg];simp)) hne
  have jI:=(h3.kill hg (by trivial:(AO.cells (flat xs) T).live)).jh b 0 (flat xs).length (fun j=>eG.getD j Go.undef)
   (fun j hj=>by
    have hj':j<eG.length:=ajw hj hpre.1
    rw[ajs]
    simp[World.cell?,hbl,List.getD,hj'])
   (fun j hj=>by
    have hj':j<eG.length:=ajw hj hpre.1
    exact hone _ (by simp[List.getD,hj']))
   (fun o _ _=>hni o) vW
   (fun g e c' h5 h6=>by
    rw[AH.ak]at h5
    split at h5
    ·cases h5
    ·have:=(h3.fD g e b c' h5 h6).2.2.2 r hb
     rw[hg]at this;cases this)
  have aiq:∀o,o<(flat xs).length->(ρ.fK b 0 (flat xs).length fun j=>eG.getD j Go.undef).fQ b o=some (eG.getD o Go.undef):=fun o ho=>by
   have:=eF.gX ρ b 0 (flat xs).length (fun j=>eG.getD j Go.undef) o ho
   rwa [ajs]at this
  have hle:ρ.le (ρ.fK b 0 (flat xs).length fun j=>eG.getD j Go.undef):=eF.jw fun o _ _=>hni o
  have hfl:(flat xs).length=xs.length*s:=Bf hxs
  have hat:∀i (hi:i<xs.length) j (hj:j<xs[i].cells.length),bf ρ xs[i].cells[j] (eG.getD (i*s+j) Go.undef):=fun i hi j hj=>by
   have h7:=OT hxs i hi j hj
   obtain⟨x,hx,hv⟩:=hpre.find h7
   have:eG.getD (i*s+j) Go.undef=x:=by simp[List.getD,hx]
   rw[this];exact hv
  have hin:∀i j,i<xs.length->j<s->i*s+j<(flat xs).length:=fun i j hi hj=>by
   rw[hfl]
   have:(i+1)*s<=xs.length*s:=ajQ _ (by omega)
   rw[ajP]at this;omega
  refine⟨ρ.fK b 0 (flat xs).length fun j=>eG.getD j Go.undef,rfl,jI,⟨hle,by rw[AH.fE];exact ab5 _,rfl,rfl,rfl,ab5 _,fun _ _ _=>rfl,fun b _ ho=>own rfl rfl b ho,fun _ _ _ e=>e,fun b' o v _ e=>?_⟩,fun v u c hf=>?_⟩
  ·by_cases hne:b'=b
   ·subst hne;exact .inr (.inl ⟨r,_,hb,hg,by trivial⟩)
   ·exact .inl (by simpa[eF.fK,hne]using e)
  ·induction hf generalizing c with
   |refl v=>exact fun h=>h.mono hle
   |hit len cap hl=>
    intro h
    cases h with|hsl _ _ _ _ b' n h1 hn _=>
    rw[hb]at h1;cases h1
    subst hl
    refine .eP xs _ b 0 n s (fun i j=>eG.getD (i*s+j) Go.undef) hxs (fun i j hi hj=>?_) (fun i hi j hj=>(hat i hi j hj).mono hle) hn trivial
    rw[ajs];exact aiq _ (hin i j hi hj)
   |agg cs us hl _ ih=>intro h;cases h with|agg _ eG h1 hv=>exact .agg us eG (by omega) fun i hi hj=>ih i (by omega) hi _ (hv i (by omega) hj)
   |eU cs us hl _ ih=>intro h;cases h with|eU _ eG h1 hv=>exact .eU us eG (by omega) fun i hi hj=>ih i (by omega) hi _ (hv i (by omega) hj)
def mP(r:Id)(xs:List AV)(v:AV):AV:=match v with
 | .hsl q 0 len c=>if q=r/\xs.length=len then .eP xs .unk else .hsl q 0 len c
 |v=>v
def nL(r:Id)(xs:List AV)(v:AV):AV:=match v with
 | .agg cs=> .agg (cs.map (mP r xs))
 |v=>mP r xs v
theorem Fz.mP(r:Id)(xs:List AV)(v:AV):Fz r xs v (Sk.mP r xs v):=by
 unfold Sk.mP
 split
 ·rename_i q len c
  split
  ·rename_i h;obtain⟨rfl,h⟩:=h;exact .hit len c h
  ·exact .refl _
 ·exact .refl _
theorem Fz.nL(r:Id)(xs:List AV)(v:AV):Fz r xs v (Sk.nL r xs v):=by
 unfold Sk.nL
 split
 ·rename_i cs
  exact .agg _ _ (by simp) fun i h1 h2=>by rw[aj4];exact .mP r xs _
 ·exact .mP r xs _
def zy:AV->Option Id
 | .hsl r _ _ _=>some r
 |_=>none
def vX:AV->Option Id
 | .agg cs=>cs.findSome? zy
 |v=>zy v
def Y9:AV->Bool
 | .agg _=>false
 |_=>true
theorem Qk{v:AV}(h:Y9 v=true):v.cells=[v]:=by cases v<;>first|rfl|(simp[Y9]at h)
theorem VK:∀{cs:List AV},cs.all Y9=true->flat cs=cs
 |[],_=>rfl
 |v::r,h=>by
  simp only[acy,abB]at h
  have:=VK h.2
  unfold flat at this ⊢
  rw[akc,Qk h.1,this];rfl
def J9:Nat->List AV->AH->Option (List AV × AH)
 |0,args,h=>some (args,h)
 |n+1,args,h=>match args.findSome? vX with
  |none=>some (args,h)
  |some r=>match h.get r with
   |some (.cells cs _)=>if cs.all Y9=true then J9 n (args.map (nL r cs)) (h.set r .dead)else none
   |_=>none
theorem R9:∀(n:Nat) {args args':List AV} {h h':AH},J9 n args h=some (args',h')->∀{ρ:eF} {w:World} {eD:List Value},Rel ρ h w->dz ρ args eD->∃ρ2,ρ2.base=ρ.base/\Rel ρ2 h' w/\Stp ρ h w ρ2 h' w/\dz ρ2 args' eD
 |0,args,args',h,h',e,ρ,w,eD,hR,ha=>by
  simp only[J9,aac,aaW]at e
  obtain⟨rfl,rfl⟩:=e
  exact⟨ρ,rfl,hR,Stp.refl _ _ _,ha⟩
 |n+1,args,args',h,h',e,ρ,w,eD,hR,ha=>by
  rw[J9]at e
  split at e
  ·simp only[aac,aaW]at e
   obtain⟨rfl,rfl⟩:=e
   exact⟨ρ,rfl,hR,Stp.refl _ _ _,ha⟩
  ·rename_i r _
   split at e
   ·rename_i cs T hg
    split at e
    ·rename_i ho
     obtain⟨ρ1,b1,R1,S1,f1⟩:=adL hR (r:=r) (xs:=cs) (T:=T) (s:=1) (by rw[VK ho];exact hg) (fun i hi=>by rw[Qk (ajz.1 ho _ (akH hi))];rfl)
     have ha1:dz ρ1 (args.map (nL r cs)) eD:=⟨by rw[aah];exact ha.1,fun i hi hj=>by
      rw[aj4]
      exact f1 _ _ _ (Fz.nL r cs _) (ha.2 i (by simpa using hi) hj)⟩
     obtain⟨ρ2,b2,R2,S2,a2⟩:=R9 n e R1 ha1
     exact⟨ρ2,b2.trans b1,R2,S1.trans S2,a2⟩
    ·cases e
   ·cases e
def KA(hk:Am)(f:FuncId)(s:List AV->Option AV):Am:=fun g args h=>if g=f then(match J9 3 args h with|some (args',h')=>AP hk f s f args' h'|none=>none)else hk g args h
theorem UF(hk:Am){f g:FuncId}(s:List AV->Option AV)(args:List AV)(ah:AH)(h:g≠f):KA hk f s g args ah=hk g args ah:=by simp[KA,h]
theorem aau{P:Program}{mu:FuncId->Nat->Bool}{hk:Am}{f:FuncId}{s:List AV->Option AV}(hE:Bh (Aj P mu hk))(hE2:Bh (Aj P mu (AP hk f s))):Bh (Aj P mu (KA hk f s)) where
 hk:=fun g args hh v hh' h ρ w eD hR hb ha=>by
  by_cases hg:g=f
  ·subst hg
   have h:KA hk g s g args hh=some (v,hh'):=h
   unfold KA at h
   rw[if_pos rfl]at h
   cases e:J9 3 args hh with
   |none=>rw[e]at h;cases h
   |some p=>
    obtain⟨args',h1⟩:=p
    rw[e]at h
    obtain⟨ρ2,b2,R2,S2,a2⟩:=R9 3 e hR ha
    obtain⟨k1,k2⟩:=hE2.hk g args' h1 v hh' h ρ2 w eD R2 (by rw[b2];exact hb) a2
    refine⟨k1,k2.mono fun x w' hp=>?_⟩
    cases x with
    |returned cv=>
     obtain⟨av,ρ',q1,q2,q3,q4⟩:=hp
     exact⟨av,ρ',q1,q2,q3,S2.trans q4⟩
    |panicked ch=>obtain⟨av,cv,ρ',q1,_⟩:=hp;cases q1
    |outgrown=>exact hp.elim
  ·have h':hk g args hh=some (v,hh'):=by rw[<-UF hk s args hh hg];exact h
   exact hE.hk g args hh v hh' h' ρ w eD hR hb ha
 ng:=hE.ng
 dw:=hE.dw
theorem WO{hk:Am}{f:FuncId}{s:List AV->Option AV}{args:List AV}{h:AH}(hn:args.findSome? vX=none):KA hk f s f args h=AP hk f s f args h:=by
 unfold KA
 rw[if_pos rfl]
 simp only[J9,hn]
end Go.Sk
namespace Go.Sk
theorem abb{P:Program}{f:FuncId}{eD:Array Value}{cv:Value}{v:AV}{ρ:eF}{h:AH}{w:World}(hR:Rel ρ h w)(hc:Calls P f eD w fun e w'=>e= .returned cv/\RowKit.Below w.heap.size w w')(hv:bf ρ v cv) :
  Calls P f eD w (D6 ρ h w (.ret v) h):=by
 refine hc.mono fun e w' hp=>?_
 obtain⟨rfl,hb⟩:=hp
 have hg:iM w w':=⟨hb.os,hb.tape,hb.output,hb.size,hb.block⟩
 exact⟨v,ρ,rfl,hv,hR.grew hg,Stp.grew hg⟩
theorem dz.weak{ρ:eF}{args:List AV}{eD:List Value}(ha:dz ρ args eD)(hf:Bz args=true):dz ρ (Cv args) eD:=
 ⟨by rw[BF];exact ha.1,fun i hi hj=>by
  have hi':i<args.length:=by rw[BF]at hi;exact hi
  rw[EI args i hi']
  exact bf.mM (ρ2:=ρ) (fun _ _ _ e=>e) (ha.2 i hi' hj) (Fg hf i hi')⟩
theorem O7{P:Program}{mu:FuncId->Nat->Bool}{hk:Am}{f:FuncId}{s:List AV->Option AV}(hE:Bh (Aj P mu hk))(hk':QB P f)
  (hs:∀args v,s args=some v->∀ρ h w eD,Rel ρ h w->dz ρ args eD->∃cv,bf ρ v cv/\Calls P f eD.toArray w fun e w'=>e= .returned cv/\RowKit.Below w.heap.size w w'):Bh (Aj P mu (AP hk f s)) where
 hk:=fun g args hh v hh' h ρ w eD hR hb ha=>by
  by_cases hg:g=f
  ·subst hg
   obtain⟨hfr,h',rfl⟩:=LX h
   obtain⟨cv,h1,h2⟩:=hs _ v h' ρ _ w eD hR (ha.weak hfr)
   exact⟨hk',abb hR h2 h1⟩
  ·have h':hk g args hh=some (v,hh'):=by rw[<-Jm hk s args hh hg];exact h
   exact hE.hk g args hh v hh' h' ρ w eD hR hb ha
 ng:=hE.ng
 dw:=hE.dw
theorem Rel.var{ρ:eF}{h:AH}{w:World}(hR:Rel ρ h w){P:Program}{name:String}{g:Nat}{cs:Array Value}(hn:P.globalNamed name=some g)(h0:uN g=some cs):w.var? P name=some cs:=by
 obtain⟨_,T,fr,h1⟩:=hR.iT g cs h0
 simp only[World.var?,hn,ajE,h1]
theorem Vp{P:Program}{types:Array TypeId}{t tx:TypeId}{elem:TypeId}{d:TypeDesc}{l x z:AV}{xs ys:List AV}{h:AH}{n:Nat}
  (h0:types[0]?=some t) (h1:types[1]?=some tx) (ht:P.underlying t=some (.slice elem)) (htx:P.underlying tx=some d) (hd:∀k,d≠ .int k)
  (hx:Df P elem x h=some ys) (hn:sizeT P elem=some n) (hz:BL P elem=some z) (hn0:n≠0) (hzn:z.cells.length=n) (hzs:z.cells.all AV.scalar=true)
  (hy:ys≠[]) (uS:Bj n ys=true) (hhx:Bj n xs=true) (hl:Grow h l xs)
  (hb:(xs.length+ys.length)*P.bytesOf elem<=140737488355328) (hb2:xs.length+ys.length<=140737488355328) :
  ∃l' h',Bg P false types l x h=some (l',h')/\Grow h' l' (xs++ys)/\h.next.nat<=h'.next.nat/\(∀q o,h.get q=some o->Gv l≠some q->q.nat<h.next.nat->h'.get q=some o)/\(∀q,Gv l'=some q->Gv l=some q\/h.next.nat<=q.nat):=by
 have hyl:ys.length≠0:=fun e=>hy (aan e)
 unfold Bg
 simp only[h0,h1,ht,htx]
 rcases hl with⟨rfl,rfl⟩|⟨g,rfl,hxs,hg,hgn⟩
 ·refine⟨.eP ys (.own h.next ys.length),h.alloc (.fD ys.length),?_,.inr ⟨h.next,by simp,by simpa using hy,by simp[AH.au],by simp[AH.bn,Id.eB]⟩,by simp[AH.bn,Id.eB],fun q o hq _ hlt=>?_,fun q hq=>?_⟩
  ·cases d<;>first|exact absurd rfl (hd _)|skip
   all_goals (simp only[hx,hn,hz];simp_all;try omega)
  ·rw[AH.au,if_neg];exact hq
   rintro rfl;omega
  ·simp only[Gv,aac]at hq;subst hq;exact .inr (ab5 _)
 ·have hxl:xs.length≠0:=fun e=>hxs (aan e)
  refine⟨.eP (xs++ys) (.own g (xs.length+ys.length)),h.set g (.fD (xs.length+ys.length)),?_,.inr ⟨g,by simp,by simp[hxs],by simp[AH.ak],by simpa[AH.fE]using hgn⟩,by simp[AH.fE],fun q o hq hne _=>?_,fun q hq=> .inl hq⟩
  ·cases d<;>first|exact absurd rfl (hd _)|skip
   all_goals (simp only[hx,hn,hz];simp_all;try omega)
  ·rw[AH.ak,if_neg];exact hq
   rintro rfl;exact hne rfl
end Go.Sk
set_option linter.unusedVariables false
namespace Go.Sk
structure Fr (F:List Id) (h h':AH):Prop where
 keep:∀q o,h.get q=some o->q.nat<h.next.nat->q ∉ F->h'.get q=some o
 next:h.next.nat<=h'.next.nat
theorem Fr.refl(F:List Id)(h:AH):Fr F h h:=⟨fun _ _ a _ _=>a,ab5 _⟩
theorem Fr.step{F G:List Id}{a b c:AH}(h:Fr F a b)(k:Fr G b c)(hs:∀q∈G,q∈F\/a.next.nat<=q.nat):Fr F a c:=
 ⟨fun q o e l n=>k.keep q o (h.keep q o e l n) (ajw l h.next) (fun m=>by rcases hs q m with x|x;exact n x;omega),ajT h.next k.next⟩
theorem Fr.alloc(h:AH)(o:AO):Fr [] h (h.alloc o):=⟨fun q o' e l _=>by rw[AH.au,if_neg (by rintro rfl;omega)];exact e,by simp[AH.bn,Id.eB]⟩
theorem Fr.set(h:AH)(i:Id)(o:AO):Fr [i] h (h.set i o):=⟨fun q o' e l n=>by rw[AH.ak,if_neg (by rintro rfl;exact n (ajA.2 rfl))];exact e,ab5 _⟩
structure HE where
 i:Id
 o:AO
 w:Bool
structure Hb (F:List Id) (h0 h:AH) (L:List HE):Prop where
 at_:∀p∈L,h.get p.i=some p.o/\p.i.nat<h.next.nat
 own:∀p∈L,p.w=true->p.i∈F\/h0.next.nat<=p.i.nat
 dist:L.Pairwise fun a b=>a.i≠b.i
 fr:Fr F h0 h
inductive iG (i:Id) (o o':AO):List HE->List HE->Prop where
 |here (L:List HE):iG i o o' (⟨i,o,true⟩::L) (⟨i,o',true⟩::L)
 |there (e:HE) {L L':List HE} (h:iG i o o' L L'):iG i o o' (e::L) (e::L')
theorem iG.mem{i:Id}{o o':AO}{L L':List HE}(u:iG i o o' L L'):(⟨i,o,true⟩:HE)∈L:=by
 induction u with
 |here L=>exact .head _
 |there e h ih=>exact .tail _ ih
theorem iG.ids{i:Id}{o o':AO}{L L':List HE}(u:iG i o o' L L'):L'.map (·.i)=L.map (·.i):=by
 induction u with
 |here L=>rfl
 |there e h ih=>simp only[ajr,ih]
theorem iG.back{i:Id}{o o':AO}{L L':List HE}(u:iG i o o' L L')(hd:L.Pairwise fun a b=>a.i≠b.i):∀p∈L',p=⟨i,o',true⟩\/(p∈L/\p.i≠i):=by
 induction u with
 |here L=>
  intro p hp
  rcases acD.1 hp with rfl|hp
  ·exact .inl rfl
  ·exact .inr ⟨.tail _ hp,((akv.1 hd).1 p hp).symm⟩
 |there e h ih=>
  intro p hp
  rcases acD.1 hp with rfl|hp
  ·exact .inr ⟨.head _,(akv.1 hd).1 _ h.mem⟩
  ·rcases ih (akv.1 hd).2 p hp with e1|⟨e1,e2⟩
   ·exact .inl e1
   ·exact .inr ⟨.tail _ e1,e2⟩
theorem iG.app{i:Id}{o o':AO}{L L':List HE}(u:iG i o o' L L'):∀A:List HE,iG i o o' (A++L) (A++L')
 |[]=>u
 |a::A=> .there a (u.app A)
section
variable{F:List Id}{h0 h:AH}{L:List HE}
theorem Hb.nil(F:List Id)(h:AH):Hb F h h [] where
 at_:=fun _ h=>by cases h
 own:=fun _ h=>by cases h
 dist:=List.Pairwise.nil
 fr:=Fr.refl _ _
theorem Hb.get(H:Hb F h0 h L){i:Id}{o:AO}{w:Bool}(hk:(⟨i,o,w⟩:HE)∈L):h.get i=some o:=(H.at_ _ hk).1
theorem Hb.lt(H:Hb F h0 h L){i:Id}{o:AO}{w:Bool}(hk:(⟨i,o,w⟩:HE)∈L):i.nat<h.next.nat:=(H.at_ _ hk).2
theorem Hb.perm{L':List HE}(H:Hb F h0 h L)(hp:L.Perm L'):Hb F h0 h L' where
 at_:=fun p h=>H.at_ p (hp.mem_iff.2 h)
 own:=fun p h=>H.own p (hp.mem_iff.2 h)
 dist:=hp.pairwise H.dist (fun h=>h.symm)
 fr:=H.fr
theorem Hb.front{A X R:List HE}(H:Hb F h0 h (A++(X++R))):Hb F h0 h (X++(A++R)):=H.perm (by
 rw[<-aa9,<-aa9];exact akT _ akF)
theorem Hb.sink{e:HE}{X R:List HE}(H:Hb F h0 h (e::(X++R))):Hb F h0 h (X++(e::R)):=H.perm akr.symm
theorem Hb.new(H:Hb F h0 h L)(o:AO):Hb F h0 (h.alloc o) (⟨h.next,o,true⟩::L) where
 at_:=fun p hp=>by
  rcases acD.1 hp with rfl|hp
  ·exact⟨by rw[AH.au,if_pos rfl],by simp[AH.bn,Id.eB]⟩
  ·obtain⟨a,b⟩:=H.at_ p hp
   exact⟨by rw[AH.au,if_neg (by intro e;rw[e]at b;omega)];exact a,by simp[AH.bn,Id.eB];omega⟩
 own:=fun p hp hw=>by
  rcases acD.1 hp with rfl|hp
  ·exact .inr H.fr.next
  ·exact H.own p hp hw
 dist:=akv.2 ⟨fun b hb=>by
  have:=(H.at_ b hb).2
  intro e;rw[<-e]at this;exact absurd this (aki _),H.dist⟩
 fr:=H.fr.step (Fr.alloc h o) (fun q hq=>by cases hq)
theorem Hb.set(H:Hb F h0 h L){i:Id}{o o':AO}{L':List HE}(u:iG i o o' L L'):Hb F h0 (h.set i o') L' where
 at_:=fun p hp=>by
  rcases u.back H.dist p hp with rfl|⟨h1,h2⟩
  ·exact⟨by rw[AH.ak,if_pos rfl],H.lt u.mem⟩
  ·obtain⟨a,b⟩:=H.at_ p h1
   exact⟨by rw[AH.ak,if_neg h2];exact a,b⟩
 own:=fun p hp hw=>by
  rcases u.back H.dist p hp with rfl|⟨h1,h2⟩
  ·exact H.own ⟨i,o,true⟩ u.mem rfl
  ·exact H.own p h1 hw
 dist:=by
  have e:∀l:List HE,(l.Pairwise fun a b=>a.i≠b.i) ↔ (l.map (·.i)).Pairwise (· ≠ ·):=fun l=>akZ.symm
  rw[e,u.ids,<-e];exact H.dist
 fr:=H.fr.step (Fr.set h i o') (fun q hq=>by
  obtain rfl:=ajA.1 hq
  exact H.own ⟨q,o,true⟩ u.mem rfl)
theorem Hb.keep{G:List Id}{h':AH}(H:Hb F h0 h L)(k:Fr G h h')(hg:∀q∈G,q∈F\/h0.next.nat<=q.nat)(hl:∀p∈L,p.i ∉ G):Hb F h0 h' L where
 at_:=fun p hp=>by
  obtain⟨a,b⟩:=H.at_ p hp
  exact⟨k.keep _ _ a b (hl p hp),ajw b k.next⟩
 own:=H.own
 dist:=H.dist
 fr:=H.fr.step k hg
theorem Hb.rE{h':AH}(H:Hb F h0 h L)(k:Fr [] h h'):Hb F h0 h' L:=H.keep k (fun q hq=>by cases hq) (fun p hp h=>by cases h)
theorem Hb.drop{A:List HE}(H:Hb F h0 h (A++L)):Hb F h0 h L:=⟨fun p hp=>H.at_ p (abR _ hp),fun p hp=>H.own p (abR _ hp),(akJ.1 H.dist).2.1,H.fr⟩
theorem Hb.tail{e:HE}(H:Hb F h0 h (e::L)):Hb F h0 h L:=Hb.drop (A:=[e]) H
variable{α:Type}{P:Program}{k kp:AV->AH->Option α}{Q:Option α->Prop}
theorem Hb.ld(H:Hb F h0 h L){i:Id}{cs:List AV}{T t:TypeId}{w:Bool}{off:Nat}{v:AV}(hk:(⟨i,.cells cs T,w⟩:HE)∈L)(ha:EM P t=some false)(hn:sizeT P t=some 1)(hv:cs[off]?=some v) :
  eX h (Av P t (.ptr i off) h)=some (.ret v,h):=A8 (n:=1) (H.get hk) ha hn hv
theorem Hb.lX(H:Hb F h0 h L)(n:Nat){l:List AV}{i:Id}{cs:List AV}{T t:TypeId}{w:Bool}{off:Nat}(hk:(⟨i,.cells cs T,w⟩:HE)∈L)(ha:EM P t=some true)(hn:sizeT P t=some n)(hv:off+n<=cs.length)(hl:(cs.drop off).take n=l) :
  eX h (Av P t (.ptr i off) h)=some (.ret (.agg l),h):=hl▸Dr (n:=n) (H.get hk) ha hn hv
theorem Hb.st(H:Hb F h0 h L)(n:Nat){cs':List AV}{i:Id}{cs:List AV}{T t:TypeId}{off:Nat}{v:AV}{L':List HE}(u:iG i (.cells cs T) (.cells cs' T) L L')(hn:sizeT P t=some n)(hv:v.cells.length=n)(ho:off+n<=cs.length)(hs:v.cells.all AV.scalar=true)
  (hc:setCells cs off v.cells=cs') (hy:∀h',Hb F h0 h' L'->Q (k Ak h')):Q (eT k kp (iy (Cg P t (.ptr i off) v h))):=by
 subst hc
 exact Aa (Et (n:=n) (H.get u.mem) hn hv ho hs) (hy _ (H.set u))
theorem Hb.st1(H:Hb F h0 h L){cs':List AV}{i:Id}{cs:List AV}{T t:TypeId}{off:Nat}{v:AV}{L':List HE}(u:iG i (.cells cs T) (.cells cs' T) L L')(hn:sizeT P t=some 1)(hv:v.cells=[v])(hs:v.scalar=true)(ho:off+1<=cs.length)
  (hc:cs.set off v=cs') (hy:∀h',Hb F h0 h' L'->Q (k Ak h')):Q (eT k kp (iy (Cg P t (.ptr i off) v h))):=
 H.st 1 u hn (by rw[hv];rfl) ho (by rw[hv];simp[hs]) (by rw[hv];exact hc) hy
theorem Hb.al(H:Hb F h0 h L)(cs:List AV){T:TypeId}{z:AV}(hz:BL P T=some z)(hc:z.cells=cs)(hs:cs.all AV.scalar=true)(hy:∀i h',Hb F h0 h' (⟨i,.cells cs T,true⟩::L)->Q (k (.ptr i 0) h')):Q (eT k kp (Pf P T h)):=
 Aa (BZ hz hc hs) (hy _ _ (H.new _))
theorem Hb.bx(H:Hb F h0 h L)(cs:List AV){T:TypeId}{v:AV}(hc:v.cells=cs)(hs:cs.all AV.scalar=true)(hy:∀i h',Hb F h0 h' (⟨i,.cells cs T,true⟩::L)->Q (k (.ptr i 0) h')):Q (eT k kp (CS (LQ T v h))):=
 Aa (CG hc hs) (hy _ _ (H.new _))
end
def eO(l:AV)(xs:List AV)(G:List HE):Prop:=(l= .aj/\xs=[]/\G=[])\/(∃g,l= .eP xs (.own g xs.length)/\xs≠[]/\G=[⟨g,.fD xs.length,true⟩])\/∃c,l= .eP xs c/\(c= .full\/c= .lit)/\G=[]
theorem eO.nil:eO .aj [] []:= .inl ⟨rfl,rfl,rfl⟩
theorem eO.lN{l:AV}{xs:List AV}{G:List HE}(h:eO l xs G):(l= .aj/\xs=[])\/∃c,l= .eP xs c:=by
 rcases h with⟨a,b,_⟩|⟨g,a,_⟩|⟨c,a,_⟩
 ·exact .inl ⟨a,b⟩
 ·exact .inr ⟨_,a⟩
 ·exact .inr ⟨_,a⟩
theorem eO.cells{l:AV}{xs:List AV}{G:List HE}(h:eO l xs G):l.cells=[l]:=by
 rcases h.lN with⟨rfl,_⟩|⟨_,rfl⟩<;>rfl
theorem eO.scalar{l:AV}{xs:List AV}{G:List HE}(h:eO l xs G):l.scalar=true:=by
 rcases h.lN with⟨rfl,_⟩|⟨_,rfl⟩<;>rfl
def eH(n:Nat)(T:TypeId)(l:AV)(xs:List AV)(G:List HE):Prop:=(l= .aj/\xs=[]/\G=[])\/∃r,l= .hsl r 0 xs.length (.room n)/\xs≠[]/\G=[⟨r,.cells (flat xs) T,true⟩]
theorem eH.nil{n:Nat}{T:TypeId}:eH n T .aj [] []:= .inl ⟨rfl,rfl,rfl⟩
theorem eH.scalar{n:Nat}{T:TypeId}{l:AV}{xs:List AV}{G:List HE}(h:eH n T l xs G):l.scalar=true:=by
 rcases h with⟨rfl,_⟩|⟨_,rfl,_⟩<;>rfl
theorem eH.cells{n:Nat}{T:TypeId}{l:AV}{xs:List AV}{G:List HE}(h:eH n T l xs G):l.cells=[l]:=by
 rcases h with⟨rfl,_⟩|⟨_,rfl,_⟩<;>rfl
theorem Wy(xs ys:List AV):flat (xs++ys)=flat xs++flat ys:=by simp[flat]
theorem Rt{n:Nat}:∀{xs:List AV},(∀x∈xs,x.cells.length=n)->(flat xs).length=xs.length*n
 |[],_=>by simp[flat]
 |x::r,h=>by
  rw[show flat (x::r)=x.cells++flat r by simp[flat],aaO,Rt fun y hy=>h y (.tail _ hy),h x (.head _),adP,Nat.succ_mul,Nat.add_comm]
section
variable{F:List Id}{h0 h:AH}{R G:List HE}{P:Program}{types:Array TypeId}{t tx elem:TypeId}{d:TypeDesc}{l x z:AV}{xs ys:List AV}{n:Nat}
theorem Hb.app(H:Hb F h0 h (G++R))(hl:eO l xs G)(ht0:types[0]?=some t)(ht1:types[1]?=some tx)(ht:P.underlying t=some (.slice elem))(htx:P.underlying tx=some d)(hd:∀k,d≠ .int k)
  (hx:Df P elem x h=some ys) (hn:sizeT P elem=some n) (hz:BL P elem=some z) (hn0:n≠0) (hzn:z.cells.length=n) (hzs:z.cells.all AV.scalar=true) (hy:ys≠[]) (uS:Bj n ys=true) (hhx:Bj n xs=true)
  (hb:(xs.length+ys.length)*P.bytesOf elem<=140737488355328) (hb2:xs.length+ys.length<=140737488355328) :
  ∃l' h' G',CS (Bg P false types l x h)=some (.ret l',h')/\eO l' (xs++ys) G'/\Hb F h0 h' (G'++R)/\xs++ys≠[]:=by
 have hyl:ys.length≠0:=fun e=>hy (aan e)
 have hne:xs++ys≠[]:=by simp[hy]
 rcases hl with⟨rfl,rfl,rfl⟩|⟨g,rfl,hxs,rfl⟩|⟨c,rfl,hc,rfl⟩
 ·have e:Bg P false types .aj x h=some (.eP ys (.own h.next ys.length),h.alloc (.fD ys.length)):=by
   unfold Bg
   simp only[ht0,ht1,ht,htx]
   cases d<;>first|exact absurd rfl (hd _)|skip
   all_goals (simp only[hx,hn,hz];simp_all;try omega)
  exact⟨.eP ys (.own h.next ys.length),h.alloc (.fD ys.length),[⟨h.next,.fD ys.length,true⟩],by rw[e];rfl,.inr (.inl ⟨h.next,by simp,hne,by simp⟩),H.new _,hne⟩
 ·have hxl:xs.length≠0:=fun e=>hxs (aan e)
  have hg:=H.get (.head _)
  have e:Bg P false types (.eP xs (.own g xs.length)) x h=some (.eP (xs++ys) (.own g (xs.length+ys.length)),h.set g (.fD (xs.length+ys.length))):=by
   unfold Bg
   simp only[ht0,ht1,ht,htx]
   cases d<;>first|exact absurd rfl (hd _)|skip
   all_goals (simp only[hx,hn,hz];simp_all;try omega)
  exact⟨.eP (xs++ys) (.own g (xs.length+ys.length)),h.set g (.fD (xs.length+ys.length)),[⟨g,.fD (xs.length+ys.length),true⟩],by rw[e];rfl,.inr (.inl ⟨g,by simp,hne,by simp⟩),H.set (.here _),hne⟩
 ·have e:Bg P false types (.eP xs c) x h=some (.eP (xs++ys) (.own h.next (xs.length+ys.length)),h.alloc (.fD (xs.length+ys.length))):=by
   unfold Bg
   simp only[ht0,ht1,ht,htx]
   rcases hc with rfl|rfl
   all_goals
    cases d<;>first|exact absurd rfl (hd _)|skip
    all_goals (simp only[hx,hn,hz];simp_all;try omega)
  exact⟨.eP (xs++ys) (.own h.next (xs.length+ys.length)),h.alloc (.fD (xs.length+ys.length)),[⟨h.next,.fD (xs.length+ys.length),true⟩],by rw[e];rfl,.inr (.inl ⟨h.next,by simp,hne,by simp⟩),H.new _,hne⟩
theorem Hb.air(H:Hb F h0 h (G++R))(hl:eH n elem l xs G)(ht0:types[0]?=some t)(ht1:types[1]?=some tx)(ht:P.underlying t=some (.slice elem))(htx:P.underlying tx=some d)(hd:∀k,d≠ .int k)
  (hx:Df P elem x h=some ys) (hn:sizeT P elem=some n) (hz:BL P elem=some z) (hn0:n≠0) (hzn:z.cells.length=n) (hzs:z.cells.all AV.scalar=true) (hy:ys≠[]) (uS:Bj n ys=true) (hhx:∀x∈xs,x.cells.length=n)
  (hb:(xs.length+ys.length)*P.bytesOf elem<=140737488355328) (hb2:xs.length+ys.length<=140737488355328) :
  ∃l' h' G',CS (Bg P true types l x h)=some (.ret l',h')/\eH n elem l' (xs++ys) G'/\Hb F h0 h' (G'++R)/\xs++ys≠[]:=by
 have hyl:ys.length≠0:=fun e=>hy (aan e)
 have hne:xs++ys≠[]:=by simp[hy]
 rcases hl with⟨rfl,rfl,rfl⟩|⟨r,rfl,hxs,rfl⟩
 ·have e:Bg P true types .aj x h=some (.hsl h.next 0 ys.length (.room n),h.alloc (.cells (flat ys) elem)):=by
   unfold Bg
   simp only[ht0,ht1,ht,htx]
   cases d<;>first|exact absurd rfl (hd _)|skip
   all_goals (simp only[hx,hn,hz];simp_all;try omega)
  exact⟨.hsl h.next 0 ys.length (.room n),h.alloc (.cells (flat ys) elem),[⟨h.next,.cells (flat ys) elem,true⟩],by rw[e];rfl,.inr ⟨h.next,by simp,hne,by simp⟩,H.new _,hne⟩
 ·have hxl:xs.length≠0:=fun e=>hxs (aan e)
  have hg:=H.get (.head _)
  have hfl:=Rt hhx
  have htk:(flat xs).take (xs.length*n)=flat xs:=ajK (by omega)
  have e:Bg P true types (.hsl r 0 xs.length (.room n)) x h=some (.hsl h.next 0 (xs.length+ys.length) (.room n),(h.set r .dead).alloc (.cells (flat xs++flat ys) elem)):=by
   unfold Bg
   simp only[ht0,ht1,ht,htx]
   have c1:¬(n=0\/Bj n ys=false\/z.cells.length≠n\/z.cells.all AV.scalar=false):=by
    rintro(h|h|h|h)
    ·exact hn0 h
    ·rw[uS]at h;cases h
    ·exact h hzn
    ·rw[hzs]at h;cases h
   cases d<;>first|exact absurd rfl (hd _)|skip
   all_goals
    simp only[hx,hn,hz,hg]
    rw[if_neg c1,if_neg hyl,if_neg (by omega),if_pos (by refine⟨by omega,?_⟩;simp),htk]
  refine⟨_,_,[⟨h.next,.cells (flat xs++flat ys) elem,true⟩],by rw[e];rfl,.inr ⟨h.next,by simp,hne,by rw[Wy]⟩,?_,hne⟩
  have H1:=(H.set (.here R) (o':= .dead)).tail.new (.cells (flat xs++flat ys) elem)
  rw[AH.fE]at H1
  exact H1
end
end Go.Sk
