/-
  The evaluator, laid for the kernel: it says what the evaluator says.
-/
import Derived.Test.YtfpmanknbjakfaaGreatDoorSkMb
import Derived.ChangeSlices
import Derived.WideShapes
set_option linter.unusedSimpArgs false
set_option linter.unusedVariables false
namespace Go.Sk
theorem Pe{α:Type}:∀(p:Id) (t:gV α),Vk p t=t.get p
 | .h,t=>by cases t<;>rfl
 | .o p,t=>by
  show Vk p (XK t)=_
  rw[Pe p]
  cases t with
  |e=>cases p<;>rfl
  |n l v r=>rfl
 | .i p,t=>by
  show Vk p (X4 t)=_
  rw[Pe p]
  cases t with
  |e=>cases p<;>rfl
  |n l v r=>rfl
theorem Ml{α:Type}:∀(p:Id) (t:gV α) (a:α),KL p t a=gV.set p t a
 | .h,t,a=>by cases t<;>rfl
 | .o p,t,a=>by
  show gV.n (KL p (XK t) a) (Ou t) (X4 t)=_
  rw[Ml p]
  cases t<;>rfl
 | .i p,t,a=>by
  show gV.n (XK t) (Ou t) (KL p (X4 t) a)=_
  rw[Ml p]
  cases t<;>rfl
theorem VW:∀n,(lX n).nat=n+1
 |0=>rfl
 |n+1=>by
  show(lX n).succ.nat=_
  rw[Id.dz,VW n]
theorem Zf{i j:Nat}(h:lX i=lX j):i=j:=by
 have:=congrArg Id.nat h
 rw[VW,VW]at this;omega
theorem Zd(n:Nat)(T:gV AV)(t:Nat):gT n T t=if t<n then(T.get (lX t)).getD Aj else Aj:=by
 unfold gT
 rw[Pe]
 by_cases h:t<n
 ·rw[if_pos h]
  have:Nat.blt t n=true:=by simpa[alk]using h
  rw[this]
  cases T.get (lX t)<;>rfl
 ·rw[if_neg h]
  have:Nat.blt t n=false:=by
   cases e:Nat.blt t n with
   |false=>rfl
   |true=>exact absurd (by simpa[alk]using e) h
  rw[this];rfl
theorem ED(n:Nat)(T:gV AV):(gU n T).length=n:=by simp[gU]
theorem LY{n:Nat}{T:gV AV}{t:Nat}(h:t<n):(gU n T)[t]?=some (gT n T t):=by simp[gU,h]
theorem R4(n:Nat)(T:gV AV)(t:Nat):(gU n T).getD t Aj=gT n T t:=by
 by_cases h:t<n
 ·rw[aal,LY h];rfl
 ·rw[aal,acD (by rw[ED];omega),Zd,if_neg h];rfl
theorem Q5(n:Nat)(T:gV AV)(d:Option Tmp)(v:AV):Iy (gU n T) d v=gU n (pT n T d v):=by
 cases d with
 |none=>rfl
 |some d=>
  show(gU n T).set d v=gU n (bs (Nat.blt d n) (KL (lX d) T v) T)
  by_cases h:d<n
  ·have e:Nat.blt d n=true:=by simpa[alk]using h
   rw[e]
   apply aj7
   intro t
   rcases ajV t n with ht|ht
   ·rw[LY ht,ajZ,ED,LY ht,Zd,Zd,if_pos ht,if_pos ht]
    show _=some (((KL (lX d) T v).get (lX t)).getD Aj)
    rw[Ml,gV.ak]
    by_cases hdt:d=t
    ·subst hdt;simp[h]
    ·rw[if_neg hdt,if_neg (fun e=>hdt (Zf e).symm)]
   ·rw[acD (by rw[alp,ED];exact ht),acD (by rw[ED];exact ht)]
  ·have e:Nat.blt d n=false:=by
    cases e:Nat.blt d n with
    |false=>rfl
    |true=>exact absurd (by simpa[alk]using e) h
   rw[e]
   exact List.set_eq_of_length_le (by rw[ED];exact Nat.not_lt.1 h)
theorem Qn:∀(l:List AV) (i:Nat) (T:gV AV) (t:Nat),((QK l i T).get (lX t))=if i<=t/\t<i+l.length then l[t - i]? else T.get (lX t)
 |[],i,T,t=>by
  show T.get (lX t)=_
  rw[if_neg (by simp)]
 |v::l,i,T,t=>by
  show(QK l (i+1) (KL (lX i) T v)).get (lX t)=_
  rw[Qn l,Ml,gV.ak]
  by_cases h:i+1<=t/\t<i+1+l.length
  ·rw[if_pos h,if_pos (by simp;omega)]
   rw[show t - i=(t - (i+1))+1 by omega];simp
  ·rw[if_neg h]
   by_cases ht:t=i
   ·subst ht;simp
   ·rw[if_neg (fun e=>ht (Zf e)),if_neg (by simp;omega)]
theorem PX(l:List AV)(k:Nat):gU (l.length+k) (sj l)=l++List.replicate k Aj:=by
 apply aj7
 intro t
 rcases ajV t (l.length+k)with ht|ht
 ·rw[LY ht,Zd,if_pos ht]
  show some (((QK l 0 .e).get (lX t)).getD Aj)=_
  rw[Qn]
  by_cases h:t<l.length
  ·rw[if_pos (by omega),ajB h];simp[h]
  ·rw[if_neg (by omega),adU (by omega)]
   have:(gV.e:gV AV).get (lX t)=none:=by cases lX t<;>rfl
   rw[this]
   have h2:t - l.length<k:=by omega
   simp[h2]
 ·rw[acD (by rw[ED];exact ht),acD (by simp;exact ht)]
theorem Zv{l:List AV}{n:Nat}(h:l.length=n):gU n (sj l)=l:=by
 have:=PX l 0
 simpa[h]using this
section
variable{n:Nat}{T:gV AV}
theorem Rc(o:Operand):Av (gU n T) o=gA n T o:=by
 cases o with
 |tmp t=>show some ((gU n T).getD t Aj)=some (gT n T t);rw[R4]
 |const v=>rfl
 |global g=>rfl
 |func f=>rfl
theorem Vu:∀l,Dh (gU n T) l=vJ n T l
 |[]=>rfl
 |o::r=>by
  show(match Av (gU n T) o,Dh (gU n T) r with|some v,some l=>some (v::l)|_,_=>none)=(match gA n T o,vJ n T r with|some v,some l=>some (v::l)|_,_=>none)
  rw[Rc,Vu r]
theorem Ph:∀l,Da (gU n T) l=Ri n T l
 |[]=>rfl
 |(i,o)::r=>by
  show(match Av (gU n T) o,Da (gU n T) r with|some v,some l=>some ((i,v)::l)|_,_=>none)=(match gA n T o,Ri n T r with|some v,some l=>some ((i,v)::l)|_,_=>none)
  rw[Rc,Ph r]
theorem adA(x:Option Operand):D6 (gU n T) x=zV n T x:=by
 cases x with
 |none=>rfl
 |some o=>show(Av (gU n T) o).map some=(gA n T o).map some;rw[Rc]
theorem SG{X:Cx}{fn:FuncId}{o:Oper}{h:AH}:Cm X fn (gU n T) o h=Tj o.op X.P (o.dst.any (X.mu fn)) X.call n T h:=by
 unfold Cm
 cases e:o.op<;>simp only[Rc,Vu,Ph,adA]<;>first|rfl|skip
 case makeFunc f a b=>cases f<;>rfl
 case call c=>
  show IZ X (o.dst.any (X.mu fn)) (gU n T) c h=acY c X.P (o.dst.any (X.mu fn)) X.call n T h
  unfold IZ acY
  rw[Vu]
  cases vJ n T c.args.toList with
  |none=>rfl
  |some args=>
   simp only
   cases c.callee with
   |value f=>simp only;rw[Rc];rfl
   |invoke r m=>rfl
   |builtin b=>rfl
theorem XF(ops:Array Oper)(j:Nat):Jv ops (gU n T) j=Rj ops n T j:=by
 unfold Jv Rj
 cases(ops[j]?).bind (·.dst)with
 |none=>rfl
 |some d=>
  simp only
  by_cases h:d<n
  ·have e:Nat.blt d n=true:=by simpa[alk]using h
   rw[LY h,e]
   simp only[Vb]
   cases gT n T d<;>rfl
  ·have e:Nat.blt d n=false:=by
    cases e:Nat.blt d n with
    |false=>rfl
    |true=>exact absurd (by simpa[alk]using e) h
   rw[acD (by rw[ED];exact Nat.not_lt.1 h),e];rfl
theorem Na(ops:Array Oper)(o:Oper):BU ops (gU n T) o=Jl ops n T o:=by
 unfold BU Jl
 cases o.guard with
 |none=>rfl
 |some p=>obtain⟨j,w⟩:=p;simp only[XF]
theorem adq(P:Program)(o:Oper)(r:Id):newAt P (gU n T) o r=newF P n T o r:=by
 unfold newAt newF
 cases o.op<;>simp only[Rc,Ph]<;>rfl
end
noncomputable def toA(n:Nat)(r:vK):Option (Bl × gB):=r.map fun x=>(x.1,⟨gU n x.2.T,x.2.df,x.2.h⟩)
structure Ru (P:Program) (X:Cx) (fn:FuncId) (c:FC):Prop where
 P:X.P=P
 mu:X.mu fn=c.mu
 call:X.call=c.call
 fn:c.fn=fn
section
variable{P:Program}{X:Cx}{fn:FuncId}{c:FC}
theorem Va(hc:Ru P X fn c){ops:Array Oper}:∀(l:List Oper) (T:gV AV) (df:List Id) (h:AH),Hr X fn ops l ⟨gU c.n T,df,h⟩=toA c.n (zW l ops P c T df h)
 |[],T,df,h=>rfl
 |o::r,T,df,h=>by
  show _=toA c.n (RD o (zW r) ops P c T df h)
  unfold Hr RD
  simp only[Na,SG,hc.P,hc.mu,hc.call]
  cases Jl ops c.n T o with
  |false=>simp only[Xj,ajI,if_false,Q5];exact Va hc r _ _ _
  |true=>
   simp only[Vb,if_true]
   cases Tj o.op P (o.dst.any c.mu) c.call c.n T h with
   |none=>rfl
   |some x=>
    obtain⟨x,h'⟩:=x
    cases x with
    |ret v=>simp only[Q5];exact Va hc r _ _ _
    |jl v=>rfl
noncomputable def tT(n:Nat)(st:FD):j3:=⟨gU n st.T,st.h,st.E,st.A⟩
theorem QN(hc:Ru P X fn c){ops:Array Oper}:∀(l:List Nat) (T:gV AV) (h:AH) (E:List Dj) (A:List Gt),jO X fn ops l ⟨gU c.n T,h,E,A⟩=(zX l ops P c T h E A).map (tT c.n)
 |[],T,h,E,A=>rfl
 |j::r,T,h,E,A=>by
  show _=(RG j (zX r) ops P c T h E A).map (tT c.n)
  unfold jO RG
  cases ho:ops[j]? with
  |none=>rfl
  |some o=>
   simp only
   unfold Gm
   simp only[Na,SG,hc.P,hc.mu,hc.call,adq]
   cases Jl ops c.n T o with
   |false=>
    simp only[Xj,ajI,if_false]
    cases A8 P (o.dst.any c.mu) o.op<;>simp only[aaX,NM,Zk,Q5]<;>exact QN hc r _ _ _ _
   |true=>
    simp only[Vb,if_true]
    cases A8 P (o.dst.any c.mu) o.op<;>simp only[aej,U6,acs,abx]
    case new=>
     cases newF P c.n T o h.next with
     |none=>rfl
     |some x=>obtain⟨v,ob⟩:=x;simp only[Q5];exact QN hc r _ _ _ _
    all_goals
     cases Tj o.op P (o.dst.any c.mu) c.call c.n T h with
     |none=>rfl
     |some x=>
      obtain⟨x,h'⟩:=x
      cases x with
      |ret v=>simp only[Q5];exact QN hc r _ _ _ _
      |jl v=>rfl
theorem XT{n:Nat}{T:gV AV}(d:Option Tmp)(v:AV):Lr (gU n T) d v=Vl n T d v:=by
 unfold Lr Vl
 cases d with
 |none=>rfl
 |some d=>
  simp only
  by_cases h:d<n
  ·have e:Nat.blt d n=true:=by simpa[alk]using h
   rw[LY h,e];rfl
  ·have e:Nat.blt d n=false:=by
    cases e:Nat.blt d n with
    |false=>rfl
    |true=>exact absurd (by simpa[alk]using e) h
   rw[acD (by rw[ED];exact Nat.not_lt.1 h),e];rfl
theorem XE(hc:Ru P X fn c){ops:Array Oper}{T:List Nat}{st:FD}{j:Nat}{o:Oper}:GJ X fn ops T (tT c.n st) j o=RO P c ops T st j o:=by
 unfold GJ RO
 simp only[tT,Na,SG,hc.P,hc.mu,hc.call,XT]
 cases Jl ops c.n st.T o<;>rfl
theorem Nz(hc:Ru P X fn c){ops:Array Oper}{T:List Nat}{st:FD}:∀l,Gf X fn ops T (tT c.n st) l=Ih P c ops T st l
 |[]=>rfl
 |j::r=>by
  unfold Gf Ih
  rw[Nz hc r]
  cases ops[j]? with
  |none=>rfl
  |some o=>simp only[XE hc]
theorem aac(hc:Ru P X fn c){ops:Array Oper}{T:gV AV}{df:List Id}{h:AH}:drawn X fn ops ⟨gU c.n T,df,h⟩=toA c.n (VN ops P c T df h):=by
 unfold drawn VN
 simp only[hc.P,hc.mu]
 cases Ga P c.mu ops with
 |none=>rfl
 |some pl=>
  simp only[QN hc]
  cases zX pl.ord ops P c T h [] []with
  |none=>rfl
  |some st=>
   simp only[ajL,Nz hc]
   have e:(tT c.n st).A.all (PI pl.T (tT c.n st))=st.A.all (QO pl.T st):=rfl
   rw[e]
   show(if(st.E.isEmpty&&st.A.isEmpty||(Ih P c ops pl.T st pl.ord&&st.A.all (QO pl.T st)&&Gz st.A))=true then _ else _)=_
   cases(st.E.isEmpty&&st.A.isEmpty||(Ih P c ops pl.T st pl.ord&&st.A.all (QO pl.T st)&&Gz st.A))<;>rfl
theorem Sj{rd:Option Id}{f:Operand}{ps:Array Tmp}{assign body:Code}{s:gB}{r:Bl × gB}(h:BZ X fn rd f ps assign body s=some r):r.2.tm=s.tm:=by
 have hent:∀l s1,Gw fn rd ps assign body s=some (l,s1)->s1.tm=s.tm:=fun l s1 he=>by
  unfold Gw at he
  split at he
  ·split at he
   ·simp only[aai,abW]at he;obtain⟨_,rfl⟩:=he;rfl
   ·cases he
  ·simp only[aai,abW]at he;obtain⟨_,rfl⟩:=he;rfl
 have hlv:∀l s1 r,Cq l s1=some r->r.2.tm=s1.tm:=fun l s1 r he=>by
  unfold Cq at he
  repeat' split at he
  all_goals first
   |(cases he;done)
   |(simp only[aai]at he;subst he;rfl)
 unfold BZ at h
 split at h
 ·cases h
 ·rename_i l s1 he
  split at h
  ·split at h
   ·rw[hlv _ _ _ h,hent _ _ he]
   ·simp only[aai]at h;subst h;exact(hent l s1 he :)
   ·cases h
  ·cases h
theorem aaB(hc:Ru P X fn c){f:Operand}{ps:Array Tmp}{assign body:Code}{T:gV AV}{df:List Id}{h:AH} :
  BZ X fn c.rd f ps assign body ⟨gU c.n T,df,h⟩=toA c.n (YN f ps assign body P c T df h):=by
 have e:BZ ⟨P,fun _=>c.mu,c.call⟩ c.fn c.rd f ps assign body ⟨gU c.n T,df,h⟩=BZ X fn c.rd f ps assign body ⟨gU c.n T,df,h⟩:=by
  unfold BZ
  rw[hc.fn]
  simp only[hc.call]
 unfold YN
 rw[e]
 cases hr:BZ X fn c.rd f ps assign body ⟨gU c.n T,df,h⟩with
 |none=>rfl
 |some r=>
  obtain⟨x,s⟩:=r
  have:=Sj hr
  simp only at this
  simp only[toA,ajL]
  rw[Zv (by rw[this,ED])]
theorem Sb(hc:Ru P X fn c):∀(k:Code) (T:gV AV) (df:List Id) (h:AH),AB X (fun _ ops s=>drawn X fn ops s) fn c.rd c.m k ⟨gU c.n T,df,h⟩=toA c.n (Gn k P c T df h):=by
 intro k
 induction k with
 |skip=>intro T df h;rfl
 |label l=>intro T df h;rfl
 |region id ops draw=>
  intro T df h
  show(if draw then drawn X fn ops _ else Hr X fn ops ops.toList _)=toA c.n (bs draw (VN ops P c T df h) (zW ops.toList ops P c T df h))
  cases draw with
  |true=>exact aac hc
  |false=>exact Va hc _ _ _ _
 |seq a b iha ihb=>
  intro T df h
  show Xy (AB X _ fn c.rd c.m a ⟨gU c.n T,df,h⟩) _=toA c.n (aeE (Gn a) (Gn b) P c T df h)
  rw[iha]
  unfold aeE
  cases Gn a P c T df h with
  |none=>rfl
  |some r=>
   obtain⟨x,T',oG,h'⟩:=r
   cases x<;>first|exact ihb T' oG h'|rfl
 |cond o t e wP wQ=>
  intro T df h
  show(match Av (gU c.n T) o with|some (.bool true)=>_|some (.bool false)=>_|_=>none)=toA c.n (aaZ o (Gn t) (Gn e) P c T df h)
  unfold aaZ
  rw[Rc]
  cases gA c.n T o with
  |none=>rfl
  |some v=>
   cases v<;>first|rfl|skip
   rename_i b
   cases b with
   |true=>exact wP T df h
   |false=>exact wQ T df h
 |block id b ih=>
  intro T df h
  show outBlock id (AB X _ fn c.rd c.m b ⟨gU c.n T,df,h⟩)=toA c.n (Yr id (Gn b) P c T df h)
  rw[ih]
  unfold Yr
  cases Gn b P c T df h with
  |none=>rfl
  |some r=>
   obtain⟨x,T',oG,h'⟩:=r
   cases x<;>first|rfl|skip
   rename_i i
   show(if i=id then _ else _)=_
   simp only
   by_cases hi:i=id
   ·rw[if_pos hi]
    have:Nat.beq i id=true:=by rw[hi];exact Nat.beq_refl id
    rw[this];rfl
   ·rw[if_neg hi]
    have:Nat.beq i id=false:=by
     cases e:Nat.beq i id with
     |false=>rfl
     |true=>exact absurd (akk e) hi
    rw[this];rfl
 |loop b ih=>
  intro T df h
  show iter (AB X _ fn c.rd c.m b) c.m ⟨gU c.n T,df,h⟩=toA c.n (Y8 (Gn b) c.m P c T df h)
  have key:∀m T df h,iter (AB X (fun _ ops s=>drawn X fn ops s) fn c.rd c.m b) m ⟨gU c.n T,df,h⟩=toA c.n (Y8 (Gn b) m P c T df h):=by
   intro m
   induction m with
   |zero=>intro T df h;rfl
   |succ m im=>
    intro T df h
    show(match AB X _ fn c.rd c.m b ⟨gU c.n T,df,h⟩with|some (.normal,s')=>iter _ m s'|r=>r)=toA c.n (match Gn b P c T df h with|some (.normal,⟨T',oG,h'⟩)=>Y8 (Gn b) m P c T' oG h'|r=>r)
    rw[ih]
    cases Gn b P c T df h with
    |none=>rfl
    |some r=>
     obtain⟨x,T',oG,h'⟩:=r
     cases x<;>first|exact im T' oG h'|rfl
  exact key c.m T df h
 |scope b ih=>intro T df h;exact ih T df h
 |exit id=>intro T df h;rfl
 |ret=>intro T df h;rfl
 |rangeFunc f ps a b _ _=>intro T df h;exact aaB hc
 |goto l=>intro T df h;rfl
 |refuse w=>intro T df h;rfl
theorem ac4{n:Nat}{T:gV AV}{h:AH}(r:ResultVar):GA P (gU n T) h r=ae6 P n T h r:=by
 cases r with
 |tmp t=>show some ((gU n T).getD t Aj)=some (gT n T t);rw[R4]
 |cell a t=>show Ay P t ((gU n T).getD a Aj) h=Ay P t (gT n T a) h;rw[R4]
theorem RY{n:Nat}{T:gV AV}{h:AH}:∀l,Cc P (gU n T) h l=Xf P n T h l
 |[]=>rfl
 |r::rs=>by
  show(match GA P (gU n T) h r,Cc P (gU n T) h rs with|some v,some l=>some (v::l)|_,_=>none)=(match ae6 P n T h r,Xf P n T h rs with|some v,some l=>some (v::l)|_,_=>none)
  rw[ac4,RY rs]
theorem aaE{fn:Func}{n:Nat}{r:vK}:Er P fn (toA n r)=abm P fn n r:=by
 cases r with
 |none=>rfl
 |some r=>
  obtain⟨x,T,df,h⟩:=r
  cases x with
  |exit i=>rfl
  |jl v=>rfl
  |normal=>
   show(match CJ df h with|some h=>(match Cc P (gU n T) h fn.results.toList with|some l=>some (Aq.ret (Eo l),h)|none=>none)|none=>none)=(match CJ df h with|some h=>(match Xf P n T h fn.results.toList with|some l=>some (Aq.ret (Eo l),h)|none=>none)|none=>none)
   cases CJ df h with
   |none=>rfl
   |some h'=>simp only[RY]
  |ret=>
   show(match CJ df h with|some h=>(match Cc P (gU n T) h fn.results.toList with|some l=>some (Aq.ret (Eo l),h)|none=>none)|none=>none)=(match CJ df h with|some h=>(match Xf P n T h fn.results.toList with|some l=>some (Aq.ret (Eo l),h)|none=>none)|none=>none)
   cases CJ df h with
   |none=>rfl
   |some h'=>simp only[RY]
end
theorem Ls:∀(ps:List Tmp) (args tm:List AV),(BO tm ps args).length=tm.length
 |[],_,_=>by simp[BO]
 |_::_,[],_=>by simp[BO]
 |p::ps,v::args,tm=>by simp only[BO];rw[Ls ps args];simp
theorem Ua(P:Program)(mu:FuncId->Nat->Bool)(hk:Ar):∀n fn args h,Ah (Ak P mu hk) n fn args h=IY P mu hk n fn args h:=by
 intro n
 induction n with
 |zero=>intro fn args h;rfl
 |succ n ih=>
  intro fn args h
  have hcall:Ah (Ak P mu hk) n=IY P mu hk n:=by funext f a k;exact ih f a k
  cases fn with
  |func f=>
   show(match hk f args h with
    |some r=>some (Aq.ret r.1,r.2)
    |none=>match P.funcs[f]? with
     |none=>none
     |some fn=>match fn.body with
      |none=>none
      |some c=>Er P fn (AB ⟨P,mu,Ah (Ak P mu hk) n⟩ (fun _ ops s=>drawn ⟨P,mu,Ah (Ak P mu hk) n⟩ f ops s) f none n c ⟨args++List.replicate (fn.ntmps - args.length) Aj,[],h⟩))=QW P mu hk n (IY P mu hk n) f args h
   unfold QW
   cases hk f args h with
   |some r=>rfl
   |none=>
   simp only
   cases hf:P.funcs[f]? with
   |none=>rfl
   |some fn=>
    simp only
    cases hb:fn.body with
    |none=>rfl
    |some c=>
     simp only
     rw[<-PX]
     have:=Sb (P:=P) (X:=⟨P,mu,Ah (Ak P mu hk) n⟩) (fn:=f) (c:=⟨mu f,f,none,IY P mu hk n,args.length+(fn.ntmps - args.length),n⟩) ⟨rfl,rfl,hcall,rfl⟩ c (sj args) [] h
     rw[<-aaE,<-this]
  |yield l=>
   show(match h.get l with|some (.loop _ _ fn tm ps assign body _)=>_|_=>none)=OX P mu n (IY P mu hk n) l args h
   unfold OX
   cases hg:h.get l with
   |none=>rfl
   |some ob=>
    cases ob<;>first|rfl|skip
    rename_i st pd fn tm ps assign body d
    simp only
    by_cases hl:args.length≠ps.size
    ·rw[if_pos hl,if_pos hl]
    ·rw[if_neg hl,if_neg hl]
     have e1:=Sb (P:=P) (X:=⟨P,mu,Ah (Ak P mu hk) n⟩) (fn:=fn) (c:=⟨mu fn,fn,some l,IY P mu hk n,tm.length,n⟩) ⟨rfl,rfl,hcall,rfl⟩ assign (sj (BO tm ps.toList args)) [] h
     simp only at e1
     rw[Zv (Ls _ _ _)]at e1
     show(match AB _ _ fn (some l) n assign _ with|some (.normal,s)=>_|_=>none)=_
     have wR:AB ⟨(Ak P mu hk).P,(Ak P mu hk).mu,Ah (Ak P mu hk) n⟩ ((Ak P mu hk).eu ⟨(Ak P mu hk).P,(Ak P mu hk).mu,Ah (Ak P mu hk) n⟩ fn) fn (some l) n assign ⟨BO tm ps.toList args,[],h⟩=_:=e1
     rw[wR]
     cases Gn assign P ⟨mu fn,fn,some l,IY P mu hk n,tm.length,n⟩ (sj (BO tm ps.toList args)) [] h with
     |none=>rfl
     |some r=>
      obtain⟨x,T,df,h1⟩:=r
      cases x<;>first|rfl|skip
      show(match Dw l _ h1 with|some h2=>_|none=>none)=_
      simp only
      cases Dw l (fun st pd=>match st with| .ready=>some (.busy,pd)|_=>none) h1 with
      |none=>rfl
      |some h2=>
       simp only
       have e2:=Sb (P:=P) (X:=⟨P,mu,Ah (Ak P mu hk) n⟩) (fn:=fn) (c:=⟨mu fn,fn,some l,IY P mu hk n,tm.length,n⟩) ⟨rfl,rfl,hcall,rfl⟩ body T [] h2
       have e2':AB ⟨(Ak P mu hk).P,(Ak P mu hk).mu,Ah (Ak P mu hk) n⟩ ((Ak P mu hk).eu ⟨(Ak P mu hk).P,(Ak P mu hk).mu,Ah (Ak P mu hk) n⟩ fn) fn (some l) n body ⟨gU tm.length T,[],h2⟩=_:=e2
       show(if df.isEmpty then Ei l (AB _ _ fn (some l) n body ⟨gU tm.length T,[],h2⟩)else none)=_
       rw[e2']
       cases df.isEmpty with
       |false=>rfl
       |true=>
        simp only[if_true]
        cases Gn body P ⟨mu fn,fn,some l,IY P mu hk n,tm.length,n⟩ T [] h2 with
        |none=>rfl
        |some r=>obtain⟨x,T',oG,h3⟩:=r;rfl
end Go.Sk
namespace Go.Sk
mutual
def ER:AV->Bool
 | .bool _=>true
 | .int _ _=>true
 | .str _=>true
 | .gF=>true
 | .aj=>true
 | .fU=>true
 | .iq=>true
 | .fH=>true
 | .iface _ v=>ER v
 | .agg cs=>RP cs
 | .fD cs=>RP cs
 |_=>false
def RP:List AV->Bool
 |[]=>true
 |v::l=>ER v&&RP l
end
theorem M6:∀{l:List AV},RP l=true->∀i (hi:i<l.length),ER l[i]=true
 |[],_,i,hi=>by simp at hi
 |v::l,h,i,hi=>by
  simp only[RP,aci]at h
  cases i with
  |zero=>exact h.1
  |succ i=>exact M6 h.2 i (by simpa using hi)
theorem bf.tV{ρ1 ρ2:eT}{v:AV}{c:Value}(h:bf ρ1 v c):ER v=true->bf ρ2 v c:=by
 induction h with
 |bool b=>intro _;exact .bool b
 |int k n=>intro _;exact .int k n
 |str l=>intro _;exact .str l
 |gF=>intro _;exact .gF
 |ptr r off b h=>intro hp;simp[ER]at hp
 |ref v b off c hc _ ih=>intro hp;simp[ER]at hp
 |aj=>intro _;exact .aj
 |fC xs cap b off n s c hs hc _ hn hcap ih=>intro hp;simp[ER]at hp
 |hsl r off len cap b n h hn hcap=>intro hp;simp[ER]at hp
 |fU=>intro _;exact .fU
 |map r b h=>intro hp;simp[ER]at hp
 |fn f g a b ca cb hf h1 _ h2 _ ih1 ih2=>intro hp;simp[ER]at hp
 |iq=>intro _;exact .iq
 |iface t v cv _ ih=>intro hp;exact .iface t v cv (ih (by simpa[ER]using hp))
 |fH=>intro _;exact .fH
 |agg cs eU h1 _ ih=>intro hp;exact .agg cs eU h1 fun i hi hj=>ih i hi hj (M6 (by simpa[ER]using hp) i hi)
 |fD cs eU h1 _ ih=>intro hp;exact .fD cs eU h1 fun i hi hj=>ih i hi hj (M6 (by simpa[ER]using hp) i hi)
def IE:Cap->Cap
 | .pat k m=> .pat k m
 |_=> .unk
mutual
def Bc:AV->AV
 | .fC xs c=> .fC (CB xs) (IE c)
 | .ref v=> .ref (Bc v)
 | .agg cs=> .agg (CB cs)
 | .fD cs=> .fD (CB cs)
 | .iface t v=> .iface t (Bc v)
 |v=>v
def CB:List AV->List AV
 |[]=>[]
 |v::l=>Bc v::CB l
end
mutual
def BN:AV->Bool
 | .ptr _ _=>false
 | .hsl _ _ _ _=>false
 | .map _=>false
 | .fn _ _ _=>false
 | .fC xs _=>BJ xs
 | .ref v=>BN v
 | .agg cs=>BJ cs
 | .fD cs=>BJ cs
 | .iface _ v=>BN v
 |_=>true
def BJ:List AV->Bool
 |[]=>true
 |v::l=>BN v&&BJ l
end
theorem Fp:∀{l:List AV},BJ l=true->∀i (hi:i<l.length),BN l[i]=true
 |[],_,i,hi=>by simp at hi
 |v::l,h,i,hi=>by
  simp only[BJ,aci]at h
  cases i with
  |zero=>exact h.1
  |succ i=>exact Fp h.2 i (by simpa using hi)
theorem BD:∀l,(CB l).length=l.length
 |[]=>rfl
 |v::l=>by simp[CB,BD l]
theorem EH:∀(l:List AV) i (hi:i<l.length),(CB l)[i]'(by rw[BD];exact hi)=Bc l[i]
 |[],i,hi=>by simp at hi
 |v::l,i,hi=>by
  cases i with
  |zero=>rfl
  |succ i=>exact EH l i (by simpa using hi)
theorem GQ(v:AV):(Bc v).cells=CB v.cells:=by
 cases v<;>simp[Bc,AV.cells,CB]
def eT.hide(ρ:eT)(base:Nat):eT:=⟨base,fun _=>none,fun _ _=>none,ρ.gG,fun _=>none⟩
theorem bf.nK{ρ ρ2:eT}(him:∀b o v,ρ.gG b o=some v->ρ2.gG b o=some v){v:AV}{c:Value}(h:bf ρ v c):BN v=true->bf ρ2 (Bc v) c:=by
 induction h with
 |bool b=>intro _;exact .bool b
 |int k n=>intro _;exact .int k n
 |str l=>intro _;exact .str l
 |gF=>intro _;exact .gF
 |ptr r off b h=>intro hp;simp[BN]at hp
 |ref v b off c hc _ ih=>
  intro hp
  have hp':BN v=true:=by simpa[BN]using hp
  have hl:(Bc v).cells.length=v.cells.length:=by rw[GQ,BD]
  refine .ref _ b off c (fun j hj=>him _ _ _ (hc j (by rw[<-hl];exact hj))) (fun j hj=>?_)
  have hj':j<v.cells.length:=by rw[<-hl];exact hj
  have hfc:BJ v.cells=true:=by
   cases v<;>simp_all [AV.cells,BN,BJ]
  have:=ih j hj' (Fp hfc j hj')
  have e:(Bc v).cells[j]=Bc v.cells[j]:=by
   simp only[GQ];exact EH _ _ _
  rw[e];exact this
 |aj=>intro _;exact .aj
 |fC xs cap b off n s c hs hc _ hn hcap ih=>
  intro hp
  have hp':BJ xs=true:=by simpa[BN]using hp
  have hlen:(CB xs).length=xs.length:=BD xs
  have hck:jR ρ2 (IE cap) b (off+(CB xs).length*s) s (CB xs).length n:=by
   rw[hlen]
   cases cap with
   |pat k m=>exact⟨hcap.1,hcap.2.1,fun i j hi hj=>him _ _ _ (hcap.2.2 i j hi hj)⟩
   |_=>trivial
  have key:bf ρ2 (.fC (CB xs) (IE cap)) (.slice (some ⟨b,off,none⟩) (CB xs).length n):=by
   refine .fC (CB xs) (IE cap) b off n s c (fun i hi=>?_) (fun i j hi hj=>him _ _ _ (hc i j (by rw[<-hlen];exact hi) hj)) (fun i hi j hj=>?_) (by rw[hlen];exact hn) hck
   ·have hi':i<xs.length:=by rw[<-hlen];exact hi
    rw[EH xs i hi',GQ,BD];exact hs i hi'
   ·have hi':i<xs.length:=by rw[<-hlen];exact hi
    have hx:=EH xs i hi'
    have hj':j<xs[i].cells.length:=by rw[hx,GQ,BD]at hj;exact hj
    have hfx:=Fp hp' i hi'
    have hfc:BJ xs[i].cells=true:=by
     generalize xs[i]=u at hfx
     cases u<;>simp_all [AV.cells,BN,BJ]
    have:=ih i hi' j hj' (Fp hfc j hj')
    have e:(CB xs)[i].cells[j]=Bc xs[i].cells[j]:=by
     have:(CB xs)[i].cells=CB xs[i].cells:=by rw[hx,GQ]
     simp only[this];exact EH _ _ _
    rw[e];exact this
  rw[hlen]at key;exact key
 |hsl r off len cap b n h hn hcap=>intro hp;simp[BN]at hp
 |fU=>intro _;exact .fU
 |map r b h=>intro hp;simp[BN]at hp
 |fn f g a b ca cb hf h1 _ h2 _ ih1 ih2=>intro hp;simp[BN]at hp
 |iq=>intro _;exact .iq
 |iface t v cv _ ih=>intro hp;exact .iface t _ cv (ih (by simpa[BN]using hp))
 |fH=>intro _;exact .fH
 |agg cs eU h1 _ ih=>
  intro hp
  refine .agg _ eU (by rw[BD];exact h1) fun i hi hj=>?_
  have hi':i<cs.length:=by rw[BD]at hi;exact hi
  rw[EH cs i hi']
  exact ih i hi' hj (Fp (by simpa[BN]using hp) i hi')
 |fD cs eU h1 _ ih=>
  intro hp
  refine .fD _ eU (by rw[BD];exact h1) fun i hi hj=>?_
  have hi':i<cs.length:=by rw[BD]at hi;exact hi
  rw[EH cs i hi']
  exact ih i hi' hj (Fp (by simpa[BN]using hp) i hi')
theorem bf.hide{ρ:eT}{b0:Nat}{v:AV}{c:Value}(h:bf ρ v c)(hf:BN v=true):bf (ρ.hide b0) (Bc v) c:=bf.nK (ρ:=ρ) (ρ2:=ρ.hide b0) (fun _ _ _ e=>e) h hf
theorem Rel.hide{ρ:eT}{h:AH}{w:World}(hR:Rel ρ h w):Rel (ρ.hide w.heap.size) .empty w where
 obj:=fun r o b h1 _=>by rw[DY]at h1;cases h1
 bound:=fun r b h1=>by cases h1
 inj:=fun r r' b h1=>by cases h1
 dom:=fun r o h1=>by rw[DY]at h1;cases h1
 fM:=fun g e b c h1=>by rw[DY]at h1;cases h1
 iF:=fun g e x h1=>by cases h1
 iW:=fun g e e' x h1=>by rw[DY]at h1;cases h1
 gone:=fun g o e x h1=>by rw[DY]at h1;cases h1
 je:=fun g g' e e' b c c' h1=>by rw[DY]at h1;cases h1
 gG:=hR.gG
 one:=hR.one
 jd:=fun b o v r _ h1=>by cases h1
 jk:=fun b z h1=>by cases h1
 jf:=fun b cs q=>by
  obtain⟨_,T,fr,h1⟩:=hR.jf b cs q
  exact⟨lt_of_block h1,T,fr,h1⟩
theorem Xm{E:Ev}(hE:Bq E){n:Nat}{k:FuncId}{args:List AV}{v:AV}{h':AH}(he:Ah E n (.func k) (CB args) .empty=some (.ret v,h')){ρ:eT}{h:AH}{w:World}{eP:List Value}
  (hR:Rel ρ h w) (ha:dw ρ args eP) (hf:BJ args=true) (hv:ER v=true):Qx E.P k/\Calls E.P k eP.toArray w (Ec ρ h w (.ret v) h):=by
 have hl:dw (ρ.hide w.heap.size) (CB args) eP:=⟨by rw[BD];exact ha.1,fun i hi hj=>by
  have hi':i<args.length:=by rw[BD]at hi;exact hi
  rw[EH args i hi']
  exact(ha.2 i hi' hj).hide (Fp hf i hi')⟩
 obtain⟨hk,hc⟩:=(Yk hE n).func k (CB args) .empty _ h' he (ρ.hide w.heap.size) w eP hR.hide (acu _) hl
 refine⟨hk,hc.mono fun e w' hp=>?_⟩
 cases e with
 |returned cv=>
  obtain⟨av,ρ',h1,h2,h3,h4⟩:=hp
  simp only[Aq.ret.injEq]at h1;subst h1
  have hg:iX w w':=⟨h4.os,h4.tape,h4.output,h4.size,fun k hk=>h4.kept k hk (fun ho=>by have:=ho.base hR.hide;have e:(ρ.hide w.heap.size).base=w.heap.size:=rfl;omega)⟩
  exact⟨v,ρ,rfl,h2.tV hv,hR.grew hg,Stp.grew hg⟩
 |panicked ch=>obtain⟨av,cv,ρ',h1,_⟩:=hp;cases h1
 |outgrown=>exact hp.elim
def Bb(hk:Ar)(f:FuncId)(s:List AV->Option AV):Ar:=fun g args h=>if g=f then(if BJ args then(match s (CB args)with|some v=>some (v,h)|none=>none)else none)else hk g args h
theorem R7(hk:Ar)(f:FuncId)(s:List AV->Option AV){args:List AV}{h:AH}(hf:BJ args=true):Bb hk f s f args h=(match s (CB args)with|some v=>some (v,h)|none=>none):=by simp[Bb,hf]
theorem I7(hk:Ar){f g:FuncId}(s:List AV->Option AV)(args:List AV)(ah:AH)(h:g≠f):Bb hk f s g args ah=hk g args ah:=by simp[Bb,h]
theorem LP{hk:Ar}{f:FuncId}{s:List AV->Option AV}{args:List AV}{h h':AH}{v:AV}(he:Bb hk f s f args h=some (v,h')):BJ args=true/\s (CB args)=some v/\h'=h:=by
 cases e:BJ args with
 |false=>simp[Bb,e]at he
 |true=>
  rw[R7 hk f s e]at he
  cases e2:s (CB args)with
  |none=>rw[e2]at he;cases he
  |some u=>rw[e2]at he;simp only[aai,abW]at he;obtain⟨rfl,rfl⟩:=he;exact⟨rfl,rfl,rfl⟩
theorem CK{P:Program}{mu:FuncId->Nat->Bool}{hk:Ar}{f:FuncId}{s:List AV->Option AV}(hE:Bq (Ak P mu hk))
  (hs:∀args v,s args=some v->ER v=true/\∃n h',Ah (Ak P mu hk) n (.func f) args .empty=some (.ret v,h')):Bq (Ak P mu (Bb hk f s)) where
 hk:=fun g args hh v hh' h ρ w eP hR hb ha=>by
  by_cases hg:g=f
  ·subst hg
   obtain⟨hfr,h',rfl⟩:=LP h
   obtain⟨p2,n,h1,he⟩:=hs _ v h'
   exact Xm hE he hR ha hfr p2
  ·have h':hk g args hh=some (v,hh'):=by rw[<-I7 hk s args hh hg];exact h
   exact hE.hk g args hh v hh' h' ρ w eP hR hb ha
 ng:=hE.ng
 eu:=hE.eu
def Lp:List (List AV × AV)->List AV->Option AV
 |[],_=>none
 |(a,v)::r,args=>if AV.jM a args then some v else Lp r args
theorem UC:∀{l:List (List AV × AV)} {args:List AV} {v:AV},Lp l args=some v->(args,v)∈l
 |[],_,_,h=>by cases h
 |(a,u)::r,args,v,h=>by
  simp only[Lp]at h
  split at h
  ·rename_i hb
   simp only[aai]at h;subst h
   rw[AV.iY hb];simp
  ·exact akr _ (UC h)
section
variable{P:Program}{mu:FuncId->Nat->Bool}{hk:Ar}
def cx(P:Program)(mu:FuncId->Nat->Bool)(hk:Ar)(n:Nat):Cx:=⟨P,mu,Ah (Ak P mu hk) n⟩
def rg(P:Program)(mu:FuncId->Nat->Bool)(hk:Ar)(n:Nat)(f:FuncId):Nat->Array Oper->gB->Option (Bl × gB):=fun _ ops s=>drawn (cx P mu hk n) f ops s
theorem Dr{n:Nat}{f:FuncId}{args:List AV}{h h':AH}{v:AV}(hh:hk f args h=some (v,h'))(hn:0<n):Ah (Ak P mu hk) n (.func f) args h=some (.ret v,h'):=by
 obtain⟨m,rfl⟩:∃m,n=m+1:=⟨n - 1,by omega⟩
 show(match hk f args h with
  |some r=>some (Aq.ret r.1,r.2)
  |none=>match P.funcs[f]? with
   |none=>none
   |some fn=>match fn.body with
    |none=>none
    |some c=>Er P fn (AB (cx P mu hk m) (rg P mu hk m f) f none m c ⟨args++List.replicate (fn.ntmps - args.length) Aj,[],h⟩))=_
 rw[hh]
def abD(P:Program)(mu:FuncId->Nat->Bool)(hk:Ar)(n:Nat)(f:FuncId)(fn:Func)(c:Code)(args:List AV)(h:AH):Option (Aq × AH):=
 Er P fn (AB (cx P mu hk n) (rg P mu hk n f) f none n c ⟨args++List.replicate (fn.ntmps - args.length) Aj,[],h⟩)
theorem adD{n:Nat}{f:FuncId}{fn:Func}{c:Code}{args:List AV}{h:AH}(hh:hk f args h=none)(hf:P.funcs[f]?=some fn)(hc:fn.body=some c) :
  Ah (Ak P mu hk) (n+1) (.func f) args h=abD P mu hk n f fn c args h:=by
 show(match hk f args h with
  |some r=>some (Aq.ret r.1,r.2)
  |none=>match P.funcs[f]? with
   |none=>none
   |some fn=>match fn.body with
    |none=>none
    |some c=>Er P fn (AB (cx P mu hk n) (rg P mu hk n f) f none n c ⟨args++List.replicate (fn.ntmps - args.length) Aj,[],h⟩))=_
 rw[hh,hf]
 simp only[hc]
 rfl
end
section
variable{X:Cx}{eu:Nat->Array Oper->gB->Option (Bl × gB)}{fn:FuncId}{rd:Option Id}{n:Nat}{s:gB}
end
end Go.Sk
namespace Go.Sk
inductive tX (X:Cx) (fn:FuncId) (ops:Array Oper) (h:AH):List Nat->List AV->List AV->Prop
 |nil (tm:List AV):tX X fn ops h [] tm tm
 |cons {j:Nat} {r:List Nat} {o:Oper} {tm mq tm2:List AV} {E1:List Dj} (ho:ops[j]?=some o) (hs:Gm X fn ops j o ⟨tm,h,[],[]⟩=some ⟨mq,h,E1,[]⟩) (hr:tX X fn ops h r mq tm2):tX X fn ops h (j::r) tm tm2
theorem adZ{X:Cx}{fn:FuncId}{ops:Array Oper}{j:Nat}{o:Oper}{tm mq:List AV}{h:AH}{E E1:List Dj}(hs:Gm X fn ops j o ⟨tm,h,[],[]⟩=some ⟨mq,h,E1,[]⟩) :
  Gm X fn ops j o ⟨tm,h,E,[]⟩=some ⟨mq,h,E++E1,[]⟩/\∀e∈E1,e.jg=h/\e.hNext=h:=by
 unfold Gm at hs ⊢
 simp only at hs ⊢
 repeat' split at hs
 all_goals first|(cases hs;done)|skip
 all_goals (simp only[aai,j3.mk.injEq]at hs)
 all_goals (obtain⟨h1,h2,h3,h4⟩:=hs)
 all_goals (subst h1)
 all_goals first
  |(simp at h4;done)
  |(subst h3;simp_all)
theorem tX.jO{X:Cx}{fn:FuncId}{ops:Array Oper}{h:AH}{L:List Nat}{tm tm':List AV}(hq:tX X fn ops h L tm tm'):∀E,∃E',Go.Sk.jO X fn ops L ⟨tm,h,E,[]⟩=some ⟨tm',h,E++E',[]⟩/\∀e∈E',e.jg=h/\e.hNext=h:=by
 induction hq with
 |nil tm=>intro E;exact⟨[],by simp[Go.Sk.jO],by simp⟩
 | @cons j r o tm mq tm2 E1 ho hs _ ih=>
  intro E
  obtain⟨h1,h2⟩:=adZ (E:=E) hs
  obtain⟨E',h3,h4⟩:=ih (E++E1)
  refine⟨E1++E',by simp only[Go.Sk.jO,ho,h1];rw[h3,ab7],fun e he=>?_⟩
  rcases acS.1 he with he|he
  ·exact h2 e he
  ·exact h4 e he
theorem GL{X:Cx}{fn:FuncId}{ops:Array Oper}{T:List Nat}{st:j3}:∀{L:List Nat},(∀j∈L,∃o,ops[j]?=some o/\GJ X fn ops T st j o=true)->Gf X fn ops T st L=true
 |[],_=>rfl
 |j::r,h=>by
  obtain⟨o,ho,hc⟩:=h j (by simp)
  simp only[Gf,ho,hc,akT]
  exact GL fun i hi=>h i (akr _ hi)
theorem Xo{X:Cx}{fn:FuncId}{ops:Array Oper}{pl:Plan}(hpl:Ga X.P (X.mu fn) ops=some pl){tm tm':List AV}{df:List Id}{h:AH}(hq:tX X fn ops h pl.ord tm tm'):drawn X fn ops ⟨tm,df,h⟩=some (.normal,⟨tm',df,h⟩):=by
 obtain⟨E',hst,hE⟩:=hq.jO []
 simp only[adk]at hst
 unfold drawn
 rw[hpl]
 simp only[hst]
 unfold Ga at hpl
 split at hpl
 case h_2=>cases hpl
 rename_i T hT
 simp only at hpl
 split at hpl
 case isFalse=>cases hpl
 rename_i hok
 simp only[aai]at hpl;subst hpl
 simp only[aci]at hok
 simp only at hst ⊢
 have hT0:su ops []:=⟨fun j m h=>by simp at h,fun j h=>by simp at h⟩
 obtain⟨oH,hTl⟩:=NP hT (fun i o hi=>by simpa using hi) hT0
 obtain⟨hdf,_,hsame⟩:=Vh (h0:=h) (gY:=tm) oH hok.1 _ 0 0 _ _ hok.2 hst (fun e he=>by simp at he) (.refl _) (fun _ _=>rfl) (fun _ _=>rfl) (fun i k h=>by simp at h) (fun e he=>by simp at he)
 have hno:j6 h E':=fun e he=>(hE e he).2
 rw[if_pos]
 simp only[ajM,aci]
 refine .inr ⟨⟨GL fun j hj=>?_,rfl⟩,rfl⟩
 obtain⟨o,ho,hop,_⟩:=hdf.op j hj
 refine⟨o,ho,?_⟩
 unfold GJ
 unfold nL at hop
 simp only at hop ⊢
 split
 ·rename_i hw
  rw[if_pos hw]at hop
  split
  ·rename_i hk
   rw[hk]at hop
   obtain⟨v,h1,h2,he,hsl,hh,_⟩:=hop
   obtain rfl:=hh hno trivial
   rw[ajG]
   intro k _
   have hend:gu E' h1 k=h1:=by
    unfold gu
    split
    ·rename_i e hek
     exact(hE e (acg hek)).1
    ·rfl
   rw[hend,he]
   simp only[ajM]
   right
   unfold Lr
   split
   ·rfl
   ·rename_i d hd
    split
    ·rename_i u hu
     have:=hsl d hd (abo.1 hu).1
     rw[hu]at this;simp only[aai]at this;subst this
     exact AV.beq_refl _
    ·rfl
  ·rfl
 ·rfl
def isLoad:Op->Bool
 | .load _ _=>true
 |_=>false
def LU:Op->Bool
 | .mapUpdate _ _ _ _=>true
 |_=>false
def VI(P:Program)(mu:Nat->Bool)(ops:Array Oper)(T:List Nat):Bool:=
 (List.range ops.size).all fun j=>match ops[j]? with
  |some o=>(match A8 P (o.dst.any mu) o.op with
   | .read=>(List.range ops.size).all fun i=>match ops[i]? with
    |some o'=>(match A8 P (o'.dst.any mu) o'.op with| .iD=>(T.getD i 0).testBit j||(isLoad o.op&&LU o'.op)|_=>true)
    |none=>true
   |_=>true)
  |none=>true
theorem VX{P:Program}{mu:Nat->Bool}{ops:Array Oper}{T:List Nat}(h:VI P mu ops T=true){j i:Nat}{o o':Oper}(ho:ops[j]?=some o)(hk:A8 P (o.dst.any mu) o.op= .read)(ho':ops[i]?=some o')(hk':A8 P (o'.dst.any mu) o'.op= .iD):(T.getD i 0).testBit j=true\/(isLoad o.op=true/\LU o'.op=true):=by
 have hj:j<ops.size:=(ajR.1 ho).1
 have hi:i<ops.size:=(ajR.1 ho').1
 have h1:=ajG.1 h j (ajD.2 hj)
 simp only[ho,hk]at h1
 have h2:=ajG.1 h1 i (ajD.2 hi)
 simpa only[ho',hk',ajM,aci]using h2
theorem NJ{P:Program}{t:TypeId}{p:AV}{h:AH}{r:Id}{es es':List (AV × AV × Nat)}{c c':Nat}(hr:h.get r=some (.map es c)):Ay P t p (h.set r (.map es' c'))=Ay P t p h:=by
 cases p<;>first|rfl|skip
 rename_i q off
 by_cases hq:q=r
 ·subst hq
  simp only[Ay,AH.ak,if_pos,hr]
 ·simp only[Ay,AH.ak,if_neg hq]
theorem X5{X:Cx}{fn:FuncId}{tm:List AV}{o:Oper}{h h':AH}{v:AV}(hm:LU o.op=true)(he:Cm X fn tm o h=some (.ret v,h'))(t:TypeId)(p:AV):Ay X.P t p h'=Ay X.P t p h:=by
 unfold LU at hm
 split at hm
 case h_2=>cases hm
 rename_i a b c d ho
 unfold Cm at he
 rw[ho]at he
 simp only at he
 split at he
 case h_2=>cases he
 rename_i m k x _ _ _
 unfold iM DL at he
 split at he
 case h_2=>cases he
 rename_i h2 hup
 simp only[aai,abW]at he
 obtain⟨_,rfl⟩:=he
 split at hup
 case h_2=>cases hup
 rename_i r _
 split at hup
 case h_2=>cases hup
 rename_i es clock hg
 split at hup
 ·simp only[aai]at hup;subst hup;exact NJ hg
 ·simp only[aai]at hup;subst hup;exact NJ hg
 ·cases hup
theorem aaN{X:Cx}{fn:FuncId}{tm:List AV}{o:Oper}{h h':AH}(hl:isLoad o.op=true)(hh:∀t p,Ay X.P t p h'=Ay X.P t p h){v:AV}{h1:AH}(he:Cm X fn tm o h=some (.ret v,h1)):∃h2,Cm X fn tm o h'=some (.ret v,h2):=by
 unfold isLoad at hl
 split at hl
 case h_2=>cases hl
 rename_i t a ho
 unfold Cm at he ⊢
 rw[ho]at he ⊢
 simp only at he ⊢
 split at he
 ·rw[hh]
  cases hv:Ay X.P t _ h with
  |none=>rw[hv]at he;cases he
  |some u=>
   rw[hv]at he
   simp only[fF,aai,abW]at he ⊢
   exact⟨h',by rw[he.1],rfl⟩
 ·cases he
theorem Ns{X:Cx}{fn:FuncId}{ops:Array Oper}{t:TypeId}{p:AV}:∀{h:AH} {E:List Dj} {h':AH},Chain X fn ops h E h'->∀k,(∀e∈E.take k,∀o,ops[e.j]?=some o->LU o.op=true)->k<=E.length->Ay X.P t p (gu E h' k)=Ay X.P t p h
 |h,[],h',hc,k,hm,hk=>by
  have:h'=h:=hc
  subst this
  simp[gu]
 |h,e::E,h',hc,0,hm,hk=>by
  simp[gu,hc.1]
 |h,e::E,h',hc,k+1,hm,hk=>by
  have:gu (e::E) h' (k+1)=gu E h' k:=by simp[gu]
  rw[this,Ns hc.2.2 k (fun e' he'=>hm e' (by simp[he'])) (by simpa using hk)]
  have h1:=hc.1
  rcases hc.2.1 with h2|⟨tm,o,v,ho,hev⟩
  ·rw[h2,h1]
  ·rw[X5 (hm e (by simp) o ho) hev,h1]
theorem Ww{X:Cx}{fn:FuncId}{ops:Array Oper}{pl:Plan}(hpl:Ga X.P (X.mu fn) ops=some pl)(pQ:VI X.P (X.mu fn) ops pl.T=true){tm tm':List AV}{df:List Id}{h h':AH}{E':List Dj}
  (hst:jO X fn ops pl.ord ⟨tm,h,[],[]⟩=some ⟨tm',h',E',[]⟩):drawn X fn ops ⟨tm,df,h⟩=some (.normal,⟨tm',df,h'⟩):=by
 have iV:=Px hst
 unfold drawn
 rw[hpl]
 simp only[hst]
 unfold Ga at hpl
 split at hpl
 case h_2=>cases hpl
 rename_i T hT
 simp only at hpl
 split at hpl
 case isFalse=>cases hpl
 rename_i hok
 simp only[aai]at hpl;subst hpl
 simp only[aci]at hok
 simp only at hst pQ ⊢
 have hT0:su ops []:=⟨fun j m h=>by simp at h,fun j h=>by simp at h⟩
 obtain⟨oH,hTl⟩:=NP hT (fun i o hi=>by simpa using hi) hT0
 obtain⟨hdf,_,hsame⟩:=Vh (h0:=h) (gY:=tm) oH hok.1 _ 0 0 _ _ hok.2 hst (fun e he=>by simp at he) (.refl _) (fun _ _=>rfl) (fun _ _=>rfl) (fun i k h=>by simp at h) (fun e he=>by simp at he)
 obtain⟨E2,hE2,hEk,_,_⟩:=hdf.E
 simp only[adk]at hE2
 subst hE2
 obtain⟨E3,A3,qC,hA3,hch⟩:=iV
 simp only[adk]at qC hA3
 subst qC;subst hA3
 have hch:=hch rfl
 simp only at hch
 rw[if_pos]
 simp only[ajM,aci]
 refine .inr ⟨⟨GL fun j hj=>?_,rfl⟩,rfl⟩
 obtain⟨o,ho,hop,_⟩:=hdf.op j hj
 refine⟨o,ho,?_⟩
 unfold GJ
 unfold nL at hop
 simp only at hop ⊢
 split
 ·rename_i hw
  rw[if_pos hw]at hop
  split
  ·rename_i hk
   rw[hk]at hop
   obtain⟨v,h1,h2,he,hsl,_,E1,E4,hE,hbit,hh⟩:=hop
   have qV:∀e∈E',(T.getD e.j 0).testBit j=false->isLoad o.op=true/\∀o',ops[e.j]?=some o'->LU o'.op=true:=fun e hm hb=>by
    obtain⟨_,o',ho',hk'⟩:=hEk e hm
    rcases VX pQ ho hk ho' hk' with h|⟨h3,h4⟩
    ·rw[hb]at h;cases h
    ·exact⟨h3,fun o2 ho2=>by rw[ho']at ho2;simp only[aai]at ho2;subst ho2;exact h4⟩
   have tY:E1.length<=E'.length:=by rw[hE];simp
   have h1e:h1=gu E' h' E1.length:=hh trivial
   have key:∀k,k<=E'.length->(∀e∈E'.take k,(T.getD e.j 0).testBit j=false)->∃h3,Cm X fn tm' o (gu E' h' k)=some (.ret v,h3):=by
    intro k hk2 hb
    by_cases hl:isLoad o.op=true
    ·refine aaN hl (fun t p=>?_) he
     rw[h1e,Ns hch k (fun e hm=>(qV e (ake hm) (hb e hm)).2) hk2,Ns hch E1.length (fun e hm=>(qV e (ake hm) (hbit e (by rw[hE]at hm;simpa using hm))).2) tY]
    ·have hk0:k=0:=by
      cases k with
      |zero=>rfl
      |succ k=>
       cases nX:E' with
       |nil=>rw[nX]at hk2;simp at hk2
       |cons e E6=>
        rw[nX]at hb
        exact absurd (qV e (by rw[nX];simp) (hb e (by simp))).1 hl
     have hE0:E1.length=0:=by
      cases E1 with
      |nil=>rfl
      |cons e r=>exact absurd (qV e (by rw[hE];simp) (hbit e (by simp))).1 hl
     rw[hk0,<-hE0,<-h1e]
     exact⟨h2,he⟩
   rw[ajG]
   intro k hkr
   have hkl:k<=E'.length:=by simp at hkr;omega
   cases hp:poss T E' j k with
   |false=>rfl
   |true=>
    unfold poss at hp
    simp only[aci]at hp
    obtain⟨h3,hev⟩:=key k hkl (fun e hm=>by have:=ajG.1 hp.1 e hm;simpa using this)
    rw[hev]
    simp only[ajM]
    right
    unfold Lr
    split
    ·rfl
    ·rename_i d hd
     split
     ·rename_i u hu
      have:=hsl d hd (abo.1 hu).1
      rw[hu]at this;simp only[aai]at this;subst this
      exact AV.beq_refl _
     ·rfl
  ·rfl
 ·rfl
end Go.Sk
namespace Go.Sk
section
variable{α:Type}
def Sm(v:AV)(k:AV->Option α):Option α:=
 match v with
 | .bool b=>k (.bool b)
 | .int t n=>k (.int t n)
 | .str l=>k (.str l)
 | .gF=>k .gF
 | .ptr r o=>k (.ptr r o)
 | .ref v=>k (.ref v)
 | .aj=>k .aj
 | .fC xs c=>k (.fC xs c)
 | .hsl r o l c=>k (.hsl r o l c)
 | .fU=>k .fU
 | .map r=>k (.map r)
 | .fn f a b=>k (.fn f a b)
 | .iq=>k .iq
 | .iface t v=>k (.iface t v)
 | .fH=>k .fH
 | .agg cs=>k (.agg cs)
 | .fD vs=>k (.fD vs)
theorem DW(v:AV)(k:AV->Option α):Sm v k=k v:=by cases v<;>rfl
def ZK:List AV->Nat->AV->(List AV->Option α)->Option α
 |[],_,_,k=>k []
 |_::l,0,v,k=>k (v::l)
 |a::l,i+1,v,k=>ZK l i v fun l'=>k (a::l')
theorem UO:∀(l:List AV) (i:Nat) (v:AV) (k:List AV->Option α),ZK l i v k=k (l.set i v)
 |[],_,_,_=>rfl
 |_::_,0,_,_=>rfl
 |a::l,i+1,v,k=>by rw[ZK,UO l i v];rfl
def wS:List AV->Nat->(AV->Option α)->Option α
 |[],_,k=>k Aj
 |a::_,0,k=>k a
 |_::l,i+1,k=>wS l i k
theorem VZ:∀(l:List AV) (i:Nat) (k:AV->Option α),wS l i k=k (l.getD i Aj)
 |[],_,_=>rfl
 |_::_,0,_=>rfl
 |a::l,i+1,k=>by rw[wS,VZ l i];rfl
def EF(tm:List AV)(d:Option Tmp)(v:AV)(k:List AV->Option α):Option α:=
 match d with
 |some d=>ZK tm d v k
 |none=>k tm
theorem EN(tm:List AV)(d:Option Tmp)(v:AV)(k:List AV->Option α):EF tm d v k=k (Iy tm d v):=by
 cases d with
 |none=>rfl
 |some d=>exact UO ..
def Co(tm:List AV)(x:Operand)(k:AV->Option α):Option α:=
 match x with
 | .tmp i=>wS tm i k
 |x=>match Av tm x with|some v=>Sm v k|none=>none
theorem IU(tm:List AV)(x:Operand)(k:AV->Option α):Co tm x k=(Av tm x).bind k:=by
 unfold Co
 split
 ·rw[VZ];rfl
 ·cases Av tm x with
  |none=>rfl
  |some v=>simp only[DW];rfl
def Ju(tm:List AV):List Operand->(List AV->Option α)->Option α
 |[],k=>k []
 |o::r,k=>Co tm o fun v=>Ju tm r fun l=>k (v::l)
theorem Jk(tm:List AV):∀(l:List Operand) (k:List AV->Option α),Ju tm l k=(Dh tm l).bind k
 |[],k=>rfl
 |o::r,k=>by
  unfold Ju Dh
  rw[IU]
  cases Av tm o with
  |none=>rfl
  |some v=>
   simp only[ajK]
   rw[Jk tm r]
   cases Dh tm r<;>rfl
def Lf(tm:List AV)(x:Option Operand)(k:Option AV->Option α):Option α:=
 match x with
 |none=>k none
 |some o=>Co tm o fun v=>k (some v)
theorem Xe(tm:List AV)(x:Option Operand)(k:Option AV->Option α):Lf tm x k=(D6 tm x).bind k:=by
 cases x with
 |none=>rfl
 |some o=>
  simp only[Lf,D6,IU]
  cases Av tm o<;>rfl
def Db(k kp:AV->AH->Option α):Option (Aq × AH)->Option α
 |some (.ret v,h)=>Sm v fun v=>k v h
 |some (.jl v,h)=>kp v h
 |none=>none
def YI(P:Program)(t:TypeId)(x ix:AV)(h:AH)(k kp:AV->AH->Option α):Option α:=
 match P.underlying t,x,ix with
 |some .string,.str s,.int _ i=>match decide (0<=i)with|true=>(match s[i.toNat]? with|some b=>k (.int .u8 b.toNat) h|none=>none)|false=>none
 |_,_,_=>Db k kp (fF h (MW P t x ix))
theorem aaL(P:Program)(t:TypeId)(x ix:AV)(h:AH)(k kp:AV->AH->Option α):YI P t x ix h k kp=Db k kp (fF h (MW P t x ix)):=by
 unfold YI
 split
 ·rename_i s kk i hu
  simp only[MW,hu]
  by_cases hi:0<=i
  ·rw[if_pos hi]
   simp only[hi,decide_true]
   cases s[i.toNat]?<;>rfl
  ·rw[if_neg hi]
   simp only[hi,decide_false]
   rfl
 ·rfl
def Nn(P:Program)(t:TypeId)(x ix:AV)(h:AH)(k kp:AV->AH->Option α):Option α:=
 match P.underlying t,x,ix with
 |some (.slice elem),.fC xs _,.int _ i=>
  match sizeT P elem with
  |some s=>
   match decide (0<=i)with
   |true=>(match xs[i.toNat]? with|some v=>(match Nat.beq v.cells.length s with|true=>k (.ref v) h|false=>none)|none=>none)
   |false=>none
  |none=>none
 |some (.slice elem),.hsl r off len _,.int _ i=>
  match sizeT P elem with
  |some s=>
   match decide (0<=i)with
   |true=>(match decide (i<(len:Int))with|true=>k (.ptr r (off+i.toNat*s)) h|false=>none)
   |false=>none
  |none=>none
 |_,_,_=>Db k kp (fF h (BX P t x ix))
theorem Tn(P:Program)(t:TypeId)(x ix:AV)(h:AH)(k kp:AV->AH->Option α):Nn P t x ix h k kp=Db k kp (fF h (BX P t x ix)):=by
 unfold Nn
 split
 ·rename_i elem xs c kk i hu
  simp only[BX,hu]
  cases sizeT P elem with
  |none=>rfl
  |some s=>
   simp only
   by_cases hi:0<=i
   ·simp only[hi,decide_true,true_and]
    by_cases hl:i<(xs.length:Int)
    ·rw[if_pos hl]
     cases hx:xs[i.toNat]? with
     |none=>rfl
     |some v=>
      simp only
      by_cases hs:v.cells.length=s
      ·rw[if_pos hs]
       have:Nat.beq v.cells.length s=true:=by rw[hs];exact Nat.beq_refl s
       rw[this];rfl
      ·rw[if_neg hs]
       have:Nat.beq v.cells.length s=false:=by
        cases e:Nat.beq v.cells.length s with
        |false=>rfl
        |true=>exact absurd (akk e) hs
       rw[this];rfl
    ·rw[if_neg hl]
     have:xs[i.toNat]?=none:=acD (by omega)
     rw[this];rfl
   ·simp only[hi,decide_false,false_and,if_false];rfl
 ·rename_i elem r off len c kk i hu
  simp only[BX,hu]
  cases sizeT P elem with
  |none=>rfl
  |some s=>
   simp only
   by_cases hi:0<=i
   ·simp only[hi,decide_true,true_and]
    by_cases hl:i<(len:Int)
    ·simp only[hl,decide_true,if_true];rfl
    ·simp only[hl,decide_false,if_false];rfl
   ·simp only[hi,decide_false,false_and,if_false];rfl
 ·rfl
def U9(o:Option AV)(top dflt:Nat)(k:Nat->Option α):Option α:=
 match o with
 |none=>k dflt
 |some (.int _ i)=>match decide (0<=i)with
  |true=>(match decide (i<=(top:Int))with|true=>k i.toNat|false=>none)
  |false=>none
 |some v=>(Cr (some v) top dflt).bind k
theorem aaI(o:Option AV)(top dflt:Nat)(k:Nat->Option α):U9 o top dflt k=(Cr o top dflt).bind k:=by
 unfold U9
 split
 ·rfl
 ·rename_i kk i
  by_cases h0:0<=i
  ·by_cases h1:i<=(top:Int)
   ·simp[Cr,Ir,h0,h1]
   ·simp[Cr,Ir,h0,h1]
  ·simp[Cr,Ir,h0]
 ·rfl
def abl(it:AV)(isString:Bool)(h:AH)(k kp:AV->AH->Option α):Option α:=
 match it,isString with
 | .ptr r 0,true=>
  match h.get r with
  |some (.jQ s pos)=>
   match decide (pos<s.length)with
   |true=>k (.fD [.bool true,.int .i64 pos,.int .i32 (Mj s pos).1]) (h.set r (.jQ s (pos+(Mj s pos).2)))
   |false=>k (.fD [.bool false]) h
  |_=>none
 |_,_=>Db k kp (CS (RS it isString h))
theorem abV(it:AV)(isString:Bool)(h:AH)(k kp:AV->AH->Option α):abl it isString h k kp=Db k kp (CS (RS it isString h)):=by
 unfold abl
 split
 ·rename_i r
  unfold RS
  simp only
  cases h.get r with
  |none=>rfl
  |some o=>
   cases o<;>first|rfl|skip
   rename_i s pos
   simp only
   by_cases hp:pos<s.length
   ·simp only[hp,decide_true,if_true];rfl
   ·simp only[hp,decide_false,if_false];rfl
 ·rfl
theorem TF:∃f:(AV->AH->Option α)->(AV->AH->Option α)->Option (Aq × AH)->Option α,f=Db:=⟨_,rfl⟩
@[irreducible] noncomputable def fq:(AV->AH->Option α)->(AV->AH->Option α)->Option (Aq × AH)->Option α:=Classical.choose (TF (α:=α))
theorem BF(k kp:AV->AH->Option α)(r:Option (Aq × AH)):fq k kp r=Db k kp r:=by
 unfold fq
 rw[Classical.choose_spec (TF (α:=α))]
theorem AQ{k kp:AV->AH->Option α}{r:Option (Aq × AH)}{v:AV}{h:AH}{y:Option α}(hr:r=some (.ret v,h))(hy:k v h=y):fq k kp r=y:=by
 rw[BF,hr];exact(DW v fun v=>k v h).trans hy
theorem Aa{Q:Option α->Prop}{k kp:AV->AH->Option α}{r:Option (Aq × AH)}{v:AV}{h:AH}(hr:r=some (.ret v,h))(hy:Q (k v h)):Q (fq k kp r):=by
 rw[AQ hr rfl];exact hy
noncomputable def Yz(P:Program)(t:TypeId)(x:AV)(lo hi mx:Option AV)(h:AH)(k kp:AV->AH->Option α):Option α:=
 match P.underlying t,x,mx with
 |some .string,.str s,none=>U9 hi s.length s.length fun b=>U9 lo b 0 fun a=>k (.str ((s.take b).drop a)) h
 |_,.fC xs c,mx=>fq k kp (fF h (ET P t (.fC xs c) lo hi mx))
 |_,.hsl r o l c,mx=>fq k kp (fF h (ET P t (.hsl r o l c) lo hi mx))
 |_,_,_=>Db k kp (fF h (ET P t x lo hi mx))
theorem aao(P:Program)(t:TypeId)(x:AV)(lo hi mx:Option AV)(h:AH)(k kp:AV->AH->Option α):Yz P t x lo hi mx h k kp=Db k kp (fF h (ET P t x lo hi mx)):=by
 unfold Yz
 split
 ·rename_i s hu
  simp only[aaI,ET,hu,D7]
  simp only[ak7,akW,ajI,if_false]
  rw[show Cr none s.length s.length=some s.length from rfl]
  simp only[ajK]
  cases Cr hi s.length s.length with
  |none=>rfl
  |some b=>
   simp only[ajK]
   cases Cr lo b 0<;>rfl
 ·exact BF ..
 ·exact BF ..
 ·rfl
noncomputable def Rv(P:Program)(src dst:TypeId)(x:AV)(h:AH)(k kp:AV->AH->Option α):Option α:=
 match x with
 | .int kk n=>Db k kp (CS (GU P src dst (.int kk n) h))
 |x=>fq k kp (CS (GU P src dst x h))
theorem XH(P:Program)(src dst:TypeId)(x:AV)(h:AH)(k kp:AV->AH->Option α):Rv P src dst x h k kp=Db k kp (CS (GU P src dst x h)):=by
 unfold Rv
 split
 ·rfl
 ·exact BF ..
noncomputable def abK(P:Program)(t:TypeId)(p:AV)(h:AH)(k kp:AV->AH->Option α):Option α:=
 match p with
 | .ptr r off=>fq k kp (fF h (Ay P t (.ptr r off) h))
 |p=>Db k kp (fF h (Ay P t p h))
theorem abk(P:Program)(t:TypeId)(p:AV)(h:AH)(k kp:AV->AH->Option α):abK P t p h k kp=Db k kp (fF h (Ay P t p h)):=by
 unfold abK
 split
 ·exact BF ..
 ·rfl
noncomputable def abQ(P:Program)(t:TypeId)(p v:AV)(h:AH)(k kp:AV->AH->Option α):Option α:=fq k kp (iM (Ce P t p v h))
theorem aay(P:Program)(t:TypeId)(p v:AV)(h:AH)(k kp:AV->AH->Option α):abQ P t p v h k kp=Db k kp (iM (Ce P t p v h)):=BF ..
noncomputable def ach(X:Cx)(mu:Bool)(tm:List AV)(c:Call)(h:AH)(k kp:AV->AH->Option α):Option α:=
 Ju tm c.args.toList fun args=>
  match c.callee with
  | .value f=>Co tm f fun v=>
   match v with
   | .fn (.func g) [] []=>(match X with|⟨_,_,call⟩=>fq k kp (call (.func g) args h))
   | .fn (.func g) first captured=>(match X with|⟨_,_,call⟩=>fq k kp (call (.func g) (first++args++captured) h))
   | .fn (.yield l) [] []=>(match X with|⟨_,_,call⟩=>fq k kp (call (.yield l) args h))
   | .fn (.yield l) first captured=>Db k kp (if captured.isEmpty then X.call (.yield l) (first++args) h else none)
   |_=>none
  | .builtin .append=>fq k kp (Bh X mu .append c.argTypes args h)
  | .builtin b=>Db k kp (Bh X mu b c.argTypes args h)
  |_=>none
theorem abI(X:Cx)(mu:Bool)(tm:List AV)(c:Call)(h:AH)(k kp:AV->AH->Option α):ach X mu tm c h k kp=Db k kp (IZ X mu tm c h):=by
 unfold ach IZ
 rw[Jk]
 cases Dh tm c.args.toList with
 |none=>rfl
 |some args=>
  simp only[ajK]
  cases c.callee with
  |builtin b=>cases b<;>first|rfl|exact BF ..
  |invoke a b=>rfl
  |value f=>
   simp only
   rw[IU]
   cases Av tm f with
   |none=>rfl
   |some v=>
    simp only[ajK]
    cases v<;>first|rfl|skip
    rename_i f a b
    cases f with
    |yield l=>cases a with
     |nil=>cases b with
      |nil=>simp only[BF,adk,List.isEmpty_nil,if_true]
      |cons=>rfl
     |cons=>rfl
    |func g=>cases a with
     |nil=>cases b with
      |nil=>simp only[BF,adk,ajP]
      |cons=>exact BF ..
     |cons=>exact BF ..
noncomputable def aez(sh:Bool)(P:Program)(op:BinOp)(t:TypeId)(x y:Operand)(a b:AV)(h:AH)(k kp:AV->AH->Option α):Option α:=
 match sh,a with
 |true,.agg cs=>fq k kp (fF h (FH P op t x y (.agg cs) b))
 |true,.str l=>match op with
  | .add=>fq k kp (fF h (FH P .add t x y (.str l) b))
  |op=>Db k kp (fF h (FH P op t x y (.str l) b))
 |_,a=>Db k kp (fF h (FH P op t x y a b))
theorem adI(sh:Bool)(P:Program)(op:BinOp)(t:TypeId)(x y:Operand)(a b:AV)(h:AH)(k kp:AV->AH->Option α):aez sh P op t x y a b h k kp=Db k kp (fF h (FH P op t x y a b)):=by
 unfold aez
 split
 ·exact BF ..
 ·split
  ·exact BF ..
  ·rfl
 ·rfl
def O0(P:Program)(T:TypeId)(h:AH):Option (Aq × AH):=match BL P T with|some z=>CS (La T z h)|none=>none
theorem Cb{P:Program}{T:TypeId}{h:AH}{z:AV}{cs:List AV}(hz:BL P T=some z)(hc:z.cells=cs)(hs:cs.all AV.scalar=true):O0 P T h=some (.ret (.ptr h.next 0),h.alloc (.cells cs T)):=by
 subst hc
 simp only[O0,hz,La,if_pos hs,CS]
noncomputable def Yc(sh:Bool)(X:Cx)(mu:Bool)(tm:List AV)(c:Call)(h:AH)(k kp:AV->AH->Option α):Option α:=
 match sh,c.callee with
 |true,.builtin .len=>Ju tm c.args.toList fun args=>fq k kp (Bh X mu .len c.argTypes args h)
 |_,_=>ach X mu tm c h k kp
theorem aag(sh:Bool)(X:Cx)(mu:Bool)(tm:List AV)(c:Call)(h:AH)(k kp:AV->AH->Option α):Yc sh X mu tm c h k kp=Db k kp (IZ X mu tm c h):=by
 unfold Yc
 split
 ·rename_i hc
  unfold IZ
  rw[Jk,hc]
  cases Dh tm c.args.toList with
  |none=>rfl
  |some args=>exact BF ..
 ·exact abI ..
noncomputable def mI(sh:Bool)(X:Cx)(fn:FuncId)(tm:List AV)(o:Oper)(h:AH)(k kp:AV->AH->Option α):Option α:=
 match o.op with
 | .move x| .assign x=>Co tm x fun v=>k v h
 | .binOp op t x y _=>Co tm x fun a=>Co tm y fun b=>aez sh X.P op t x y a b h k kp
 | .unOp op _ x=>Co tm x fun a=>Db k kp (fF h (WY op a))
 | .extract t ix=>Co tm t fun v=>(match v with| .fD vs=>(match vs[ix]? with|some v=>Sm v fun v=>k v h|none=>none)|_=>none)
 | .index t x ix=>Co tm x fun a=>Co tm ix fun b=>YI X.P t a b h k kp
 | .indexAddr t x ix=>Co tm x fun a=>Co tm ix fun b=>(match sh with|true=>fq k kp (fF h (BX X.P t a b))|false=>Nn X.P t a b h k kp)
 | .pick c a b=>Co tm c fun c=>
  (match c with
  | .bool v=>(match v with
   |true=>Co tm a fun x=>k x h
   |false=>Co tm b fun x=>k x h)
  |_=>none)
 | .convert src dst x=>Co tm x fun a=>Rv X.P src dst a h k kp
 | .load t a=>Co tm a fun p=>abK X.P t p h k kp
 | .store t a x=>Co tm a fun p=>Co tm x fun v=>abQ X.P t p v h k kp
 | .field t x f=>Co tm x fun v=>Db k kp (fF h (S9 X.P t v f))
 | .fieldAddr s x f=>Co tm x fun v=>Db k kp (fF h (IG X.P s v f))
 | .next it s=>Co tm it fun v=>abl v s h k kp
 | .range t x=>Co tm x fun v=>Db k kp (CS (Td X.P t v h))
 | .slice t x lo hi mx=>Co tm x fun v=>Lf tm lo fun a=>Lf tm hi fun b=>Lf tm mx fun c=>(match sh with|true=>fq k kp (fF h (ET X.P t v a b c))|false=>Yz X.P t v a b c h k kp)
 | .alloc elem=>(match sh with|true=>fq k kp (O0 X.P elem h)|false=>Db k kp (O0 X.P elem h))
 | .box elem x=>Co tm x fun v=>(match sh with|true=>fq k kp (CS (La elem v h))|false=>Db k kp (CS (La elem v h)))
 | .makeSlice t l c=>Co tm l fun a=>Co tm c fun b=>fq k kp (CS (FW X.P t a b h))
 | .lookup t x ix ok=>Co tm x fun a=>Co tm ix fun b=>fq k kp (fF h (Eb X.P t a b ok h))
 | .mapUpdate t m i x=>Co tm m fun a=>Co tm i fun b=>Co tm x fun c=>fq k kp (iM (DL X.P t a b c h))
 | .mapEntry t m i=>Co tm m fun a=>Co tm i fun b=>fq k kp (CS (FZ X.P t a b h))
 | .entryStore _ m s x=>Co tm m fun a=>Co tm s fun b=>Co tm x fun c=>fq k kp (iM (CW a b c h))
 | .call c=>Yc sh X (o.dst.any (X.mu fn)) tm c h k kp
 |_=>Db k kp (Cm X fn tm o h)
theorem Tf(sh:Bool)(X:Cx)(fn:FuncId)(tm:List AV)(o:Oper)(h:AH)(k kp:AV->AH->Option α):mI sh X fn tm o h k kp=Db k kp (Cm X fn tm o h):=by
 unfold mI
 split<;>first|rfl|skip
 all_goals (rename_i ho;unfold Cm;rw[ho];simp only[IU,Xe])
 ·rename_i x
  cases Av tm x<;>first|rfl|exact(DW _ fun v=>k v h).symm
 ·rename_i x
  cases Av tm x<;>first|rfl|exact(DW _ fun v=>k v h).symm
 ·rename_i op t x y _
  cases Av tm x with
  |none=>rfl
  |some a=>
   cases Av tm y with
   |none=>rfl
   |some b=>exact adI ..
 ·rename_i op _ x
  cases Av tm x<;>rfl
 ·rename_i t ix
  cases Av tm t with
  |none=>rfl
  |some v=>
   cases v<;>first|rfl|skip
   rename_i vs
   simp only[ajK]
   cases vs[ix]?<;>rfl
 ·rename_i t x ix
  cases Av tm x with
  |none=>rfl
  |some a=>
   cases Av tm ix with
   |none=>rfl
   |some b=>exact aaL ..
 ·rename_i t x ix
  cases Av tm x with
  |none=>rfl
  |some a=>
   cases Av tm ix with
   |none=>rfl
   |some b=>
    cases sh with
    |true=>exact BF ..
    |false=>exact Tn ..
 ·rename_i c a b
  cases Av tm c with
  |none=>rfl
  |some v=>
   cases v<;>first|rfl|skip
   rename_i v
   cases v with
   |true=>simp only[ajK];cases Av tm a<;>first|rfl|exact(DW _ fun v=>k v h).symm
   |false=>simp only[ajK];cases Av tm b<;>first|rfl|exact(DW _ fun v=>k v h).symm
 ·rename_i src dst x
  cases Av tm x with
  |none=>rfl
  |some v=>exact XH ..
 ·rename_i t a
  cases Av tm a with
  |none=>rfl
  |some v=>exact abk ..
 ·rename_i t a x
  cases Av tm a with
  |none=>rfl
  |some p=>
   cases Av tm x with
   |none=>rfl
   |some v=>exact aay ..
 ·rename_i t x f
  cases Av tm x<;>rfl
 ·rename_i t x f
  cases Av tm x<;>rfl
 ·rename_i t x
  cases Av tm t with
  |none=>rfl
  |some v=>exact abV ..
 ·rename_i t x
  cases Av tm x<;>rfl
 ·rename_i t x lo hi mx
  cases Av tm x with
  |none=>rfl
  |some a=>
   cases D6 tm lo with
   |none=>rfl
   |some b=>
    cases D6 tm hi with
    |none=>rfl
    |some c=>
     cases D6 tm mx with
     |none=>rfl
     |some d=>
      cases sh with
      |true=>exact BF ..
      |false=>exact aao ..
 ·cases sh with
  |true=>exact BF ..
  |false=>rfl
 ·rename_i elem x
  cases Av tm x with
  |none=>rfl
  |some v=>
   cases sh with
   |true=>exact BF ..
   |false=>rfl
 ·rename_i t l c
  cases Av tm l with
  |none=>rfl
  |some a=>
   cases Av tm c with
   |none=>rfl
   |some b=>exact BF ..
 ·rename_i t x ix ok
  cases Av tm x with
  |none=>rfl
  |some a=>
   cases Av tm ix with
   |none=>rfl
   |some b=>exact BF ..
 ·rename_i t m i x
  cases Av tm m with
  |none=>rfl
  |some a=>
   cases Av tm i with
   |none=>rfl
   |some b=>
    cases Av tm x with
    |none=>rfl
    |some c=>exact BF ..
 ·rename_i t m i
  cases Av tm m with
  |none=>rfl
  |some a=>
   cases Av tm i with
   |none=>rfl
   |some b=>exact BF ..
 ·rename_i t m i x
  cases Av tm m with
  |none=>rfl
  |some a=>
   cases Av tm i with
   |none=>rfl
   |some b=>
    cases Av tm x with
    |none=>rfl
    |some c=>exact BF ..
 ·exact aag ..
def Np(tm:List AV)(d:Nat)(yes no bad:List AV->Option α):Option α:=
 wS tm d fun v=>match v with
  | .bool b=>(match b with
   |true=>ZK tm d (.bool true) yes
   |false=>ZK tm d (.bool false) no)
  |_=>bad tm
theorem aa0{tm:List AV}{d:Nat}{b:Bool}(h:tm.getD d Aj= .bool b):tm.set d (.bool b)=tm:=by
 induction tm generalizing d with
 |nil=>rfl
 |cons a l ih=>
  cases d with
  |zero=>simp at h;subst h;rfl
  |succ d=>simp only[ak9];rw[ih (by simpa using h)]
theorem UA(tm:List AV)(d:Nat)(yes no bad:List AV->Option α):Np tm d yes no bad=(match tm.getD d Aj with| .bool true=>yes tm| .bool false=>no tm|_=>bad tm):=by
 unfold Np
 rw[VZ]
 have hs:=fun b=>aa0 (tm:=tm) (d:=d) (b:=b)
 revert hs
 cases tm.getD d Aj<;>intro hs<;>first|rfl|skip
 rename_i b
 cases b<;>simp only[UO]<;>rw[hs _ rfl]
def FM(ops:Array Oper)(tm:List AV)(o:Oper)(yes no:List AV->Option α):Option α:=
 match o.guard with
 |none=>yes tm
 |some (j,want)=>
  match(ops[j]?).bind (·.dst)with
  |some d=>(match want with
   |true=>Np tm d yes no no
   |false=>Np tm d no yes no)
  |none=>no tm
def VP:Option AV->Option Bool
 |some (.bool b)=>some b
 |_=>none
theorem Y5(tm:List AV)(d:Nat):VP tm[d]?=VP (some (tm.getD d Aj)):=by
 rw[aal]
 cases tm[d]?<;>rfl
theorem IW(ops:Array Oper)(tm:List AV)(o:Oper)(yes no:List AV->Option α):FM ops tm o yes no=if BU ops tm o then yes tm else no tm:=by
 unfold FM BU
 cases o.guard with
 |none=>rfl
 |some p=>
  obtain⟨j,want⟩:=p
  have key:∀y:Option Tmp,(match y with|some d=>(match want with|true=>Np tm d yes no no|false=>Np tm d no yes no)|none=>no tm)=if((match y with|some d=>VP tm[d]?|none=>none)==some want)=true then yes tm else no tm:=by
   intro y
   cases y with
   |none=>rfl
   |some d=>
    simp only[UA,Y5]
    cases tm.getD d Aj<;>first|(cases want<;>rfl)|skip
    rename_i b
    cases b<;>cases want<;>rfl
  exact key ((ops[j]?).bind (·.dst))
noncomputable def wT(sh:Bool)(X:Cx)(fn:FuncId)(ops:Array Oper)(l:List Oper):List AV->AH->(List AV->AH->Option α)->(AV->List AV->AH->Option α)->Option α:=
 List.rec (motive:=fun _=>List AV->AH->(List AV->AH->Option α)->(AV->List AV->AH->Option α)->Option α)
  (fun tm h k _=>k tm h)
  (fun o _ go tm h k kp=>
   FM ops tm o
    (fun tm=>mI sh X fn tm o h (fun v h'=>EF tm o.dst v fun tm=>go tm h' k kp) (fun v h'=>kp v tm h'))
    (fun tm=>EF tm o.dst Aj fun tm=>go tm h k kp)) l
theorem VR(sh:Bool)(X:Cx)(fn:FuncId)(ops:Array Oper)(df:List Id)(k:List AV->AH->Option α)(kp:AV->List AV->AH->Option α):∀(l:List Oper) (tm:List AV) (h:AH),
  wT sh X fn ops l tm h k kp=(Hr X fn ops l ⟨tm,df,h⟩).bind fun r=>match r.1 with| .normal=>k r.2.tm r.2.h| .jl v=>kp v r.2.tm r.2.h|_=>none
 |[],tm,h=>rfl
 |o::r,tm,h=>by
  show FM ops tm o (fun tm=>mI sh X fn tm o h (fun v h'=>EF tm o.dst v fun tm=>wT sh X fn ops r tm h' k kp) (fun v h'=>kp v tm h')) (fun tm=>EF tm o.dst Aj fun tm=>wT sh X fn ops r tm h k kp)=_
  unfold Hr
  rw[IW]
  split
  ·rw[Tf]
   cases Cm X fn tm o h with
   |none=>rfl
   |some x=>
    obtain⟨x,h'⟩:=x
    cases x with
    |ret v=>
     simp only[Db,DW,EN]
     exact VR sh X fn ops df k kp r _ h'
    |jl v=>rfl
  ·rw[EN];exact VR sh X fn ops df k kp r _ h
open Classical in
@[irreducible] noncomputable def iO (h:AH) (k:AV->Option α) (r:Option (Aq × AH)):Option α:=
 match r with
 |some (.ret v,h')=>if h'=h then k v else none
 |_=>none
theorem PS{h:AH}{k:AV->Option α}{r:Option (Aq × AH)}{v:AV}{y:Option α}(hr:r=some (.ret v,h))(hy:k v=y):iO h k r=y:=by
 unfold iO;rw[hr];simp only[if_true];exact hy
theorem Gq{Q:Option α->Prop}{h:AH}{k:AV->Option α}{r:Option (Aq × AH)}{v:AV}(hr:r=some (.ret v,h))(hy:Q (k v)):Q (iO h k r):=by
 rw[PS hr rfl];exact hy
theorem Jb{h:AH}{k:AV->Option α}{r:Option (Aq × AH)}{y:α}(hr:iO h k r=some y):∃v,r=some (.ret v,h)/\k v=some y:=by
 unfold iO at hr
 split at hr
 ·rename_i v h'
  split at hr
  ·rename_i he;subst he;exact⟨v,rfl,hr⟩
  ·cases hr
 ·cases hr
noncomputable def Vf(X:Cx)(fn:FuncId)(tm:List AV)(o:Oper)(c:Call)(h:AH)(k:AV->Option α):Option α:=
 match c.callee with
 | .value f=>Ju tm c.args.toList fun args=>Co tm f fun v=>
  match v with
  | .fn (.func g) [] []=>(match X with|⟨_,_,call⟩=>iO h k (call (.func g) args h))
  |_=>iO h k (Cm X fn tm o h)
 |_=>iO h k (Cm X fn tm o h)
theorem XV{X:Cx}{fn:FuncId}{tm:List AV}{o:Oper}{c:Call}{h:AH}{k:AV->Option α}{y:α}(ho:o.op= .call c)(hr:Vf X fn tm o c h k=some y):∃v,Cm X fn tm o h=some (.ret v,h)/\k v=some y:=by
 unfold Vf at hr
 split at hr
 ·rename_i f hf
  rw[Jk]at hr
  have he:Cm X fn tm o h=IZ X (o.dst.any (X.mu fn)) tm c h:=by unfold Cm;rw[ho]
  rw[he]at hr ⊢
  unfold IZ at hr ⊢
  rw[hf]at hr ⊢
  cases ha:Dh tm c.args.toList with
  |none=>rw[ha]at hr;cases hr
  |some args=>
   rw[ha]at hr
   simp only[ajK,IU]at hr ⊢
   cases hv:Av tm f with
   |none=>rw[hv]at hr;cases hr
   |some v=>
    rw[hv]at hr
    simp only[ajK]at hr
    split at hr
    ·have:=Jb hr
     simpa using this
    ·exact Jb hr
 ·exact Jb hr
noncomputable def P7(sh:Bool)(X:Cx)(fn:FuncId)(ops:Array Oper)(h:AH)(ord:List Nat):List AV->(List AV->Option α)->Option α:=
 List.rec (motive:=fun _=>List AV->(List AV->Option α)->Option α)
  (fun tm k=>k tm)
  (fun j _ go tm k=>
   match ops[j]? with
   |some o=>
    FM ops tm o
     (fun tm=>
      match A8 X.P (o.dst.any (X.mu fn)) o.op with
      | .new=>none
      | .iD=>(match o.op with
       | .call c=>Vf X fn tm o c h fun v=>EF tm o.dst v fun tm=>go tm k
       |_=>iO h (fun v=>EF tm o.dst v fun tm=>go tm k) (Cm X fn tm o h))
      |_=>mI sh X fn tm o h (fun v _=>EF tm o.dst v fun tm=>go tm k) (fun _ _=>none))
     (fun tm=>EF tm o.dst Aj fun tm=>go tm k)
   |none=>none) ord
theorem LX{sh:Bool}{X:Cx}{fn:FuncId}{ops:Array Oper}{h:AH}{k:List AV->Option α}{y:α}:∀{ord:List Nat} {tm:List AV},P7 sh X fn ops h ord tm k=some y->∃tm',tX X fn ops h ord tm tm'/\k tm'=some y
 |[],tm,he=>⟨tm,.nil tm,he⟩
 |j::r,tm,he=>by
  have he:(match ops[j]? with
   |some o=>
    FM ops tm o
     (fun tm=>
      match A8 X.P (o.dst.any (X.mu fn)) o.op with
      | .new=>none
      | .iD=>(match o.op with
       | .call c=>Vf X fn tm o c h fun v=>EF tm o.dst v fun tm=>P7 sh X fn ops h r tm k
       |_=>iO h (fun v=>EF tm o.dst v fun tm=>P7 sh X fn ops h r tm k) (Cm X fn tm o h))
      |_=>mI sh X fn tm o h (fun v _=>EF tm o.dst v fun tm=>P7 sh X fn ops h r tm k) (fun _ _=>none))
     (fun tm=>EF tm o.dst Aj fun tm=>P7 sh X fn ops h r tm k)
   |none=>none)=some y:=he
  cases ho:ops[j]? with
  |none=>rw[ho]at he;cases he
  |some o=>
  rw[ho]at he
  simp only[IW]at he
  split at he
  ·rename_i hw
   split at he
   ·cases he
   ·rename_i hk
    have:∃v,Cm X fn tm o h=some (.ret v,h)/\P7 sh X fn ops h r (Iy tm o.dst v) k=some y:=by
     split at he
     ·rename_i c hc
      obtain⟨v,h1,h2⟩:=XV hc he
      rw[EN]at h2;exact⟨v,h1,h2⟩
     ·obtain⟨v,h1,h2⟩:=Jb he
      rw[EN]at h2;exact⟨v,h1,h2⟩
    obtain⟨v,h1,h2⟩:=this
    obtain⟨tm',h3,h4⟩:=LX h2
    exact⟨tm',.cons ho (by unfold Gm;rw[if_pos hw];simp only[hk,h1];rfl) h3,h4⟩
   ·rename_i hk1 hk2
    rw[Tf]at he
    cases hev:Cm X fn tm o h with
    |none=>rw[hev]at he;cases he
    |some x=>
     obtain⟨x,h'⟩:=x
     rw[hev]at he
     cases x with
     |jl v=>cases he
     |ret v=>
      simp only[Db,DW,EN]at he
      obtain⟨tm',h3,h4⟩:=LX he
      refine⟨tm',.cons (E1:=[]) ho ?_ h3,h4⟩
      unfold Gm
      rw[if_pos hw]
      cases hk:A8 X.P (o.dst.any (X.mu fn)) o.op with
      |new=>exact absurd hk hk1
      |iD=>exact absurd hk hk2
      |pure=>simp only[hev]
      |read=>simp only[hev]
  ·rename_i hw
   rw[EN]at he
   obtain⟨tm',h3,h4⟩:=LX he
   by_cases hk:A8 X.P (o.dst.any (X.mu fn)) o.op= .iD
   ·exact⟨tm',.cons (E1:=[⟨j,h,h⟩]) ho (by unfold Gm;rw[if_neg hw,hk];rfl) h3,h4⟩
   ·refine⟨tm',.cons (E1:=[]) ho ?_ h3,h4⟩
    unfold Gm
    rw[if_neg hw]
    cases hk2:A8 X.P (o.dst.any (X.mu fn)) o.op with
    |iD=>exact absurd hk2 hk
    |new=>rfl
    |pure=>rfl
    |read=>rfl
noncomputable def O9(sh:Bool)(X:Cx)(fn:FuncId)(ops:Array Oper)(ord:List Nat):List AV->AH->(List AV->AH->Option α)->Option α:=
 List.rec (motive:=fun _=>List AV->AH->(List AV->AH->Option α)->Option α)
  (fun tm h k=>k tm h)
  (fun j _ go tm h k=>
   match ops[j]? with
   |some o=>
    FM ops tm o
     (fun tm=>
      match A8 X.P (o.dst.any (X.mu fn)) o.op with
      | .new=>none
      | .iD=>mI sh X fn tm o h (fun v h'=>EF tm o.dst v fun tm=>go tm h' k) (fun _ _=>none)
      |_=>mI sh X fn tm o h (fun v _=>EF tm o.dst v fun tm=>go tm h k) (fun _ _=>none))
     (fun tm=>EF tm o.dst Aj fun tm=>go tm h k)
   |none=>none) ord
theorem MV{sh:Bool}{X:Cx}{fn:FuncId}{ops:Array Oper}{k:List AV->AH->Option α}{y:α}:∀{ord:List Nat} {tm:List AV} {h:AH} {E:List Dj},O9 sh X fn ops ord tm h k=some y->
  ∃tm' h' E',jO X fn ops ord ⟨tm,h,E,[]⟩=some ⟨tm',h',E',[]⟩/\k tm' h'=some y
 |[],tm,h,E,he=>⟨tm,h,E,rfl,he⟩
 |j::r,tm,h,E,he=>by
  have he:(match ops[j]? with
   |some o=>
    FM ops tm o
     (fun tm=>
      match A8 X.P (o.dst.any (X.mu fn)) o.op with
      | .new=>none
      | .iD=>mI sh X fn tm o h (fun v h'=>EF tm o.dst v fun tm=>O9 sh X fn ops r tm h' k) (fun _ _=>none)
      |_=>mI sh X fn tm o h (fun v _=>EF tm o.dst v fun tm=>O9 sh X fn ops r tm h k) (fun _ _=>none))
     (fun tm=>EF tm o.dst Aj fun tm=>O9 sh X fn ops r tm h k)
   |none=>none)=some y:=he
  simp only[jO]
  cases ho:ops[j]? with
  |none=>rw[ho]at he;cases he
  |some o=>
  rw[ho]at he
  simp only[IW,Tf]at he
  unfold Gm
  simp only
  split at he
  ·rename_i hw
   rw[if_pos hw]
   cases hk:A8 X.P (o.dst.any (X.mu fn)) o.op<;>rw[hk]at he<;>simp only at he ⊢
   case new=>cases he
   all_goals
    cases hev:Cm X fn tm o h with
    |none=>rw[hev]at he;cases he
    |some x=>
     obtain⟨x,h'⟩:=x
     rw[hev]at he
     cases x with
     |jl v=>cases he
     |ret v=>
      simp only[Db,DW,EN]at he ⊢
      exact MV he
  ·rename_i hw
   rw[if_neg hw]
   rw[EN]at he
   cases hk:A8 X.P (o.dst.any (X.mu fn)) o.op<;>simp only<;>exact MV he
def Yn(tab:Nat->Option (List Nat)):Bool:=match tab 999999 with|some _=>true|none=>false
theorem Ko{X:Cx}{fn:FuncId}{ops:Array Oper}:∀{l:List Oper} {s:gB} {r:Bl × gB},Hr X fn ops l s=some r->(r.1= .normal\/∃v,r.1= .jl v)/\r.2.df=s.df
 |[],s,r,h=>by simp only[Hr,aai]at h;subst h;exact⟨.inl rfl,rfl⟩
 |o::l,s,r,h=>by
  unfold Hr at h
  split at h
  ·split at h
   ·have:=Ko h;exact this
   ·simp only[aai]at h;subst h;exact⟨.inr ⟨_,rfl⟩,rfl⟩
   ·cases h
  ·have:=Ko h;exact this
abbrev KC(α:Type):=Bl->gB->Option α
def X7(f:gB->KC α->Option α):Nat->gB->KC α->Option α
 |0,_,_=>none
 |n+1,s,k=>f s fun x s'=>match x with| .normal=>X7 f n s' k|x=>k x s'
theorem Ws:∃g:(gB->KC α->Option α)->Nat->gB->KC α->Option α,g=X7:=⟨_,rfl⟩
noncomputable def DV:(gB->KC α->Option α)->Nat->gB->KC α->Option α:=Classical.choose (Ws (α:=α))
theorem TK:(DV:(gB->KC α->Option α)->Nat->gB->KC α->Option α)=X7:=Classical.choose_spec (Ws (α:=α))
theorem Yv(f:gB->KC α->Option α)(s:gB)(k:KC α):DV f 0 s k=none:=by rw[TK];rfl
theorem Bo(f:gB->KC α->Option α)(n:Nat)(s:gB)(k:KC α):DV f (n+1) s k=f s fun x s'=>match x with| .normal=>DV f n s' k|x=>k x s':=by rw[TK];rfl
attribute [irreducible] DV
def V3(tm:List AV)(c:Operand)(t e:List AV->Option α):Option α:=
 match c with
 | .tmp d=>Np tm d t e fun _=>none
 |c=>Co tm c fun v=>match v with
  | .bool b=>(match b with|true=>t tm|false=>e tm)
  |_=>none
abbrev CF(α:Type):=gB->KC α->Option α
@[irreducible] def kF (r:Option (Bl × gB)) (k:KC α):Option α:=r.bind fun r=>k r.1 r.2
noncomputable def ac8(X:Cx)(eu:Nat->Array Oper->gB->Option (Bl × gB))(fn:FuncId)(tab:Nat->Option (List Nat))(id:Nat)(ops:Array Oper)(draw:Bool)(s:gB)(k:KC α):Option α:=
 match draw with
 |true=>(match tab id with
  |some ord=>(match s with|⟨tm,df,h⟩=>(match tab (id+500000)with
   |some _=>O9 (Yn tab) X fn ops ord tm h fun tm h=>k .normal ⟨tm,df,h⟩
   |none=>P7 (Yn tab) X fn ops h ord tm fun tm=>k .normal ⟨tm,df,h⟩))
  |none=>kF (eu id ops s) k)
 |false=>match s with|⟨tm,df,h⟩=>wT (Yn tab) X fn ops ops.toList tm h (fun tm h=>k .normal ⟨tm,df,h⟩) (fun v tm h=>k (.jl v) ⟨tm,df,h⟩)
def aip(a b:CF α)(s:gB)(k:KC α):Option α:=
 a s fun x s'=>match x with| .normal=>b s' k|x=>k x s'
def agR(c:Operand)(t e:CF α)(s:gB)(k:KC α):Option α:=
 match s with|⟨tm,df,h⟩=>V3 tm c (fun tm=>t ⟨tm,df,h⟩ k) (fun tm=>e ⟨tm,df,h⟩ k)
def afr(id:Nat)(b:CF α)(s:gB)(k:KC α):Option α:=
 b s fun x s'=>match x with| .exit i=>(match Nat.beq i id with|true=>k .normal s'|false=>k (.exit i) s')|x=>k x s'
@[irreducible] def iZ (l:Id) (tm:List AV) (df:List Id) (k:KC α) (r:Option (Aq × AH)):Option α:=
 match r with
 |some (.ret _,h2)=>(Cq l ⟨tm,df,h2⟩).bind fun r=>k r.1 r.2
 |some (.jl v,h2)=>k (.jl v) ⟨tm,df,h2⟩
 |none=>none
theorem aae{Q:Option α->Prop}{l:Id}{tm:List AV}{df:List Id}{k:KC α}{r:Option (Aq × AH)}{v:AV}{h2:AH}{x:Bl}{s:gB}(hr:r=some (.ret v,h2))(hl:Cq l ⟨tm,df,h2⟩=some (x,s))(hy:Q (k x s)):Q (iZ l tm df k r):=by
 unfold iZ;rw[hr];simp only[hl,ajK];exact hy
def Dt(h:AH):Id:=(h.alloc (.defs true)).next
def Dm(fn:FuncId)(tm:List AV)(ps:Array Tmp)(a b:Code)(h:AH):AH:=(h.alloc (.defs true)).alloc (.loop .ready none fn tm ps a b h.next)
def Vp(X:Cx)(fn:FuncId)(rd:Option Id)(f:Operand)(ps:Array Tmp)(a b:Code)(s:gB)(k:KC α):Option α:=
 match rd with
 |some _=>(BZ X fn rd f ps a b s).bind fun r=>k r.1 r.2
 |none=>match s with
  |⟨tm,df,h⟩=>Co tm f fun v=>match v with
   | .fn (.func g) first captured=>(match X with|⟨_,_,call⟩=>iZ (Dt h) tm (h.next::df) k (call (.func g) (first++[.fn (.yield (Dt h)) [] []]++captured) (Dm fn tm ps a b h)))
   |_=>none
theorem XY(X:Cx)(fn:FuncId)(rd:Option Id)(f:Operand)(ps:Array Tmp)(a b:Code)(s:gB)(k:KC α):Vp X fn rd f ps a b s k=(BZ X fn rd f ps a b s).bind fun r=>k r.1 r.2:=by
 unfold Vp
 cases rd with
 |some _=>rfl
 |none=>
  obtain⟨tm,df,h⟩:=s
  simp only[BZ,Gw,IU]
  cases Av tm f with
  |none=>rfl
  |some v=>
   cases v<;>first|rfl|skip
   rename_i g first captured
   cases g<;>first|rfl|skip
   rename_i g
   simp only[ajK]
   unfold iZ
   split
   ·rename_i hr;unfold Dt Dm at hr;rw[hr];rfl
   ·rename_i hr;unfold Dt Dm at hr;rw[hr];rfl
   ·rename_i hr;unfold Dt Dm at hr;rw[hr];rfl
noncomputable def KD(X:Cx)(eu:Nat->Array Oper->gB->Option (Bl × gB))(fn:FuncId)(tab:Nat->Option (List Nat))(rd:Option Id)(n:Nat)(c:Code):CF α:=
 Code.rec (motive:=fun _=>CF α)
  (fun s k=>k .normal s)
  (fun id ops draw s k=>ac8 X eu fn tab id ops draw s k)
  (fun _ _ a b s k=>aip a b s k)
  (fun c _ _ t e s k=>agR c t e s k)
  (fun id _ b s k=>afr id b s k)
  (fun _ b s k=>DV b n s k)
  (fun f ps a b _ _ s k=>Vp X fn rd f ps a b s k)
  (fun i s k=>k (.exit i) s)
  (fun _ b s k=>b s k)
  (fun _ s k=>k .normal s)
  (fun l s k=>(AB X eu fn rd n (.goto l) s).bind fun r=>k r.1 r.2)
  (fun s k=>k .ret s)
  (fun w s k=>(AB X eu fn rd n (.refuse w) s).bind fun r=>k r.1 r.2)
  c
theorem Z4(tm:List AV)(c:Operand)(t e:List AV->Option α):V3 tm c t e=(match Av tm c with|some (.bool true)=>t tm|some (.bool false)=>e tm|_=>none):=by
 unfold V3
 split
 ·rename_i d
  rw[UA]
  show _=(match some (tm.getD d Aj)with|some (.bool true)=>t tm|some (.bool false)=>e tm|_=>none)
  cases tm.getD d Aj<;>first|rfl|skip
  rename_i b
  cases b<;>rfl
 ·rw[IU]
  generalize Av tm _=z
  cases z with
  |none=>rfl
  |some v=>
   cases v<;>first|rfl|skip
   rename_i v
   cases v<;>rfl
def A9(P:Program)(mu:Nat->Bool)(tab:Nat->Option (List Nat)):Code->Bool
 | .region id ops true=>(match tab id with
  |some ord=>(match Ga P mu ops with|some pl=>pl.ord==ord&&(match tab (id+500000)with|some _=>VI P mu ops pl.T|none=>true)|none=>false)
  |none=>true)
 | .seq a b=>A9 P mu tab a&&A9 P mu tab b
 | .cond _ a b=>A9 P mu tab a&&A9 P mu tab b
 | .block _ b=>A9 P mu tab b
 | .loop b=>A9 P mu tab b
 | .scope b=>A9 P mu tab b
 |_=>true
theorem Pp{X:Cx}{eu:Nat->Array Oper->gB->Option (Bl × gB)}{fn:FuncId}{tab:Nat->Option (List Nat)}{rd:Option Id}{n:Nat}{y:α}(hrg:∀id ops s,eu id ops s=drawn X fn ops s) :
  ∀(c:Code) (s:gB) (k:KC α),A9 X.P (X.mu fn) tab c=true->KD X eu fn tab rd n c s k=some y->((AB X eu fn rd n c s).bind fun r=>k r.1 r.2)=some y:=by
 intro c
 induction c with
 |region id ops draw=>
  intro s k ht hc
  obtain⟨tm,df,h⟩:=s
  cases draw with
  |true=>
   replace hc:(match tab id with
    |some ord=>(match tab (id+500000)with
     |some _=>O9 (Yn tab) X fn ops ord tm h fun tm h=>k .normal ⟨tm,df,h⟩
     |none=>P7 (Yn tab) X fn ops h ord tm fun tm=>k .normal ⟨tm,df,h⟩)
    |none=>kF (eu id ops ⟨tm,df,h⟩) k)=some y:=hc
   cases htab:tab id with
   |none=>rw[htab]at hc;unfold kF at hc;exact hc
   |some ord=>
    rw[htab]at hc
    simp only[A9,htab]at ht
    split at ht
    ·rename_i pl hpl
     simp only[aci]at ht
     have:pl.ord=ord:=by simpa using ht.1
     subst this
     show(eu id ops ⟨tm,df,h⟩).bind _=_
     cases he5:tab (id+500000)with
     |some _=>
      rw[he5]at hc ht
      obtain⟨tm',h',E',h1,h2⟩:=MV (E:=[]) hc
      rw[hrg,Ww hpl ht.2 h1]
      exact h2
     |none=>
      rw[he5]at hc
      obtain⟨tm',h1,h2⟩:=LX hc
      rw[hrg,Xo hpl h1]
      exact h2
    ·cases ht
  |false=>
   rw[<-hc]
   show(Hr X fn ops ops.toList ⟨tm,df,h⟩).bind _=wT (Yn tab) X fn ops ops.toList tm h _ _
   rw[VR (Yn tab) X fn ops df]
   have hx:=fun r=>Ko (X:=X) (fn:=fn) (ops:=ops) (l:=ops.toList) (s:=⟨tm,df,h⟩) (r:=r)
   revert hx
   cases Hr X fn ops ops.toList ⟨tm,df,h⟩with
   |none=>intro _;rfl
   |some r=>
    intro hx
    obtain⟨h1,h2⟩:=hx r rfl
    obtain⟨x,s'⟩:=r
    simp only at h1 h2
    rcases h1 with rfl|⟨v,rfl⟩<;>simp only[ajK]<;>rw[<-h2]
 |seq a b iha ihb=>
  intro s k ht hc
  simp only[A9,aci]at ht
  have h1:=iha s _ ht.1 hc
  show(Xy (AB X eu fn rd n a s) (AB X eu fn rd n b)).bind _=_
  cases he:AB X eu fn rd n a s with
  |none=>rw[he]at h1;cases h1
  |some r=>
   rw[he]at h1
   obtain⟨x,s'⟩:=r
   cases x<;>first|exact ihb s' k ht.2 h1|exact h1
 |cond c t e wP wQ=>
  intro s k ht hc
  obtain⟨tm,df,h⟩:=s
  simp only[A9,aci]at ht
  replace hc:V3 tm c (fun tm=>KD X eu fn tab rd n t ⟨tm,df,h⟩ k) (fun tm=>KD X eu fn tab rd n e ⟨tm,df,h⟩ k)=some y:=hc
  show(match Av tm c with|some (.bool true)=>AB X eu fn rd n t ⟨tm,df,h⟩|some (.bool false)=>AB X eu fn rd n e ⟨tm,df,h⟩|_=>none).bind _=_
  rw[Z4]at hc
  revert hc
  cases Av tm c with
  |none=>intro hc;cases hc
  |some v=>
   cases v<;>intro hc<;>first|(cases hc;done)|skip
   rename_i v
   cases v with
   |true=>exact wP _ k ht.1 hc
   |false=>exact wQ _ k ht.2 hc
 |block id b ih=>
  intro s k ht hc
  have h1:=ih s _ ht hc
  show(outBlock id (AB X eu fn rd n b s)).bind _=_
  cases he:AB X eu fn rd n b s with
  |none=>rw[he]at h1;cases h1
  |some r=>
   rw[he]at h1
   obtain⟨x,s'⟩:=r
   cases x<;>first|exact h1|skip
   rename_i i
   replace h1:(match Nat.beq i id with|true=>k .normal s'|false=>k (.exit i) s')=some y:=h1
   show(if i=id then some (Bl.normal,s')else some (.exit i,s')).bind _=_
   by_cases hi:i=id
   ·rw[if_pos hi]
    have:Nat.beq i id=true:=by rw[hi];exact Nat.beq_refl id
    rw[this]at h1;exact h1
   ·rw[if_neg hi]
    have:Nat.beq i id=false:=by
     cases e:Nat.beq i id with
     |false=>rfl
     |true=>exact absurd (akk e) hi
    rw[this]at h1;exact h1
 |loop b ih=>
  intro s k ht hc
  replace hc:DV (KD X eu fn tab rd n b) n s k=some y:=hc
  show(iter (AB X eu fn rd n b) n s).bind _=_
  have key:∀m s,DV (KD X eu fn tab rd n b) m s k=some y->((iter (AB X eu fn rd n b) m s).bind fun r=>k r.1 r.2)=some y:=by
   intro m
   induction m with
   |zero=>intro s hc;rw[Yv]at hc;cases hc
   |succ m im=>
    intro s hc
    rw[Bo]at hc
    have h1:=ih s _ ht hc
    show(match AB X eu fn rd n b s with|some (.normal,s')=>iter (AB X eu fn rd n b) m s'|r=>r).bind _=_
    cases he:AB X eu fn rd n b s with
    |none=>rw[he]at h1;cases h1
    |some r=>
     rw[he]at h1
     obtain⟨x,s'⟩:=r
     cases x<;>first|exact im s' h1|exact h1
  exact key n s hc
 |scope b ih=>intro s k ht hc;exact ih s k ht hc
 |skip=>intro s k _ hc;exact hc
 |label l=>intro s k _ hc;exact hc
 |exit i=>intro s k _ hc;exact hc
 |ret=>intro s k _ hc;exact hc
 |rangeFunc f ps a b _ _=>intro s k _ hc;rw[<-hc];exact(XY X fn rd f ps a b s k).symm
 |goto l=>intro s k _ hc;exact hc
 |refuse w=>intro s k _ hc;exact hc
end
def OY{α:Type}:List AV->(List AV->Option α)->Option α
 |[],k=>k []
 |a::l,k=>OY l fun l=>k (a::l)
theorem L8{α:Type}:∀(l:List AV) (k:List AV->Option α),OY l k=k l
 |[],k=>rfl
 |a::l,k=>by rw[OY,L8 l]
noncomputable def Yp(P:Program)(mu:FuncId->Nat->Bool)(call:oF->List AV->AH->Option (Aq × AH))(eu:Nat->Array Oper->gB->Option (Bl × gB))(tab:Nat->Option (List Nat))(n:Nat)(f:FuncId)(fn:Func)(c:Code)(args:List AV)(h:AH):Option (Aq × AH):=
 OY (args++List.replicate (fn.ntmps - args.length) Aj) fun tm=>KD ⟨P,mu,call⟩ eu f tab none n c ⟨tm,[],h⟩ fun x s=>Er P fn (some (x,s))
theorem VH{P:Program}{mu:FuncId->Nat->Bool}{hk:Ar}(tab:Nat->Option (List Nat)){n:Nat}{f:FuncId}{fn:Func}{c:Code}{args:List AV}{h:AH}{y:Aq × AH}(hh:hk f args h=none)(hf:P.funcs[f]?=some fn)(hc:fn.body=some c)
  (ht:A9 P (mu f) tab c=true) (hv:Yp P mu (Ah (Ak P mu hk) n) (rg P mu hk n f) tab n f fn c args h=some y):Ah (Ak P mu hk) (n+1) (.func f) args h=some y:=by
 rw[adD hh hf hc]
 unfold Yp at hv
 unfold abD
 rw[L8]at hv
 have:=Pp (X:=cx P mu hk n) (eu:=rg P mu hk n f) (fun _ _ _=>rfl) c _ _ ht hv
 rw[<-this]
 cases AB (cx P mu hk n) (rg P mu hk n f) f none n c ⟨args++List.replicate (fn.ntmps - args.length) Aj,[],h⟩with
 |none=>rfl
 |some r=>rfl
def KW:Nat->Option (List Nat):=fun _=>none
@[irreducible] def iH (P:Program) (fn:Func) (x:Bl) (s:gB):Option (Aq × AH):=Er P fn (some (x,s))
theorem Ac{Q:Option (Aq × AH)->Prop}{P:Program}{fn:Func}{x:Bl}{s:gB}{y:Option (Aq × AH)}(hl:Er P fn (some (x,s))=y)(hy:Q y):Q (iH P fn x s):=by
 unfold iH;rw[hl];exact hy
noncomputable def YR(P:Program)(mu:FuncId->Nat->Bool)(call:oF->List AV->AH->Option (Aq × AH))(eu:Nat->Array Oper->gB->Option (Bl × gB))(tab:Nat->Option (List Nat))(n:Nat)(f:FuncId)(fn:Func)(c:Code)(args:List AV)(h:AH):Option (Aq × AH):=
 OY (args++List.replicate (fn.ntmps - args.length) Aj) fun tm=>KD ⟨P,mu,call⟩ eu f tab none n c ⟨tm,[],h⟩ fun x s=>iH P fn x s
theorem AJ{P:Program}{mu:FuncId->Nat->Bool}{hk:Ar}(tab:Nat->Option (List Nat)){n:Nat}{f:FuncId}{fn:Func}{c:Code}{args:List AV}{h:AH}{y:Aq × AH}(hh:hk f args h=none)(hf:P.funcs[f]?=some fn)(hc:fn.body=some c)
  (ht:A9 P (mu f) tab c=true) (hv:YR P mu (Ah (Ak P mu hk) n) (rg P mu hk n f) tab n f fn c args h=some y):Ah (Ak P mu hk) (n+1) (.func f) args h=some y:=by
 refine VH tab hh hf hc ht ?_
 unfold YR at hv
 unfold Yp
 have:(fun x s=>iH P fn x s)=(fun x s=>Er P fn (some (x,s))):=by funext x s;unfold iH;rfl
 rw[this]at hv
 exact hv
@[irreducible] def ko {α:Type} (l:Id) (h:AH) (k:AH->Option α):Option α:=
 (Dw l (fun st pd=>match st with| .ready=>some (.busy,pd)|_=>none) h).bind k
theorem SF{α:Type}{Q:Option α->Prop}{l:Id}{h h2:AH}{k:AH->Option α}(hl:Dw l (fun st pd=>match st with| .ready=>some (.busy,pd)|_=>none) h=some h2)(hy:Q (k h2)):Q (ko l h k):=by
 unfold ko;rw[hl];exact hy
@[irreducible] def jm (l:Id) (x:Bl) (s:gB):Option (Aq × AH):=Ei l (some (x,s))
theorem LQ{Q:Option (Aq × AH)->Prop}{l:Id}{x:Bl}{s:gB}{y:Option (Aq × AH)}(hl:Ei l (some (x,s))=y)(hy:Q y):Q (jm l x s):=by
 unfold jm;rw[hl];exact hy
noncomputable def YQ(P:Program)(mu:FuncId->Nat->Bool)(call:oF->List AV->AH->Option (Aq × AH))(eu:Nat->Array Oper->gB->Option (Bl × gB))(tab:Nat->Option (List Nat))(n:Nat)(l:Id)(fn:FuncId)(tm:List AV)(ps:Array Tmp)(a b:Code)(args:List AV)(h:AH):Option (Aq × AH):=
 OY (BO tm ps.toList args) fun tm=>KD ⟨P,mu,call⟩ eu fn tab (some l) n a ⟨tm,[],h⟩ fun x s=>
  match x with
  | .normal=>(match s with|⟨tm,_,h⟩=>ko l h fun h2=>KD ⟨P,mu,call⟩ eu fn tab (some l) n b ⟨tm,[],h2⟩ fun x s=>jm l x s)
  |_=>none
def Gb:Code->Bool
 | .rangeFunc _ _ _ _=>false
 | .seq a b=>Gb a&&Gb b
 | .cond _ a b=>Gb a&&Gb b
 | .block _ b=>Gb b
 | .loop b=>Gb b
 | .scope b=>Gb b
 |_=>true
theorem Vy{P:Program}{mu:FuncId->Nat->Bool}{hk:Ar}(tab:Nat->Option (List Nat)){n:Nat}{l:Id}{st:LoopState}{pd:Option Code}{fn:FuncId}{tm:List AV}{ps:Array Tmp}{a b:Code}{d:Id}{args:List AV}{h:AH}{y:Aq × AH}
  (hg:h.get l=some (.loop st pd fn tm ps a b d)) (hl:args.length=ps.size) (nV:A9 P (mu fn) tab a=true) (htb:A9 P (mu fn) tab b=true)
  (hdf:∀x s,AB (cx P mu hk n) (rg P mu hk n fn) fn (some l) n a ⟨BO tm ps.toList args,[],h⟩=some (x,s)->s.df=[])
  (hv:YQ P mu (Ah (Ak P mu hk) n) (rg P mu hk n fn) tab n l fn tm ps a b args h=some y):Ah (Ak P mu hk) (n+1) (.yield l) args h=some y:=by
 unfold YQ at hv
 rw[L8]at hv
 have h1:=Pp (X:=cx P mu hk n) (eu:=rg P mu hk n fn) (fun _ _ _=>rfl) a _ _ nV hv
 show(match h.get l with
  |some (.loop _ _ fn tm ps assign body _)=>
   if args.length≠ps.size then none else
   match AB (cx P mu hk n) (rg P mu hk n fn) fn (some l) n assign ⟨BO tm ps.toList args,[],h⟩with
   |some (.normal,s)=>
    match Dw l (fun st pd=>match st with| .ready=>some (.busy,pd)|_=>none) s.h with
    |some h2=>if s.df.isEmpty then Ei l (AB (cx P mu hk n) (rg P mu hk n fn) fn (some l) n body ⟨s.tm,[],h2⟩)else none
    |none=>none
   |_=>none
  |_=>none)=some y
 rw[hg]
 simp only[hl,ne_eq,not_true_eq_false,if_false]
 cases he:AB (cx P mu hk n) (rg P mu hk n fn) fn (some l) n a ⟨BO tm ps.toList args,[],h⟩with
 |none=>rw[he]at h1;cases h1
 |some r=>
  obtain⟨x,s⟩:=r
  have hdf:=hdf x s he
  rw[he]at h1
  simp only[ajK]at h1
  cases x<;>simp only at h1 ⊢ <;>first|(cases h1;done)|skip
  obtain⟨mq,df1,h1'⟩:=s
  simp only at hdf h1 ⊢
  subst hdf
  unfold ko at h1
  cases hs:Dw l (fun st pd=>match st with| .ready=>some (.busy,pd)|_=>none) h1' with
  |none=>rw[hs]at h1;cases h1
  |some h2=>
   rw[hs]at h1
   simp only[ajK]at h1
   have h3:=Pp (X:=cx P mu hk n) (eu:=rg P mu hk n fn) (fun _ _ _=>rfl) b _ _ htb h1
   simp only[List.isEmpty_nil,if_true]
   cases hb:AB (cx P mu hk n) (rg P mu hk n fn) fn (some l) n b ⟨mq,[],h2⟩with
   |none=>rw[hb]at h3;cases h3
   |some r=>rw[hb]at h3;unfold jm at h3;exact h3
def loops:Code->List Code
 | .seq a b=>loops a++loops b
 | .cond _ a b=>loops a++loops b
 | .block _ b=>loops b
 | .loop b=>b::loops b
 | .scope b=>loops b
 | .rangeFunc _ _ a b=>loops a++loops b
 |_=>[]
def af5(c:Code)(i:Nat):Code:=(loops c).getD i .skip
def codeOf(fn:Func):Code:=match fn.body with|some c=>c|none=> .skip
end Go.Sk
namespace Go.Sk
def eT.join(ρ ρ1:eT)(n:Nat):eT:={ ρ with gG:=fun b o=>if b<n then ρ.gG b o else ρ1.gG b o }
theorem Rel.tZ{ρ:eT}{h:AH}{w:World}(hR:Rel ρ h w){b o:Nat}{v:Value}(he:ρ.gG b o=some v):b<w.heap.size:=by
 have:=hR.gG b o v he
 unfold World.cell? at this
 rcases ajV b w.heap.size with q|q
 ·exact q
 ·simp only[akA q]at this;cases this
theorem eT.nY{ρ ρ1:eT}{h:AH}{w:World}(hR:Rel ρ h w):ρ.le (ρ.join ρ1 w.heap.size):=
 ⟨rfl,fun _ _ h=>h,fun _ _ _ h=>h,fun b o v he=>by
  simp only[eT.join]
  rw[if_pos (hR.tZ he)];exact he,fun _ _ h=>h⟩
theorem Rel.join{ρ ρ1:eT}{h h1:AH}{w w1:World}(hR0:Rel ρ h w)(hg:iX w w1)(jU:Rel ρ1 h1 w1):Rel (ρ.join ρ1 w.heap.size) h w1:=by
 have hR:=hR0.grew hg
 have hle:=eT.nY (ρ1:=ρ1) hR0
 constructor
 ·intro r o b h1 h2;exact(hR.obj r o b h1 h2).mono hle
 ·exact hR.bound
 ·exact hR.inj
 ·exact hR.dom
 ·intro g e b c h1 h2
  obtain⟨p1,p2,p3,p4⟩:=hR.fM g e b c h1 h2
  refine⟨p1,p2,fun o v q=>?_,p4⟩
  have hlt:b<w.heap.size:=(hR0.iF g e _ h2).2
  simp only[eT.join,if_pos hlt]at q
  exact p3 o v q
 ·exact hR.iF
 ·exact hR.iW
 ·exact hR.gone
 ·exact hR.je
 ·intro b o v q
  simp only[eT.join]at q
  split at q
  ·exact hR.gG b o v q
  ·exact jU.gG b o v q
 ·intro b o v q
  simp only[eT.join]at q
  split at q
  ·exact hR.one b o v q
  ·exact jU.one b o v q
 ·intro b o v r q h1
  have hlt:b<w.heap.size:=(hR0.bound r b h1).2.1
  simp only[eT.join,if_pos hlt]at q
  exact hR.jd b o v r q h1
 ·exact hR.jk
 ·exact hR.jf
theorem Stp.join{ρ ρ1:eT}{h:AH}{w w1:World}(hR0:Rel ρ h w)(hg:iX w w1):Stp ρ h w (ρ.join ρ1 w.heap.size) h w1 where
 le:=eT.nY hR0
 next:=acu _
 os:=hg.os
 tape:=hg.tape
 output:=hg.output
 size:=hg.size
 kept:=fun k hk _=>hg.block k hk
 own:=fun _ _ h=>h
 old:=fun _ _ _ e=>e
 gG:=fun b o v hb e=>by
  simp only[eT.join,if_pos hb]at e
  exact .inl e
theorem ac1{E:Ev}(hE:Bq E){n:Nat}{k:FuncId}{args:List AV}{v:AV}{h':AH}(he:Ah E n (.func k) (CB args) .empty=some (.ret v,h')){ρ:eT}{h:AH}{w:World}{eP:List Value}
  (hR:Rel ρ h w) (ha:dw ρ args eP) (hf:BJ args=true) (hv:BN v=true):Qx E.P k/\Calls E.P k eP.toArray w (Ec ρ h w (.ret (Bc v)) h):=by
 have hl:dw (ρ.hide w.heap.size) (CB args) eP:=⟨by rw[BD];exact ha.1,fun i hi hj=>by
  have hi':i<args.length:=by rw[BD]at hi;exact hi
  rw[EH args i hi']
  exact(ha.2 i hi' hj).hide (Fp hf i hi')⟩
 obtain⟨hk,hc⟩:=(Yk hE n).func k (CB args) .empty _ h' he (ρ.hide w.heap.size) w eP hR.hide (acu _) hl
 refine⟨hk,hc.mono fun e w' hp=>?_⟩
 cases e with
 |returned cv=>
  obtain⟨av,ρ',h1,h2,h3,h4⟩:=hp
  simp only[Aq.ret.injEq]at h1;subst h1
  have hno:∀b,b<w.heap.size->¬Own (ρ.hide w.heap.size) .empty b:=fun b hb ho=>by
   have:=ho.base hR.hide;have e:(ρ.hide w.heap.size).base=w.heap.size:=rfl;omega
  have hg:iX w w':=⟨h4.os,h4.tape,h4.output,h4.size,fun k hk=>h4.kept k hk (hno k hk)⟩
  refine⟨Bc v,ρ.join ρ' w.heap.size,rfl,h2.nK (fun b o u q=>?_) hv,hR.join hg h3,Stp.join hR hg⟩
  simp only[eT.join]
  split
  ·rename_i hb
   exact(h4.gG b o u hb q).elim (fun x=>x) (fun x=>(hno b hb x).elim)
  ·exact q
 |panicked ch=>obtain⟨av,cv,ρ',h1,_⟩:=hp;cases h1
 |outgrown=>exact hp.elim
theorem Fj{P:Program}{mu:FuncId->Nat->Bool}{hk:Ar}{f:FuncId}{s:List AV->Option AV}(hE:Bq (Ak P mu hk))
  (hs:∀args v,s args=some v->∃u,BN u=true/\v=Bc u/\∃n h',Ah (Ak P mu hk) n (.func f) args .empty=some (.ret u,h')):Bq (Ak P mu (Bb hk f s)) where
 hk:=fun g args hh v hh' h ρ w eP hR hb ha=>by
  by_cases hg:g=f
  ·subst hg
   obtain⟨hfr,h',rfl⟩:=LP h
   obtain⟨u,p2,rfl,n,h1,he⟩:=hs _ v h'
   exact ac1 hE he hR ha hfr p2
  ·have h':hk g args hh=some (v,hh'):=by rw[<-I7 hk s args hh hg];exact h
   exact hE.hk g args hh v hh' h' ρ w eP hR hb ha
 ng:=hE.ng
 eu:=hE.eu
end Go.Sk
namespace Go.Sk
def Grow(h:AH)(l:AV)(xs:List AV):Prop:=
 (l= .aj/\xs=[])\/∃g,l= .fC xs (.own g xs.length)/\xs≠[]/\h.get g=some (.fM xs.length)/\g.nat<h.next.nat
def Gi:AV->Option Id
 | .fC _ (.own g _)=>some g
 |_=>none
theorem Lc{P:Program}{types:Array TypeId}{t tx:TypeId}{elem:TypeId}{d:TypeDesc}{l x z:AV}{xs ys:List AV}{h:AH}{n:Nat}
  (h0:types[0]?=some t) (h1:types[1]?=some tx) (ht:P.underlying t=some (.slice elem)) (htx:P.underlying tx=some d) (hd:∀k,d≠ .int k)
  (hx:CQ P elem x h=some ys) (hn:sizeT P elem=some n) (hz:BL P elem=some z) (hn0:n≠0) (hzn:z.cells.length=n) (hzs:z.cells.all AV.scalar=true)
  (hy:ys≠[]) (vL:Ba n ys=true) (hhx:Ba n xs=true) (hl:Grow h l xs)
  (hb:(xs.length+ys.length)*P.bytesOf elem<=140737488355328) (hb2:xs.length+ys.length<=140737488355328) :
  ∃l' h',AX P false types l x h=some (l',h')/\Grow h' l' (xs++ys)/\h.next.nat<=h'.next.nat/\(∀q o,h.get q=some o->Gi l≠some q->q.nat<h.next.nat->h'.get q=some o):=by
 have hyl:ys.length≠0:=fun e=>hy (abf e)
 unfold AX
 simp only[h0,h1,ht,htx]
 rcases hl with⟨rfl,rfl⟩|⟨g,rfl,hxs,hg,hgn⟩
 ·refine⟨.fC ys (.own h.next ys.length),h.alloc (.fM ys.length),?_,.inr ⟨h.next,by simp,by simpa using hy,by simp[AH.au],by simp[AH.bn,Id.dz]⟩,by simp[AH.bn,Id.dz],fun q o hq _ hlt=>?_⟩
  ·cases d<;>first|exact absurd rfl (hd _)|skip
   all_goals (simp only[hx,hn,hz];simp_all;try omega)
  ·rw[AH.au,if_neg];exact hq
   rintro rfl;omega
 ·have hxl:xs.length≠0:=fun e=>hxs (abf e)
  refine⟨.fC (xs++ys) (.own g (xs.length+ys.length)),h.set g (.fM (xs.length+ys.length)),?_,.inr ⟨g,by simp,by simp[hxs],by simp[AH.ak],by simpa[AH.fP]using hgn⟩,by simp[AH.fP],fun q o hq hne _=>?_⟩
  ·cases d<;>first|exact absurd rfl (hd _)|skip
   all_goals (simp only[hx,hn,hz];simp_all;try omega)
  ·rw[AH.ak,if_neg];exact hq
   rintro rfl;exact hne rfl
def U5(s:List UInt8):List AV:=s.map fun b=> .int .u8 b.toNat
theorem Bj{P:Program}{t T:TypeId}{r:Id}{off n:Nat}{h:AH}{cs:List AV}{v:AV}(hg:h.get r=some (.cells cs T))(ha:Ez P t=some false)(hn:sizeT P t=some n)(hv:cs[off]?=some v) :
  fF h (Ay P t (.ptr r off) h)=some (.ret v,h):=by
 simp only[Ay,hg,ha,hn,hv,fF]
theorem Dx{P:Program}{t T:TypeId}{r:Id}{off n:Nat}{h:AH}{cs:List AV}(hg:h.get r=some (.cells cs T))(ha:Ez P t=some true)(hn:sizeT P t=some n)(hv:off+n<=cs.length) :
  fF h (Ay P t (.ptr r off) h)=some (.ret (.agg ((cs.drop off).take n)),h):=by
 simp only[Ay,hg,ha,hn,if_pos hv,fF]
theorem EC{P:Program}{t T:TypeId}{r:Id}{off n:Nat}{h:AH}{cs:List AV}{v:AV}(hg:h.get r=some (.cells cs T))(hn:sizeT P t=some n)(hv:v.cells.length=n)(ho:off+n<=cs.length)(hs:v.cells.all AV.scalar=true) :
  iM (Ce P t (.ptr r off) v h)=iM (some (h.set r (.cells (setCells cs off v.cells) T))):=by
 simp only[Ce,hg,hn,if_pos (And.intro hv (And.intro ho hs))]
theorem Dq{T:TypeId}{v:AV}{h:AH}{cs:List AV}(hc:v.cells=cs)(hs:cs.all AV.scalar=true):CS (La T v h)=some (.ret (.ptr h.next 0),h.alloc (.cells cs T)):=by
 subst hc
 simp only[La,if_pos hs,CS]
end Go.Sk
namespace Go.Sk
open Go.RowKit Go.ChangeShapes Go.WideShapes
section
variable{H:Type}{enc:TypeId × Value->H}{P:Program}{w:World}{base:Nat}
theorem YG{sp:Nat->Bool}{held:Bool}{r:Reach}{b0:Nat}{t e:TypeId}{v:Value}{d:DataW H}{ps:List MemPlace}(ht:P.underlying t=some (.slice e))(he:P.underlying e=some (.int .u8))(hc:P.cellsOf e=1)
  (hval:Value.okWide P w r b0 t v) (hd:DataW.Trod enc P w base sp held t v d ps) :
  ∃x,bf (JR w) x v/\(x= .aj\/∃s c,x= .fC (U5 s) c):=by
 obtain⟨a,len,cap,rfl⟩:=okWide_slice ht hval
 obtain⟨fuel,hf⟩:=hd
 rcases open_ints ht he hc hf with⟨h1,_⟩|⟨a',len',cap',zs,h1,hb,hl,hm,hz,hx,hcell,hwf⟩
 ·have:Value.slice a len cap= .slice none 0 0:=by simpa[Value.cells]using h1
  rw[this]
  exact⟨.aj,.aj,.inl rfl⟩
 ·have:Value.slice a len cap= .slice (some a') len' cap':=by simpa[Value.cells]using h1
  rw[this]at hval ⊢
  have hspot:a'.spot=none:=by
   simp only[Value.okWide,ht,Cell.okWide,Cell.ok]at hval
   exact hval.2.2.2.1
  obtain⟨b,off,spot⟩:=a'
  simp only at hspot;subst hspot
  have hlz:len'<=zs.length:=by rw[hz];split<;>omega
  have hbs:U5 ((zs.take len').map fun n=>UInt8.ofNat n.toNat)=(zs.take len').map (AV.int .u8):=by
   simp only[U5,akj]
   apply ajX
   intro n hn
   have:=hwf n (ake hn)
   simp[Lit.wf,IntKind.min,IntKind.max,IntKind.bits,IntKind.signed]at this
   simp only[Function.comp,AV.int.injEq,true_and]
   have h2:(UInt8.ofNat n.toNat).toNat=n.toNat:=by
    rw[UInt8.toNat_ofNat']
    omega
   rw[h2];omega
  refine⟨.fC (U5 ((zs.take len').map fun n=>UInt8.ofNat n.toNat)) .unk,?_,.inr ⟨_,_,rfl⟩⟩
  rw[hbs]
  have hlen:((zs.take len').map (AV.int .u8)).length=len':=by simp;omega
  have key:bf (JR w) (.fC ((zs.take len').map (AV.int .u8)) .unk) (.slice (some ⟨b,off,none⟩) ((zs.take len').map (AV.int .u8)).length cap'):=by
   refine .fC _ .unk b off cap' 1 (fun i _=> .int .u8 (zs.getD i 0)) (fun i hi=>by simp;rfl) (fun i j hi hj=>?_) (fun i hi j hj=>?_) (by rw[hlen];exact hl) trivial
   ·rw[hlen]at hi
    have hc:=hcell i (by omega)
    have ha:(Addr.mk b off none).add i=⟨b,off+i,none⟩:=by
     unfold Addr.add;split
     ·rename_i h0;subst h0;rfl
     ·rfl
    rw[ha]at hc
    have hj0:j=0:=by omega
    subst hj0
    rw[OC]
    exact⟨by rw[ajO,alo];exact hc,rfl⟩
   ·rw[hlen]at hi
    have hj0:j=0:=by
     simp[AV.cells]at hj;exact hj
    subst hj0
    have e1:((zs.take len').map (AV.int .u8))[i].cells[0]'hj= .int .u8 (zs.getD i 0):=by
     simp[AV.cells,aal,show i<zs.length by omega]
    rw[e1]
    exact .int ..
  rw[hlen]at key;exact key
end
end Go.Sk
namespace Go.Sk
def jo(X:Cx)(fn:FuncId)(ops:Array Oper)(St:AH->Prop)(tm:List AV):List Nat->Prop
 |[]=>True
 |j::r=>(match ops[j]? with
  |some o=>(match A8 X.P (o.dst.any (X.mu fn)) o.op with
   | .read=>BU ops tm o=true->∀hh,St hh->∃h2,Cm X fn tm o hh=some (.ret (match o.dst with|some d=>tm.getD d Aj|none=>Aj),h2)
   |_=>True)
  |none=>True)/\jo X fn ops St tm r
theorem jo.get{X:Cx}{fn:FuncId}{ops:Array Oper}{St:AH->Prop}{tm:List AV}:∀{L:List Nat},jo X fn ops St tm L->∀j∈L,∀o,ops[j]?=some o->A8 X.P (o.dst.any (X.mu fn)) o.op= .read->BU ops tm o=true->∀hh,St hh->
  ∃h2,Cm X fn tm o hh=some (.ret (match o.dst with|some d=>tm.getD d Aj|none=>Aj),h2)
 |[],_,j,hj,_,_,_,_,_,_=>by cases hj
 |i::r,h,j,hj,o,ho,hk,hw,hh,hs=>by
  rcases adf.1 hj with rfl|hj
  ·have:=h.1
   simp only[ho,hk]at this
   exact this hw hh hs
  ·exact h.2.get j hj o ho hk hw hh hs
open Classical in
@[irreducible] noncomputable def qW {α:Type} (p:Prop) (x:Option α):Option α:=if p then x else none
theorem Wl{α:Type}{Q:Option α->Prop}{p:Prop}{x:Option α}(hp:p)(hy:Q x):Q (qW p x):=by unfold qW;rw[if_pos hp];exact hy
theorem Zg{α:Type}{p:Prop}{x:Option α}{y:α}(h:qW p x=some y):p/\x=some y:=by
 unfold qW at h
 split at h
 ·rename_i hp;exact⟨hp,h⟩
 ·cases h
section
variable{α:Type}
end
end Go.Sk
namespace Go.Sk
def WG(T:List Nat)(E:List Dj)(h:AH)(A:List Gt):Prop:=
 (∀a∈A,AO.beq a.obj a.obj=true/\∀k,k<=E.length->poss T E a.j k=true->a.q<=k/\(gu E h k).get a.r=some a.obj)/\Gz A=true
def YB(X:Cx)(fn:FuncId)(ops:Array Oper)(T:List Nat)(E:List Dj)(all:List Nat)(k:Nat):Bool:=
 all.any fun j=>(match ops[j]? with|some o=>(match A8 X.P (o.dst.any (X.mu fn)) o.op with| .read=>poss T E j k|_=>false)|none=>false)
def zY(X:Cx)(fn:FuncId)(ops:Array Oper)(T:List Nat)(E:List Dj)(h:AH)(St:AH->Prop)(all:List Nat):Prop:=
 ∀k,k<=E.length->YB X fn ops T E all k=true->St (gu E h k)
theorem YP{X:Cx}{fn:FuncId}{ops:Array Oper}{pl:Plan}(hpl:Ga X.P (X.mu fn) ops=some pl){St:AH->Prop}{tm tm':List AV}{df:List Id}{h h':AH}{E':List Dj}{A':List Gt}
  (hst:jO X fn ops pl.ord ⟨tm,h,[],[]⟩=some ⟨tm',h',E',A'⟩) (hE:zY X fn ops pl.T E' h' St pl.ord) (hr:jo X fn ops St tm' pl.ord) (hA:WG pl.T E' h' A'):drawn X fn ops ⟨tm,df,h⟩=some (.normal,⟨tm',df,h'⟩):=by
 unfold drawn
 rw[hpl]
 simp only[hst]
 rw[if_pos]
 simp only[ajM,aci]
 have hops:∀j∈pl.ord,∃o,ops[j]?=some o:=by
  have:∀(L:List Nat) (s s':j3),jO X fn ops L s=some s'->∀j∈L,∃o,ops[j]?=some o:=by
   intro L
   induction L with
   |nil=>intro s s' _ j hj;cases hj
   |cons i r ih=>
    intro s s' hg j hj
    simp only[jO]at hg
    split at hg
    ·rename_i o ho
     split at hg
     ·rename_i s1 _
      rcases adf.1 hj with rfl|hj
      ·exact⟨o,ho⟩
      ·exact ih s1 s' hg j hj
     ·cases hg
    ·cases hg
  exact this _ _ _ hst
 refine .inr ⟨⟨GL fun j hj=>?_,?_⟩,hA.2⟩
 ·obtain⟨o,ho⟩:=hops j hj
  refine⟨o,ho,?_⟩
  unfold GJ
  simp only
  split
  ·rename_i hw
   split
   ·rename_i hk
    rw[ajG]
    intro k hkr
    simp only[ajD]at hkr
    cases hp:poss pl.T E' j k with
    |false=>simp
    |true=>
    have hrp:YB X fn ops pl.T E' pl.ord k=true:=by
     unfold YB
     rw[List.any_eq_true]
     exact⟨j,hj,by simp only[ho,hk,hp]⟩
    obtain⟨h2,hev⟩:=hr.get j hj o ho hk hw _ (hE k (by omega) hrp)
    rw[hev]
    simp only[ajM]
    right
    unfold Lr
    cases hd:o.dst with
    |none=>rfl
    |some d=>
     simp only
     split
     ·rename_i u hu
      rw[aal,hu]
      exact AV.beq_refl _
     ·rfl
   ·rfl
  ·rfl
 ·rw[ajG]
  intro a ha
  unfold PI
  rw[ajG]
  intro k hk
  simp only[ajD]at hk
  obtain⟨h0,hA1⟩:=hA.1 a ha
  cases hp:poss pl.T E' a.j k with
  |false=>simp
  |true=>
   obtain⟨h1,h2⟩:=hA1 k (by omega) hp
   simp only[alh,Bool.false_or,h2,decide_eq_true h1,akT]
   exact h0
theorem AO.oI(cs:List AV)(T:TypeId):AO.beq (.cells cs T) (.cells cs T)=true:=by
 simp[AO.beq,AV.iC]
theorem WA{α:Type}:∃f:Option (AV × AO)->(AV->AO->Option α)->Option α,f=fun r k=>r.bind fun x=>k x.1 x.2:=⟨_,rfl⟩
noncomputable def K4{α:Type}:Option (AV × AO)->(AV->AO->Option α)->Option α:=Classical.choose (WA (α:=α))
theorem SQ{α:Type}(r:Option (AV × AO))(k:AV->AO->Option α):K4 r k=r.bind fun x=>k x.1 x.2:=by unfold K4;rw[Classical.choose_spec (WA (α:=α))]
theorem VG{α:Type}{Q:Option α->Prop}{r:Option (AV × AO)}{k:AV->AO->Option α}{v:AV}{ob:AO}(hr:r=some (v,ob))(hy:Q (k v ob)):Q (K4 r k):=by
 rw[SQ,hr];exact hy
attribute [irreducible] K4
section
variable{α:Type}
noncomputable def Li(sh:Bool)(X:Cx)(fn:FuncId)(ops:Array Oper)(T:List Nat)(St:AH->Prop)(all:List Nat)(ord:List Nat):List AV->AH->List Dj->List Gt->(List AV->AH->Option α)->Option α:=
 List.rec (motive:=fun _=>List AV->AH->List Dj->List Gt->(List AV->AH->Option α)->Option α)
  (fun tm h E A k=>qW (jo X fn ops St tm all/\zY X fn ops T E h St all/\WG T E h A) (k tm h))
  (fun j _ go tm h E A k=>
   match ops[j]? with
   |some o=>
    FM ops tm o
     (fun tm=>
      match A8 X.P (o.dst.any (X.mu fn)) o.op with
      | .new=>K4 (newAt X.P tm o h.next) fun v ob=>EF tm o.dst v fun tm=>go tm (h.alloc ob) E (A++[⟨j,h.next,ob,E.length⟩]) k
      | .iD=>mI sh X fn tm o h (fun v h'=>EF tm o.dst v fun tm=>go tm h' (E++[⟨j,h,h'⟩]) A k) (fun _ _=>none)
      |_=>mI sh X fn tm o h (fun v _=>EF tm o.dst v fun tm=>go tm h E A k) (fun _ _=>none))
     (fun tm=>match A8 X.P (o.dst.any (X.mu fn)) o.op with
      | .iD=>EF tm o.dst Aj fun tm=>go tm h (E++[⟨j,h,h⟩]) A k
      |_=>EF tm o.dst Aj fun tm=>go tm h E A k)
   |none=>none) ord
theorem Ky{sh:Bool}{X:Cx}{fn:FuncId}{ops:Array Oper}{T:List Nat}{St:AH->Prop}{all:List Nat}{k:List AV->AH->Option α}{y:α}:∀{ord:List Nat} {tm:List AV} {h:AH} {E:List Dj} {A:List Gt},Li sh X fn ops T St all ord tm h E A k=some y->
  ∃tm' h' E' A',jO X fn ops ord ⟨tm,h,E,A⟩=some ⟨tm',h',E',A'⟩/\jo X fn ops St tm' all/\zY X fn ops T E' h' St all/\WG T E' h' A'/\k tm' h'=some y
 |[],tm,h,E,A,he=>by
  obtain⟨⟨h1,h2,h3⟩,h4⟩:=Zg (show qW (jo X fn ops St tm all/\zY X fn ops T E h St all/\WG T E h A) (k tm h)=some y from he)
  exact⟨tm,h,E,A,by simp[jO],h1,h2,h3,h4⟩
 |j::r,tm,h,E,A,he=>by
  have he:(match ops[j]? with
   |some o=>
    FM ops tm o
     (fun tm=>
      match A8 X.P (o.dst.any (X.mu fn)) o.op with
      | .new=>K4 (newAt X.P tm o h.next) fun v ob=>EF tm o.dst v fun tm=>Li sh X fn ops T St all r tm (h.alloc ob) E (A++[⟨j,h.next,ob,E.length⟩]) k
      | .iD=>mI sh X fn tm o h (fun v h'=>EF tm o.dst v fun tm=>Li sh X fn ops T St all r tm h' (E++[⟨j,h,h'⟩]) A k) (fun _ _=>none)
      |_=>mI sh X fn tm o h (fun v _=>EF tm o.dst v fun tm=>Li sh X fn ops T St all r tm h E A k) (fun _ _=>none))
     (fun tm=>match A8 X.P (o.dst.any (X.mu fn)) o.op with
      | .iD=>EF tm o.dst Aj fun tm=>Li sh X fn ops T St all r tm h (E++[⟨j,h,h⟩]) A k
      |_=>EF tm o.dst Aj fun tm=>Li sh X fn ops T St all r tm h E A k)
   |none=>none)=some y:=he
  simp only[jO]
  cases ho:ops[j]? with
  |none=>rw[ho]at he;cases he
  |some o=>
  rw[ho]at he
  simp only[IW,Tf,SQ]at he
  unfold Gm
  simp only
  split at he
  ·rename_i hw
   rw[if_pos hw]
   cases hk:A8 X.P (o.dst.any (X.mu fn)) o.op<;>rw[hk]at he<;>simp only at he ⊢
   case new=>
    cases hn:newAt X.P tm o h.next with
    |none=>rw[hn]at he;cases he
    |some x=>
     obtain⟨v,ob⟩:=x
     rw[hn]at he
     simp only[ajK,EN]at he ⊢
     exact Ky he
   all_goals
    cases hev:Cm X fn tm o h with
    |none=>rw[hev]at he;cases he
    |some x=>
     obtain⟨x,h'⟩:=x
     rw[hev]at he
     cases x with
     |jl v=>cases he
     |ret v=>
      simp only[Db,DW,EN]at he ⊢
      exact Ky he
  ·rename_i hw
   rw[if_neg hw]
   cases hk:A8 X.P (o.dst.any (X.mu fn)) o.op<;>rw[hk]at he<;>simp only[EN]at he ⊢
   all_goals exact Ky he
theorem QD(sh:Bool)(St:AH->Prop){X:Cx}{fn:FuncId}{ops:Array Oper}{T:List Nat}{ord:List Nat}{r:Option (Bl × gB)}(hpl:Ga X.P (X.mu fn) ops=some ⟨ord,T⟩){tm:List AV}{df:List Id}{h:AH}{k:KC α}{Q:Option α->Prop}
  (hr:r=drawn X fn ops ⟨tm,df,h⟩) (hn:¬Q none) (hy:Q (Li sh X fn ops T St ord ord tm h [] [] fun tm' h'=>k .normal ⟨tm',df,h'⟩)):Q (kF r k):=by
 unfold kF
 rw[hr]
 cases hc:Li sh X fn ops T St ord ord tm h [] [] fun tm' h'=>k .normal ⟨tm',df,h'⟩with
 |none=>rw[hc]at hy;exact absurd hy hn
 |some y=>
  obtain⟨tm',h',E',A',q1,q2,q3,q5,q6⟩:=Ky hc
  rw[YP hpl q1 q3 q2 q5]
  rw[hc]at hy
  simp only[ajK,q6]
  exact hy
end
end Go.Sk
namespace Go.Sk
def Gx(tm:List AV)(o:Oper):AV:=match o.dst with|some d=>tm.getD d Aj|none=>Aj
def aew(m i:Nat):Bool:=Nat.beq (Nat.mod (Nat.div m (Nat.pow 2 i)) 2) 1
theorem Y9(m i:Nat):aew m i=m.testBit i:=by
 rw[Nat.testBit_eq_decide_div_mod_eq]
 show Nat.beq (m / 2 ^ i % 2) 1=decide (m / 2 ^ i % 2=1)
 cases h:Nat.beq (m / 2 ^ i % 2) 1 with
 |true=>exact(decide_eq_true (akk h)).symm
 |false=>exact(decide_eq_false (Nat.ne_of_beq_eq_false h)).symm
def Rx(n:Nat)(k:Nat->Bool):Bool:=match n with
 |0=>k 0
 |n+1=>k (n+1)
theorem Ul(n:Nat)(k:Nat->Bool):Rx n k=k n:=by cases n<;>rfl
def JG(T:List Nat)(j:Nat):List Dj->Nat->Bool
 |[],_=>true
 |e::r,0=>(Rx e.j fun i=>Rx j fun j=>!aew (T.getD j 0) i)&&JG T j r 0
 |e::r,k+1=>(Rx e.j fun i=>Rx j fun j=>!aew (T.getD i 0) j)&&JG T j r k
theorem Oo(T:List Nat)(j:Nat):∀(E:List Dj) (k:Nat),JG T j E k=poss T E j k
 |[],k=>by simp[JG,poss]
 |e::r,0=>by simp[JG,Oo T j r 0,poss,Y9,Ul]
 |e::r,k+1=>by simp[JG,Oo T j r k,poss,Y9,Ul,Bool.and_assoc]
def YW(X:Cx)(fn:FuncId)(tm:List AV)(o:Oper)(h:AH)(v:AV):Prop:=
 match o.op with
 | .load t a=>(match Av tm a with|some p=>fF h (Ay X.P t p h)=some (.ret v,h)|none=>False)
 | .lookup t m k ok=>(match Av tm m,Av tm k with|some a,some b=>fF h (Eb X.P t a b ok h)=some (.ret v,h)|_,_=>False)
 | .call c=>(match c.callee,Dh tm c.args.toList with| .builtin b,some args=>Bh X (o.dst.any (X.mu fn)) b c.argTypes args h=some (.ret v,h)|_,_=>False)
 |_=>Cm X fn tm o h=some (.ret v,h)
theorem aaQ{X:Cx}{fn:FuncId}{tm:List AV}{o:Oper}{h:AH}{v:AV}(hr:YW X fn tm o h v):Cm X fn tm o h=some (.ret v,h):=by
 unfold YW at hr
 split at hr
 ·rename_i t a ho
  split at hr
  ·rename_i p hp;unfold Cm;rw[ho];simp only[hp];exact hr
  ·cases hr
 ·rename_i t m k ok ho
  split at hr
  ·rename_i a b h1 h2;unfold Cm;rw[ho];simp only[h1,h2];exact hr
  ·cases hr
 ·rename_i c ho
  split at hr
  ·rename_i b args h1 h2;unfold Cm;rw[ho];simp only[IZ,h1,h2];exact hr
  ·cases hr
 ·exact hr
def Oy(X:Cx)(fn:FuncId)(T:List Nat)(tm:List AV)(E:List Dj)(h:AH)(j:Nat)(o:Oper)(a:Prop):List Nat->Prop
 |[]=>a
 |k::r=>match JG T j E k with
  |true=>YW X fn tm o (gu E h k) (Gx tm o)/\Oy X fn T tm E h j o a r
  |false=>Oy X fn T tm E h j o a r
def GR(X:Cx)(fn:FuncId)(ops:Array Oper)(T:List Nat)(tm:List AV)(E:List Dj)(h:AH)(ks:List Nat)(a:Prop):List Nat->Prop
 |[]=>a
 |j::r=>match ops[j]? with
  |some o=>(match A8 X.P (o.dst.any (X.mu fn)) o.op with
   | .read=>(match BU ops tm o with|true=>Oy X fn T tm E h j o (GR X fn ops T tm E h ks a r) ks|false=>GR X fn ops T tm E h ks a r)
   |_=>GR X fn ops T tm E h ks a r)
  |none=>GR X fn ops T tm E h ks a r
def Sy(T:List Nat)(E:List Dj)(h:AH)(n:Gt)(a:Prop):List Nat->Prop
 |[]=>a
 |k::r=>match JG T n.j E k with
  |true=>(n.q<=k/\(gu E h k).get n.r=some n.obj)/\Sy T E h n a r
  |false=>Sy T E h n a r
def R3(n:Gt)(a:Prop):List Gt->Prop
 |[]=>a
 |b::r=>n.r≠b.r/\R3 n a r
def U0(T:List Nat)(E:List Dj)(h:AH)(ks:List Nat):List Gt->Prop
 |[]=>True
 |n::r=>AO.beq n.obj n.obj=true/\Sy T E h n (R3 n (U0 T E h ks r) r) ks
def zZ(X:Cx)(fn:FuncId)(ops:Array Oper)(T:List Nat)(tm:List AV)(E:List Dj)(h:AH)(A:List Gt)(all:List Nat):Prop:=
 GR X fn ops T tm E h (List.range (E.length+1)) (U0 T E h (List.range (E.length+1)) A) all
theorem Ka{X:Cx}{fn:FuncId}{T:List Nat}{tm:List AV}{E:List Dj}{h:AH}{j:Nat}{o:Oper}{a:Prop}:∀{ks:List Nat},Oy X fn T tm E h j o a ks->a/\∀k∈ks,JG T j E k=true->∃h2,Cm X fn tm o (gu E h k)=some (.ret (Gx tm o),h2)
 |[],ha=>⟨ha,fun k hk=>by cases hk⟩
 |k::r,ha=>by
  unfold Oy at ha
  split at ha
  ·obtain⟨h1,h2⟩:=Ka ha.2
   exact⟨h1,fun i hi hp=>by rcases adf.1 hi with rfl|hi;exact⟨_,aaQ ha.1⟩;exact h2 i hi hp⟩
  ·rename_i hf
   obtain⟨h1,h2⟩:=Ka ha
   exact⟨h1,fun i hi hp=>by
    rcases adf.1 hi with rfl|hi
    ·rw[hf]at hp;cases hp
    ·exact h2 i hi hp⟩
theorem MI{X:Cx}{fn:FuncId}{ops:Array Oper}{T:List Nat}{tm:List AV}{E:List Dj}{h:AH}{ks:List Nat}{a:Prop}:∀{L:List Nat},GR X fn ops T tm E h ks a L->
  a/\∀j∈L,∀o,ops[j]?=some o->A8 X.P (o.dst.any (X.mu fn)) o.op= .read->BU ops tm o=true->∀k∈ks,JG T j E k=true->∃h2,Cm X fn tm o (gu E h k)=some (.ret (Gx tm o),h2)
 |[],ha=>⟨ha,fun k hk=>by cases hk⟩
 |j::r,ha=>by
  have key:GR X fn ops T tm E h ks a r->(∀o,ops[j]?=some o->A8 X.P (o.dst.any (X.mu fn)) o.op= .read->BU ops tm o=true->∀k∈ks,JG T j E k=true->∃h2,Cm X fn tm o (gu E h k)=some (.ret (Gx tm o),h2))->
    a/\∀i∈j::r,∀o,ops[i]?=some o->A8 X.P (o.dst.any (X.mu fn)) o.op= .read->BU ops tm o=true->∀k∈ks,JG T i E k=true->∃h2,Cm X fn tm o (gu E h k)=some (.ret (Gx tm o),h2):=fun hr hj=>by
   obtain⟨h1,h2⟩:=MI hr
   exact⟨h1,fun i hi=>by rcases adf.1 hi with rfl|hi;exact hj;exact h2 i hi⟩
  unfold GR at ha
  split at ha
  ·rename_i o ho
   split at ha
   ·rename_i hk
    split at ha
    ·rename_i hw
     obtain⟨h1,h2⟩:=Ka ha
     exact key h1 fun o2 ho2 _ _ k hk hp=>by rw[ho]at ho2;cases ho2;exact h2 k hk hp
    ·rename_i hw
     exact key ha fun o2 ho2 _ hw2=>by rw[ho]at ho2;cases ho2;rw[hw]at hw2;cases hw2
   ·rename_i hk
    exact key ha fun o2 ho2 hk2=>by rw[ho]at ho2;cases ho2;exact absurd hk2 hk
  ·rename_i ho
   exact key ha fun o2 ho2=>by rw[ho]at ho2;cases ho2
theorem Lh{T:List Nat}{E:List Dj}{h:AH}{n:Gt}{a:Prop}:∀{ks:List Nat},Sy T E h n a ks->a/\∀k∈ks,JG T n.j E k=true->n.q<=k/\(gu E h k).get n.r=some n.obj
 |[],ha=>⟨ha,fun k hk=>by cases hk⟩
 |k::r,ha=>by
  unfold Sy at ha
  split at ha
  ·obtain⟨h1,h2⟩:=Lh ha.2
   exact⟨h1,fun i hi hp=>by rcases adf.1 hi with rfl|hi;exact ha.1;exact h2 i hi hp⟩
  ·rename_i hf
   obtain⟨h1,h2⟩:=Lh ha
   exact⟨h1,fun i hi hp=>by
    rcases adf.1 hi with rfl|hi
    ·rw[hf]at hp;cases hp
    ·exact h2 i hi hp⟩
theorem MK{n:Gt}{a:Prop}:∀{L:List Gt},R3 n a L->a/\∀b∈L,n.r≠b.r
 |[],ha=>⟨ha,fun b hb=>by cases hb⟩
 |b::r,ha=>by
  obtain⟨h1,h2⟩:=MK ha.2
  exact⟨h1,fun c hc=>by rcases adf.1 hc with rfl|hc;exact ha.1;exact h2 c hc⟩
theorem OE{T:List Nat}{E:List Dj}{h:AH}:∀{A:List Gt},U0 T E h (List.range (E.length+1)) A->WG T E h A
 |[],_=>⟨fun a ha=>(by cases ha),rfl⟩
 |n::r,ha=>by
  obtain⟨h1,h2⟩:=Lh ha.2
  obtain⟨h3,h4⟩:=MK h1
  obtain⟨h5,h6⟩:=OE h3
  refine⟨fun b hb=>?_,?_⟩
  ·rcases adf.1 hb with rfl|hb
   ·exact⟨ha.1,fun k hk hp=>h2 k (by simp;omega) (by rw[Oo];exact hp)⟩
   ·exact h5 b hb
  ·unfold Gz
   rw[h6,Bool.and_true,ajG]
   intro b hb;exact decide_eq_true (h4 b hb)
theorem ada{X:Cx}{fn:FuncId}{ops:Array Oper}{pl:Plan}(hpl:Ga X.P (X.mu fn) ops=some pl){tm tm':List AV}{df:List Id}{h h':AH}{E':List Dj}{A':List Gt}
  (hst:jO X fn ops pl.ord ⟨tm,h,[],[]⟩=some ⟨tm',h',E',A'⟩) (ho:zZ X fn ops pl.T tm' E' h' A' pl.ord):drawn X fn ops ⟨tm,df,h⟩=some (.normal,⟨tm',df,h'⟩):=by
 obtain⟨hA,hR⟩:=MI ho
 replace hA:=OE hA
 unfold drawn
 rw[hpl]
 simp only[hst]
 rw[if_pos]
 simp only[ajM,aci]
 have hops:∀j∈pl.ord,∃o,ops[j]?=some o:=by
  have:∀(L:List Nat) (s s':j3),jO X fn ops L s=some s'->∀j∈L,∃o,ops[j]?=some o:=by
   intro L
   induction L with
   |nil=>intro s s' _ j hj;cases hj
   |cons i r ih=>
    intro s s' hg j hj
    simp only[jO]at hg
    split at hg
    ·rename_i o ho
     split at hg
     ·rename_i s1 _
      rcases adf.1 hj with rfl|hj
      ·exact⟨o,ho⟩
      ·exact ih s1 s' hg j hj
     ·cases hg
    ·cases hg
  exact this _ _ _ hst
 refine .inr ⟨⟨GL fun j hj=>?_,?_⟩,hA.2⟩
 ·obtain⟨o,ho⟩:=hops j hj
  refine⟨o,ho,?_⟩
  unfold GJ
  simp only
  split
  ·rename_i hw
   split
   ·rename_i hk
    rw[ajG]
    intro k hkr
    cases hp:poss pl.T E' j k with
    |false=>simp
    |true=>
    obtain⟨h2,hev⟩:=hR j hj o ho hk hw k hkr (by rw[Oo];exact hp)
    rw[hev]
    simp only[ajM]
    right
    unfold Lr Gx
    cases hd:o.dst with
    |none=>rfl
    |some d=>
     simp only
     split
     ·rename_i u hu
      rw[aal,hu]
      exact AV.beq_refl _
     ·rfl
   ·rfl
  ·rfl
 ·rw[ajG]
  intro a ha
  unfold PI
  rw[ajG]
  intro k hk
  simp only[ajD]at hk
  obtain⟨h0,hA1⟩:=hA.1 a ha
  cases hp:poss pl.T E' a.j k with
  |false=>simp
  |true=>
   obtain⟨h1,h2⟩:=hA1 k (by omega) hp
   simp only[alh,Bool.false_or,h2,decide_eq_true h1,akT]
   exact h0
section
variable{α:Type}
noncomputable def Kw(sh:Bool)(X:Cx)(fn:FuncId)(ops:Array Oper)(T:List Nat)(all:List Nat)(ord:List Nat):List AV->AH->List Dj->List Gt->(List AV->AH->Option α)->Option α:=
 List.rec (motive:=fun _=>List AV->AH->List Dj->List Gt->(List AV->AH->Option α)->Option α)
  (fun tm h E A k=>qW (zZ X fn ops T tm E h A all) (k tm h))
  (fun j _ go tm h E A k=>
   match ops[j]? with
   |some o=>
    FM ops tm o
     (fun tm=>
      match A8 X.P (o.dst.any (X.mu fn)) o.op with
      | .new=>K4 (newAt X.P tm o h.next) fun v ob=>EF tm o.dst v fun tm=>go tm (h.alloc ob) E (A++[⟨j,h.next,ob,E.length⟩]) k
      | .iD=>mI sh X fn tm o h (fun v h'=>EF tm o.dst v fun tm=>go tm h' (E++[⟨j,h,h'⟩]) A k) (fun _ _=>none)
      |_=>mI sh X fn tm o h (fun v _=>EF tm o.dst v fun tm=>go tm h E A k) (fun _ _=>none))
     (fun tm=>match A8 X.P (o.dst.any (X.mu fn)) o.op with
      | .iD=>EF tm o.dst Aj fun tm=>go tm h (E++[⟨j,h,h⟩]) A k
      |_=>EF tm o.dst Aj fun tm=>go tm h E A k)
   |none=>none) ord
theorem J3{sh:Bool}{X:Cx}{fn:FuncId}{ops:Array Oper}{T:List Nat}{all:List Nat}{k:List AV->AH->Option α}{y:α}:∀{ord:List Nat} {tm:List AV} {h:AH} {E:List Dj} {A:List Gt},Kw sh X fn ops T all ord tm h E A k=some y->
  ∃tm' h' E' A',jO X fn ops ord ⟨tm,h,E,A⟩=some ⟨tm',h',E',A'⟩/\zZ X fn ops T tm' E' h' A' all/\k tm' h'=some y
 |[],tm,h,E,A,he=>by
  obtain⟨h1,h4⟩:=Zg (show qW (zZ X fn ops T tm E h A all) (k tm h)=some y from he)
  exact⟨tm,h,E,A,by simp[jO],h1,h4⟩
 |j::r,tm,h,E,A,he=>by
  have he:(match ops[j]? with
   |some o=>
    FM ops tm o
     (fun tm=>
      match A8 X.P (o.dst.any (X.mu fn)) o.op with
      | .new=>K4 (newAt X.P tm o h.next) fun v ob=>EF tm o.dst v fun tm=>Kw sh X fn ops T all r tm (h.alloc ob) E (A++[⟨j,h.next,ob,E.length⟩]) k
      | .iD=>mI sh X fn tm o h (fun v h'=>EF tm o.dst v fun tm=>Kw sh X fn ops T all r tm h' (E++[⟨j,h,h'⟩]) A k) (fun _ _=>none)
      |_=>mI sh X fn tm o h (fun v _=>EF tm o.dst v fun tm=>Kw sh X fn ops T all r tm h E A k) (fun _ _=>none))
     (fun tm=>match A8 X.P (o.dst.any (X.mu fn)) o.op with
      | .iD=>EF tm o.dst Aj fun tm=>Kw sh X fn ops T all r tm h (E++[⟨j,h,h⟩]) A k
      |_=>EF tm o.dst Aj fun tm=>Kw sh X fn ops T all r tm h E A k)
   |none=>none)=some y:=he
  simp only[jO]
  cases ho:ops[j]? with
  |none=>rw[ho]at he;cases he
  |some o=>
  rw[ho]at he
  simp only[IW,Tf,SQ]at he
  unfold Gm
  simp only
  split at he
  ·rename_i hw
   rw[if_pos hw]
   cases hk:A8 X.P (o.dst.any (X.mu fn)) o.op<;>rw[hk]at he<;>simp only at he ⊢
   case new=>
    cases hn:newAt X.P tm o h.next with
    |none=>rw[hn]at he;cases he
    |some x=>
     obtain⟨v,ob⟩:=x
     rw[hn]at he
     simp only[ajK,EN]at he ⊢
     exact J3 he
   all_goals
    cases hev:Cm X fn tm o h with
    |none=>rw[hev]at he;cases he
    |some x=>
     obtain⟨x,h'⟩:=x
     rw[hev]at he
     cases x with
     |jl v=>cases he
     |ret v=>
      simp only[Db,DW,EN]at he ⊢
      exact J3 he
  ·rename_i hw
   rw[if_neg hw]
   cases hk:A8 X.P (o.dst.any (X.mu fn)) o.op<;>rw[hk]at he<;>simp only[EN]at he ⊢
   all_goals exact J3 he
theorem adT(pl:Plan){X:Cx}{fn:FuncId}{ops:Array Oper}{r:Option (Bl × gB)}{tm:List AV}{df:List Id}{h:AH}{k:KC α}{Q:Option α->Prop}
  (hpl:Ga X.P (X.mu fn) ops=some pl) (hr:r=drawn X fn ops ⟨tm,df,h⟩) (hn:¬Q none) (hy:Q (Kw true X fn ops pl.T pl.ord pl.ord tm h [] [] fun tm' h'=>k .normal ⟨tm',df,h'⟩)):Q (kF r k):=by
 unfold kF
 rw[hr]
 cases hc:Kw true X fn ops pl.T pl.ord pl.ord tm h [] [] fun tm' h'=>k .normal ⟨tm',df,h'⟩with
 |none=>rw[hc]at hy;exact absurd hy hn
 |some y=>
  obtain⟨tm',h',E',A',q1,q2,q6⟩:=J3 hc
  rw[ada hpl q1 q2]
  rw[hc]at hy
  simp only[ajK,q6]
  exact hy
end
end Go.Sk
namespace Go.Sk
theorem Om{s:Nat}:∀{xs:List AV},(∀i (hi:i<xs.length),xs[i].cells.length=s)->∀i (hi:i<xs.length) j (hj:j<xs[i].cells.length),(flat xs)[i*s+j]?=some xs[i].cells[j]
 |[],_,i,hi=>by simp at hi
 |x::xs,h,i,hi=>by
  intro j hj
  have h0:x.cells.length=s:=by have:=h 0 (by simp);simpa using this
  rw[DZ]
  cases i with
  |zero=>
   simp only[ajS]at hj ⊢
   rw[alu,ajx,ajB hj,aaj hj]
  |succ i=>
   simp only[List.getElem_cons_succ]at hj ⊢
   rw[adU (by rw[h0,ajW];omega),h0,show(i+1)*s+j - s=i*s+j by rw[ajW];omega]
   exact Om (fun k hk=>by have:=h (k+1) (by simpa using hk);simpa using this) i (by simpa using hi) j hj
end Go.Sk
namespace Go.Sk
inductive Fz (r:Id) (xs:List AV):AV->AV->Prop
 |refl (v:AV):Fz r xs v v
 |hit (len:Nat) (cap:Gg):xs.length=len->Fz r xs (.hsl r 0 len cap) (.fC xs .unk)
 |agg (cs us:List AV):cs.length=us.length->(∀i (h1:i<cs.length) (h2:i<us.length),Fz r xs cs[i] us[i])->Fz r xs (.agg cs) (.agg us)
 |fD (cs us:List AV):cs.length=us.length->(∀i (h1:i<cs.length) (h2:i<us.length),Fz r xs cs[i] us[i])->Fz r xs (.fD cs) (.fD us)
end Go.Sk
namespace Go.Sk
theorem ady{ρ:eT}{h:AH}{w:World}(h3:Rel ρ h w){r:Id}{xs:List AV}{T:TypeId}{s:Nat}(hg:h.get r=some (.cells (flat xs) T))(hxs:∀i (hi:i<xs.length),xs[i].cells.length=s) :
  ∃ρ2,ρ2.base=ρ.base/\Rel ρ2 (h.set r .dead) w/\Stp ρ h w ρ2 (h.set r .dead) w/\∀v u c,Fz r xs v u->bf ρ v c->bf ρ2 u c:=by
 have own:∀{ρ2:eT},ρ2.obj=ρ.obj->ρ2.fM=ρ.fM->∀b,Own ρ2 (h.set r .dead) b->Own ρ h b:=fun e1 e2 b ho=>by
  rcases ho with⟨q,o,h1,h2,h5⟩|⟨g,e,c,h1,h2⟩
  ·rw[AH.ak]at h2
   split at h2
   ·cases h2;exact h5.elim
   ·exact .inl ⟨q,o,by rw[<-e1];exact h1,h2,h5⟩
  ·rw[AH.ak]at h2
   split at h2
   ·cases h2
   ·exact .inr ⟨g,e,c,by rw[<-e2];exact h1,h2⟩
 cases hb:ρ.obj r with
 |none=>
  refine⟨ρ,rfl,h3.kill hg (by trivial:(AO.cells (flat xs) T).live),⟨ρ.le_refl,by rw[AH.fP];exact acu _,rfl,rfl,rfl,acu _,fun _ _ _=>rfl,fun b _ ho=>own rfl rfl b ho,fun _ _ _ e=>e,fun _ _ _ _ e=> .inl e⟩,fun v u c hf=>?_⟩
  induction hf generalizing c with
  |refl v=>exact fun h=>h
  |hit len cap hl=>intro h;cases h with|hsl _ _ _ _ b n h1 _ _=>rw[hb]at h1;cases h1
  |agg cs us hl _ ih=>intro h;cases h with|agg _ eU h1 hv=>exact .agg us eU (by omega) fun i hi hj=>ih i (by omega) hi _ (hv i (by omega) hj)
  |fD cs us hl _ ih=>intro h;cases h with|fD _ eU h1 hv=>exact .fD us eU (by omega) fun i hi hj=>ih i (by omega) hi _ (hv i (by omega) hj)
 |some b=>
  obtain⟨hbase,hlt,_⟩:=h3.bound r b hb
  obtain⟨eU,fr,hbl,hpre,hone,_⟩:=h3.obj r _ b hg hb
  have hni:∀o,ρ.gG b o=none:=fun o=>by
   cases e:ρ.gG b o with
   |none=>rfl
   |some v=>have:=h3.jd b o v r e hb;rw[hg]at this;cases this
  have wU:∀q,ρ.obj q=some b->(h.set r .dead).get q=some .dead:=fun q hq=>by
   rw[AH.ak]
   split
   ·rfl
   ·rename_i hne
    by_cases hd:h.get q=some .dead
    ·exact hd
    ·exact absurd (h3.inj q r b hq hb hd (by rw[hg];simp)) hne
  have jU:=(h3.kill hg (by trivial:(AO.cells (flat xs) T).live)).jA b 0 (flat xs).length (fun j=>eU.getD j Go.undef)
   (fun j hj=>by
    have hj':j<eU.length:=ajF hj hpre.1
    rw[ajx]
    simp[World.cell?,hbl,List.getD,hj'])
   (fun j hj=>by
    have hj':j<eU.length:=ajF hj hpre.1
    exact hone _ (by simp[List.getD,hj']))
   (fun o _ _=>hni o) wU
   (fun g e c' h5 h6=>by
    rw[AH.ak]at h5
    split at h5
    ·cases h5
    ·have:=(h3.fM g e b c' h5 h6).2.2.2 r hb
     rw[hg]at this;cases this)
  have ait:∀o,o<(flat xs).length->(ρ.gq b 0 (flat xs).length fun j=>eU.getD j Go.undef).gG b o=some (eU.getD o Go.undef):=fun o ho=>by
   have:=eT.iG ρ b 0 (flat xs).length (fun j=>eU.getD j Go.undef) o ho
   rwa [ajx]at this
  have hle:ρ.le (ρ.gq b 0 (flat xs).length fun j=>eU.getD j Go.undef):=eT.jK fun o _ _=>hni o
  have hfl:(flat xs).length=xs.length*s:=Bd hxs
  have hat:∀i (hi:i<xs.length) j (hj:j<xs[i].cells.length),bf ρ xs[i].cells[j] (eU.getD (i*s+j) Go.undef):=fun i hi j hj=>by
   have h7:=Om hxs i hi j hj
   obtain⟨x,hx,hv⟩:=hpre.find h7
   have:eU.getD (i*s+j) Go.undef=x:=by simp[List.getD,hx]
   rw[this];exact hv
  have hin:∀i j,i<xs.length->j<s->i*s+j<(flat xs).length:=fun i j hi hj=>by
   rw[hfl]
   have:(i+1)*s<=xs.length*s:=ajY _ (by omega)
   rw[ajW]at this;omega
  refine⟨ρ.gq b 0 (flat xs).length fun j=>eU.getD j Go.undef,rfl,jU,⟨hle,by rw[AH.fP];exact acu _,rfl,rfl,rfl,acu _,fun _ _ _=>rfl,fun b _ ho=>own rfl rfl b ho,fun _ _ _ e=>e,fun b' o v _ e=>?_⟩,fun v u c hf=>?_⟩
  ·by_cases hne:b'=b
   ·subst hne;exact .inr (.inl ⟨r,_,hb,hg,by trivial⟩)
   ·exact .inl (by simpa[eT.gq,hne]using e)
  ·induction hf generalizing c with
   |refl v=>exact fun h=>h.mono hle
   |hit len cap hl=>
    intro h
    cases h with|hsl _ _ _ _ b' n h1 hn _=>
    rw[hb]at h1;cases h1
    subst hl
    refine .fC xs _ b 0 n s (fun i j=>eU.getD (i*s+j) Go.undef) hxs (fun i j hi hj=>?_) (fun i hi j hj=>(hat i hi j hj).mono hle) hn trivial
    rw[ajx];exact ait _ (hin i j hi hj)
   |agg cs us hl _ ih=>intro h;cases h with|agg _ eU h1 hv=>exact .agg us eU (by omega) fun i hi hj=>ih i (by omega) hi _ (hv i (by omega) hj)
   |fD cs us hl _ ih=>intro h;cases h with|fD _ eU h1 hv=>exact .fD us eU (by omega) fun i hi hj=>ih i (by omega) hi _ (hv i (by omega) hj)
def lM(r:Id)(xs:List AV)(v:AV):AV:=match v with
 | .hsl q 0 len c=>if q=r/\xs.length=len then .fC xs .unk else .hsl q 0 len c
 |v=>v
def lN(r:Id)(xs:List AV)(v:AV):AV:=match v with
 | .agg cs=> .agg (cs.map (lM r xs))
 |v=>lM r xs v
theorem Fz.lM(r:Id)(xs:List AV)(v:AV):Fz r xs v (Sk.lM r xs v):=by
 unfold Sk.lM
 split
 ·rename_i q len c
  split
  ·rename_i h;obtain⟨rfl,h⟩:=h;exact .hit len c h
  ·exact .refl _
 ·exact .refl _
theorem Fz.lN(r:Id)(xs:List AV)(v:AV):Fz r xs v (Sk.lN r xs v):=by
 unfold Sk.lN
 split
 ·rename_i cs
  exact .agg _ _ (by simp) fun i h1 h2=>by rw[akf];exact .lM r xs _
 ·exact .lM r xs _
def z8:AV->Option Id
 | .hsl r _ _ _=>some r
 |_=>none
def Yd:AV->Option Id
 | .agg cs=>cs.findSome? z8
 |v=>z8 v
def Sc:AV->Bool
 | .agg _=>false
 |_=>true
theorem Qp{v:AV}(h:Sc v=true):v.cells=[v]:=by cases v<;>first|rfl|(simp[Sc]at h)
theorem V9:∀{cs:List AV},cs.all Sc=true->flat cs=cs
 |[],_=>rfl
 |v::r,h=>by
  simp only[adP,aci]at h
  have:=V9 h.2
  unfold flat at this ⊢
  rw[ajN,Qp h.1,this];rfl
def Kc:Nat->List AV->AH->Option (List AV × AH)
 |0,args,h=>some (args,h)
 |n+1,args,h=>match args.findSome? Yd with
  |none=>some (args,h)
  |some r=>match h.get r with
   |some (.cells cs _)=>if cs.all Sc=true then Kc n (args.map (lN r cs)) (h.set r .dead)else none
   |_=>none
theorem RF:∀(n:Nat) {args args':List AV} {h h':AH},Kc n args h=some (args',h')->∀{ρ:eT} {w:World} {eP:List Value},Rel ρ h w->dw ρ args eP->∃ρ2,ρ2.base=ρ.base/\Rel ρ2 h' w/\Stp ρ h w ρ2 h' w/\dw ρ2 args' eP
 |0,args,args',h,h',e,ρ,w,eP,hR,ha=>by
  simp only[Kc,aai,abW]at e
  obtain⟨rfl,rfl⟩:=e
  exact⟨ρ,rfl,hR,Stp.refl _ _ _,ha⟩
 |n+1,args,args',h,h',e,ρ,w,eP,hR,ha=>by
  rw[Kc]at e
  split at e
  ·simp only[aai,abW]at e
   obtain⟨rfl,rfl⟩:=e
   exact⟨ρ,rfl,hR,Stp.refl _ _ _,ha⟩
  ·rename_i r _
   split at e
   ·rename_i cs T hg
    split at e
    ·rename_i ho
     obtain⟨ρ1,b1,R1,S1,f1⟩:=ady hR (r:=r) (xs:=cs) (T:=T) (s:=1) (by rw[V9 ho];exact hg) (fun i hi=>by rw[Qp (ajG.1 ho _ (akv hi))];rfl)
     have ha1:dw ρ1 (args.map (lN r cs)) eP:=⟨by rw[aaq];exact ha.1,fun i hi hj=>by
      rw[akf]
      exact f1 _ _ _ (Fz.lN r cs _) (ha.2 i (by simpa using hi) hj)⟩
     obtain⟨ρ2,b2,R2,S2,a2⟩:=RF n e R1 ha1
     exact⟨ρ2,b2.trans b1,R2,S1.trans S2,a2⟩
    ·cases e
   ·cases e
def Kv(hk:Ar)(f:FuncId)(s:List AV->Option AV):Ar:=fun g args h=>if g=f then(match Kc 3 args h with|some (args',h')=>Bb hk f s f args' h'|none=>none)else hk g args h
theorem Vm(hk:Ar){f g:FuncId}(s:List AV->Option AV)(args:List AV)(ah:AH)(h:g≠f):Kv hk f s g args ah=hk g args ah:=by simp[Kv,h]
theorem ZR{P:Program}{mu:FuncId->Nat->Bool}{hk:Ar}{f:FuncId}{s:List AV->Option AV}(hE:Bq (Ak P mu hk))(hE2:Bq (Ak P mu (Bb hk f s))):Bq (Ak P mu (Kv hk f s)) where
 hk:=fun g args hh v hh' h ρ w eP hR hb ha=>by
  by_cases hg:g=f
  ·subst hg
   have h:Kv hk g s g args hh=some (v,hh'):=h
   unfold Kv at h
   rw[if_pos rfl]at h
   cases e:Kc 3 args hh with
   |none=>rw[e]at h;cases h
   |some p=>
    obtain⟨args',h1⟩:=p
    rw[e]at h
    obtain⟨ρ2,b2,R2,S2,a2⟩:=RF 3 e hR ha
    obtain⟨k1,k2⟩:=hE2.hk g args' h1 v hh' h ρ2 w eP R2 (by rw[b2];exact hb) a2
    refine⟨k1,k2.mono fun x w' hp=>?_⟩
    cases x with
    |returned cv=>
     obtain⟨av,ρ',q1,q2,q3,q4⟩:=hp
     exact⟨av,ρ',q1,q2,q3,S2.trans q4⟩
    |panicked ch=>obtain⟨av,cv,ρ',q1,_⟩:=hp;cases q1
    |outgrown=>exact hp.elim
  ·have h':hk g args hh=some (v,hh'):=by rw[<-Vm hk s args hh hg];exact h
   exact hE.hk g args hh v hh' h' ρ w eP hR hb ha
 ng:=hE.ng
 eu:=hE.eu
end Go.Sk
namespace Go.Sk
theorem abd{P:Program}{f:FuncId}{eP:Array Value}{cv:Value}{v:AV}{ρ:eT}{h:AH}{w:World}(hR:Rel ρ h w)(hc:Calls P f eP w fun e w'=>e= .returned cv/\RowKit.Below w.heap.size w w')(hv:bf ρ v cv) :
  Calls P f eP w (Ec ρ h w (.ret v) h):=by
 refine hc.mono fun e w' hp=>?_
 obtain⟨rfl,hb⟩:=hp
 have hg:iX w w':=⟨hb.os,hb.tape,hb.output,hb.size,hb.block⟩
 exact⟨v,ρ,rfl,hv,hR.grew hg,Stp.grew hg⟩
theorem dw.weak{ρ:eT}{args:List AV}{eP:List Value}(ha:dw ρ args eP)(hf:BJ args=true):dw ρ (CB args) eP:=
 ⟨by rw[BD];exact ha.1,fun i hi hj=>by
  have hi':i<args.length:=by rw[BD]at hi;exact hi
  rw[EH args i hi']
  exact bf.nK (ρ2:=ρ) (fun _ _ _ e=>e) (ha.2 i hi' hj) (Fp hf i hi')⟩
theorem OP{P:Program}{mu:FuncId->Nat->Bool}{hk:Ar}{f:FuncId}{s:List AV->Option AV}(hE:Bq (Ak P mu hk))(hk':Qx P f)
  (hs:∀args v,s args=some v->∀ρ h w eP,Rel ρ h w->dw ρ args eP->∃cv,bf ρ v cv/\Calls P f eP.toArray w fun e w'=>e= .returned cv/\RowKit.Below w.heap.size w w'):Bq (Ak P mu (Bb hk f s)) where
 hk:=fun g args hh v hh' h ρ w eP hR hb ha=>by
  by_cases hg:g=f
  ·subst hg
   obtain⟨hfr,h',rfl⟩:=LP h
   obtain⟨cv,h1,h2⟩:=hs _ v h' ρ _ w eP hR (ha.weak hfr)
   exact⟨hk',abd hR h2 h1⟩
  ·have h':hk g args hh=some (v,hh'):=by rw[<-I7 hk s args hh hg];exact h
   exact hE.hk g args hh v hh' h' ρ w eP hR hb ha
 ng:=hE.ng
 eu:=hE.eu
theorem Rel.var{ρ:eT}{h:AH}{w:World}(hR:Rel ρ h w){P:Program}{name:String}{g:Nat}{cs:Array Value}(hn:P.globalNamed name=some g)(h0:vH g=some cs):w.var? P name=some cs:=by
 obtain⟨_,T,fr,h1⟩:=hR.jf g cs h0
 simp only[World.var?,hn,ajK,h1]
theorem V4{P:Program}{types:Array TypeId}{t tx:TypeId}{elem:TypeId}{d:TypeDesc}{l x z:AV}{xs ys:List AV}{h:AH}{n:Nat}
  (h0:types[0]?=some t) (h1:types[1]?=some tx) (ht:P.underlying t=some (.slice elem)) (htx:P.underlying tx=some d) (hd:∀k,d≠ .int k)
  (hx:CQ P elem x h=some ys) (hn:sizeT P elem=some n) (hz:BL P elem=some z) (hn0:n≠0) (hzn:z.cells.length=n) (hzs:z.cells.all AV.scalar=true)
  (hy:ys≠[]) (vL:Ba n ys=true) (hhx:Ba n xs=true) (hl:Grow h l xs)
  (hb:(xs.length+ys.length)*P.bytesOf elem<=140737488355328) (hb2:xs.length+ys.length<=140737488355328) :
  ∃l' h',AX P false types l x h=some (l',h')/\Grow h' l' (xs++ys)/\h.next.nat<=h'.next.nat/\(∀q o,h.get q=some o->Gi l≠some q->q.nat<h.next.nat->h'.get q=some o)/\(∀q,Gi l'=some q->Gi l=some q\/h.next.nat<=q.nat):=by
 have hyl:ys.length≠0:=fun e=>hy (abf e)
 unfold AX
 simp only[h0,h1,ht,htx]
 rcases hl with⟨rfl,rfl⟩|⟨g,rfl,hxs,hg,hgn⟩
 ·refine⟨.fC ys (.own h.next ys.length),h.alloc (.fM ys.length),?_,.inr ⟨h.next,by simp,by simpa using hy,by simp[AH.au],by simp[AH.bn,Id.dz]⟩,by simp[AH.bn,Id.dz],fun q o hq _ hlt=>?_,fun q hq=>?_⟩
  ·cases d<;>first|exact absurd rfl (hd _)|skip
   all_goals (simp only[hx,hn,hz];simp_all;try omega)
  ·rw[AH.au,if_neg];exact hq
   rintro rfl;omega
  ·simp only[Gi,aai]at hq;subst hq;exact .inr (acu _)
 ·have hxl:xs.length≠0:=fun e=>hxs (abf e)
  refine⟨.fC (xs++ys) (.own g (xs.length+ys.length)),h.set g (.fM (xs.length+ys.length)),?_,.inr ⟨g,by simp,by simp[hxs],by simp[AH.ak],by simpa[AH.fP]using hgn⟩,by simp[AH.fP],fun q o hq hne _=>?_,fun q hq=> .inl hq⟩
  ·cases d<;>first|exact absurd rfl (hd _)|skip
   all_goals (simp only[hx,hn,hz];simp_all;try omega)
  ·rw[AH.ak,if_neg];exact hq
   rintro rfl;exact hne rfl
end Go.Sk
set_option linter.unusedVariables false
namespace Go.Sk
structure Fr (F:List Id) (h h':AH):Prop where
 keep:∀q o,h.get q=some o->q.nat<h.next.nat->q ∉ F->h'.get q=some o
 next:h.next.nat<=h'.next.nat
theorem Fr.refl(F:List Id)(h:AH):Fr F h h:=⟨fun _ _ a _ _=>a,acu _⟩
theorem Fr.step{F G:List Id}{a b c:AH}(h:Fr F a b)(k:Fr G b c)(hs:∀q∈G,q∈F\/a.next.nat<=q.nat):Fr F a c:=
 ⟨fun q o e l n=>k.keep q o (h.keep q o e l n) (ajF l h.next) (fun m=>by rcases hs q m with x|x;exact n x;omega),aj3 h.next k.next⟩
theorem Fr.alloc(h:AH)(o:AO):Fr [] h (h.alloc o):=⟨fun q o' e l _=>by rw[AH.au,if_neg (by rintro rfl;omega)];exact e,by simp[AH.bn,Id.dz]⟩
theorem Fr.set(h:AH)(i:Id)(o:AO):Fr [i] h (h.set i o):=⟨fun q o' e l n=>by rw[AH.ak,if_neg (by rintro rfl;exact n (ajw.2 rfl))];exact e,acu _⟩
structure HE where
 i:Id
 o:AO
 w:Bool
structure Hb (F:List Id) (h0 h:AH) (L:List HE):Prop where
 at_:∀p∈L,h.get p.i=some p.o/\p.i.nat<h.next.nat
 own:∀p∈L,p.w=true->p.i∈F\/h0.next.nat<=p.i.nat
 dist:L.Pairwise fun a b=>a.i≠b.i
 fr:Fr F h0 h
inductive iT (i:Id) (o o':AO):List HE->List HE->Prop where
 |here (L:List HE):iT i o o' (⟨i,o,true⟩::L) (⟨i,o',true⟩::L)
 |there (e:HE) {L L':List HE} (h:iT i o o' L L'):iT i o o' (e::L) (e::L')
theorem iT.mem{i:Id}{o o':AO}{L L':List HE}(u:iT i o o' L L'):(⟨i,o,true⟩:HE)∈L:=by
 induction u with
 |here L=>exact .head _
 |there e h ih=>exact .tail _ ih
theorem iT.ids{i:Id}{o o':AO}{L L':List HE}(u:iT i o o' L L'):L'.map (·.i)=L.map (·.i):=by
 induction u with
 |here L=>rfl
 |there e h ih=>simp only[aju,ih]
theorem iT.back{i:Id}{o o':AO}{L L':List HE}(u:iT i o o' L L')(hd:L.Pairwise fun a b=>a.i≠b.i):∀p∈L',p=⟨i,o',true⟩\/(p∈L/\p.i≠i):=by
 induction u with
 |here L=>
  intro p hp
  rcases adf.1 hp with rfl|hp
  ·exact .inl rfl
  ·exact .inr ⟨.tail _ hp,((akI.1 hd).1 p hp).symm⟩
 |there e h ih=>
  intro p hp
  rcases adf.1 hp with rfl|hp
  ·exact .inr ⟨.head _,(akI.1 hd).1 _ h.mem⟩
  ·rcases ih (akI.1 hd).2 p hp with e1|⟨e1,e2⟩
   ·exact .inl e1
   ·exact .inr ⟨.tail _ e1,e2⟩
theorem iT.app{i:Id}{o o':AO}{L L':List HE}(u:iT i o o' L L'):∀A:List HE,iT i o o' (A++L) (A++L')
 |[]=>u
 |a::A=> .there a (u.app A)
section
variable{F:List Id}{h0 h:AH}{L:List HE}
theorem Hb.nil(F:List Id)(h:AH):Hb F h h [] where
 at_:=fun _ h=>by cases h
 own:=fun _ h=>by cases h
 dist:=List.Pairwise.nil
 fr:=Fr.refl _ _
theorem Hb.get(H:Hb F h0 h L){i:Id}{o:AO}{w:Bool}(hk:(⟨i,o,w⟩:HE)∈L):h.get i=some o:=(H.at_ _ hk).1
theorem Hb.lt(H:Hb F h0 h L){i:Id}{o:AO}{w:Bool}(hk:(⟨i,o,w⟩:HE)∈L):i.nat<h.next.nat:=(H.at_ _ hk).2
theorem Hb.perm{L':List HE}(H:Hb F h0 h L)(hp:L.Perm L'):Hb F h0 h L' where
 at_:=fun p h=>H.at_ p (hp.mem_iff.2 h)
 own:=fun p h=>H.own p (hp.mem_iff.2 h)
 dist:=hp.pairwise H.dist (fun h=>h.symm)
 fr:=H.fr
theorem Hb.front{A X R:List HE}(H:Hb F h0 h (A++(X++R))):Hb F h0 h (X++(A++R)):=H.perm (by
 rw[<-ab7,<-ab7];exact ak5 _ akO)
theorem Hb.sink{e:HE}{X R:List HE}(H:Hb F h0 h (e::(X++R))):Hb F h0 h (X++(e::R)):=H.perm akE.symm
theorem Hb.new(H:Hb F h0 h L)(o:AO):Hb F h0 (h.alloc o) (⟨h.next,o,true⟩::L) where
 at_:=fun p hp=>by
  rcases adf.1 hp with rfl|hp
  ·exact⟨by rw[AH.au,if_pos rfl],by simp[AH.bn,Id.dz]⟩
  ·obtain⟨a,b⟩:=H.at_ p hp
   exact⟨by rw[AH.au,if_neg (by intro e;rw[e]at b;omega)];exact a,by simp[AH.bn,Id.dz];omega⟩
 own:=fun p hp hw=>by
  rcases adf.1 hp with rfl|hp
  ·exact .inr H.fr.next
  ·exact H.own p hp hw
 dist:=akI.2 ⟨fun b hb=>by
  have:=(H.at_ b hb).2
  intro e;rw[<-e]at this;exact absurd this (akx _),H.dist⟩
 fr:=H.fr.step (Fr.alloc h o) (fun q hq=>by cases hq)
theorem Hb.set(H:Hb F h0 h L){i:Id}{o o':AO}{L':List HE}(u:iT i o o' L L'):Hb F h0 (h.set i o') L' where
 at_:=fun p hp=>by
  rcases u.back H.dist p hp with rfl|⟨h1,h2⟩
  ·exact⟨by rw[AH.ak,if_pos rfl],H.lt u.mem⟩
  ·obtain⟨a,b⟩:=H.at_ p h1
   exact⟨by rw[AH.ak,if_neg h2];exact a,b⟩
 own:=fun p hp hw=>by
  rcases u.back H.dist p hp with rfl|⟨h1,h2⟩
  ·exact H.own ⟨i,o,true⟩ u.mem rfl
  ·exact H.own p h1 hw
 dist:=by
  have e:∀l:List HE,(l.Pairwise fun a b=>a.i≠b.i) ↔ (l.map (·.i)).Pairwise (· ≠ ·):=fun l=>akL.symm
  rw[e,u.ids,<-e];exact H.dist
 fr:=H.fr.step (Fr.set h i o') (fun q hq=>by
  obtain rfl:=ajw.1 hq
  exact H.own ⟨q,o,true⟩ u.mem rfl)
theorem Hb.keep{G:List Id}{h':AH}(H:Hb F h0 h L)(k:Fr G h h')(hg:∀q∈G,q∈F\/h0.next.nat<=q.nat)(hl:∀p∈L,p.i ∉ G):Hb F h0 h' L where
 at_:=fun p hp=>by
  obtain⟨a,b⟩:=H.at_ p hp
  exact⟨k.keep _ _ a b (hl p hp),ajF b k.next⟩
 own:=H.own
 dist:=H.dist
 fr:=H.fr.step k hg
theorem Hb.sD{h':AH}(H:Hb F h0 h L)(k:Fr [] h h'):Hb F h0 h' L:=H.keep k (fun q hq=>by cases hq) (fun p hp h=>by cases h)
theorem Hb.drop{A:List HE}(H:Hb F h0 h (A++L)):Hb F h0 h L:=⟨fun p hp=>H.at_ p (acA _ hp),fun p hp=>H.own p (acA _ hp),(akS.1 H.dist).2.1,H.fr⟩
theorem Hb.tail{e:HE}(H:Hb F h0 h (e::L)):Hb F h0 h L:=Hb.drop (A:=[e]) H
variable{α:Type}{P:Program}{k kp:AV->AH->Option α}{Q:Option α->Prop}
theorem Hb.ld(H:Hb F h0 h L){i:Id}{cs:List AV}{T t:TypeId}{w:Bool}{off:Nat}{v:AV}(hk:(⟨i,.cells cs T,w⟩:HE)∈L)(ha:Ez P t=some false)(hn:sizeT P t=some 1)(hv:cs[off]?=some v) :
  fF h (Ay P t (.ptr i off) h)=some (.ret v,h):=Bj (n:=1) (H.get hk) ha hn hv
theorem Hb.mJ(H:Hb F h0 h L)(n:Nat){l:List AV}{i:Id}{cs:List AV}{T t:TypeId}{w:Bool}{off:Nat}(hk:(⟨i,.cells cs T,w⟩:HE)∈L)(ha:Ez P t=some true)(hn:sizeT P t=some n)(hv:off+n<=cs.length)(hl:(cs.drop off).take n=l) :
  fF h (Ay P t (.ptr i off) h)=some (.ret (.agg l),h):=hl▸Dx (n:=n) (H.get hk) ha hn hv
theorem Hb.st(H:Hb F h0 h L)(n:Nat){cs':List AV}{i:Id}{cs:List AV}{T t:TypeId}{off:Nat}{v:AV}{L':List HE}(u:iT i (.cells cs T) (.cells cs' T) L L')(hn:sizeT P t=some n)(hv:v.cells.length=n)(ho:off+n<=cs.length)(hs:v.cells.all AV.scalar=true)
  (hc:setCells cs off v.cells=cs') (hy:∀h',Hb F h0 h' L'->Q (k Aj h')):Q (fq k kp (iM (Ce P t (.ptr i off) v h))):=by
 subst hc
 exact Aa (EC (n:=n) (H.get u.mem) hn hv ho hs) (hy _ (H.set u))
theorem Hb.st1(H:Hb F h0 h L){cs':List AV}{i:Id}{cs:List AV}{T t:TypeId}{off:Nat}{v:AV}{L':List HE}(u:iT i (.cells cs T) (.cells cs' T) L L')(hn:sizeT P t=some 1)(hv:v.cells=[v])(hs:v.scalar=true)(ho:off+1<=cs.length)
  (hc:cs.set off v=cs') (hy:∀h',Hb F h0 h' L'->Q (k Aj h')):Q (fq k kp (iM (Ce P t (.ptr i off) v h))):=
 H.st 1 u hn (by rw[hv];rfl) ho (by rw[hv];simp[hs]) (by rw[hv];exact hc) hy
theorem Hb.al(H:Hb F h0 h L)(cs:List AV){T:TypeId}{z:AV}(hz:BL P T=some z)(hc:z.cells=cs)(hs:cs.all AV.scalar=true)(hy:∀i h',Hb F h0 h' (⟨i,.cells cs T,true⟩::L)->Q (k (.ptr i 0) h')):Q (fq k kp (O0 P T h)):=
 Aa (Cb hz hc hs) (hy _ _ (H.new _))
theorem Hb.bx(H:Hb F h0 h L)(cs:List AV){T:TypeId}{v:AV}(hc:v.cells=cs)(hs:cs.all AV.scalar=true)(hy:∀i h',Hb F h0 h' (⟨i,.cells cs T,true⟩::L)->Q (k (.ptr i 0) h')):Q (fq k kp (CS (La T v h))):=
 Aa (Dq hc hs) (hy _ _ (H.new _))
end
def eY(l:AV)(xs:List AV)(G:List HE):Prop:=(l= .aj/\xs=[]/\G=[])\/(∃g,l= .fC xs (.own g xs.length)/\xs≠[]/\G=[⟨g,.fM xs.length,true⟩])\/∃c,l= .fC xs c/\(c= .full\/c= .lit)/\G=[]
theorem eY.nil:eY .aj [] []:= .inl ⟨rfl,rfl,rfl⟩
theorem eY.lQ{l:AV}{xs:List AV}{G:List HE}(h:eY l xs G):(l= .aj/\xs=[])\/∃c,l= .fC xs c:=by
 rcases h with⟨a,b,_⟩|⟨g,a,_⟩|⟨c,a,_⟩
 ·exact .inl ⟨a,b⟩
 ·exact .inr ⟨_,a⟩
 ·exact .inr ⟨_,a⟩
theorem eY.cells{l:AV}{xs:List AV}{G:List HE}(h:eY l xs G):l.cells=[l]:=by
 rcases h.lQ with⟨rfl,_⟩|⟨_,rfl⟩<;>rfl
theorem eY.scalar{l:AV}{xs:List AV}{G:List HE}(h:eY l xs G):l.scalar=true:=by
 rcases h.lQ with⟨rfl,_⟩|⟨_,rfl⟩<;>rfl
def eX(n:Nat)(T:TypeId)(l:AV)(xs:List AV)(G:List HE):Prop:=(l= .aj/\xs=[]/\G=[])\/∃r,l= .hsl r 0 xs.length (.room n)/\xs≠[]/\G=[⟨r,.cells (flat xs) T,true⟩]
theorem eX.nil{n:Nat}{T:TypeId}:eX n T .aj [] []:= .inl ⟨rfl,rfl,rfl⟩
theorem eX.scalar{n:Nat}{T:TypeId}{l:AV}{xs:List AV}{G:List HE}(h:eX n T l xs G):l.scalar=true:=by
 rcases h with⟨rfl,_⟩|⟨_,rfl,_⟩<;>rfl
theorem eX.cells{n:Nat}{T:TypeId}{l:AV}{xs:List AV}{G:List HE}(h:eX n T l xs G):l.cells=[l]:=by
 rcases h with⟨rfl,_⟩|⟨_,rfl,_⟩<;>rfl
theorem V7(xs ys:List AV):flat (xs++ys)=flat xs++flat ys:=by simp[flat]
theorem RZ{n:Nat}:∀{xs:List AV},(∀x∈xs,x.cells.length=n)->(flat xs).length=xs.length*n
 |[],_=>by simp[flat]
 |x::r,h=>by
  rw[show flat (x::r)=x.cells++flat r by simp[flat],abO,RZ fun y hy=>h y (.tail _ hy),h x (.head _),ajz,Nat.succ_mul,Nat.add_comm]
section
variable{F:List Id}{h0 h:AH}{R G:List HE}{P:Program}{types:Array TypeId}{t tx elem:TypeId}{d:TypeDesc}{l x z:AV}{xs ys:List AV}{n:Nat}
theorem Hb.app(H:Hb F h0 h (G++R))(hl:eY l xs G)(ht0:types[0]?=some t)(ht1:types[1]?=some tx)(ht:P.underlying t=some (.slice elem))(htx:P.underlying tx=some d)(hd:∀k,d≠ .int k)
  (hx:CQ P elem x h=some ys) (hn:sizeT P elem=some n) (hz:BL P elem=some z) (hn0:n≠0) (hzn:z.cells.length=n) (hzs:z.cells.all AV.scalar=true) (hy:ys≠[]) (vL:Ba n ys=true) (hhx:Ba n xs=true)
  (hb:(xs.length+ys.length)*P.bytesOf elem<=140737488355328) (hb2:xs.length+ys.length<=140737488355328) :
  ∃l' h' G',CS (AX P false types l x h)=some (.ret l',h')/\eY l' (xs++ys) G'/\Hb F h0 h' (G'++R)/\xs++ys≠[]:=by
 have hyl:ys.length≠0:=fun e=>hy (abf e)
 have hne:xs++ys≠[]:=by simp[hy]
 rcases hl with⟨rfl,rfl,rfl⟩|⟨g,rfl,hxs,rfl⟩|⟨c,rfl,hc,rfl⟩
 ·have e:AX P false types .aj x h=some (.fC ys (.own h.next ys.length),h.alloc (.fM ys.length)):=by
   unfold AX
   simp only[ht0,ht1,ht,htx]
   cases d<;>first|exact absurd rfl (hd _)|skip
   all_goals (simp only[hx,hn,hz];simp_all;try omega)
  exact⟨.fC ys (.own h.next ys.length),h.alloc (.fM ys.length),[⟨h.next,.fM ys.length,true⟩],by rw[e];rfl,.inr (.inl ⟨h.next,by simp,hne,by simp⟩),H.new _,hne⟩
 ·have hxl:xs.length≠0:=fun e=>hxs (abf e)
  have hg:=H.get (.head _)
  have e:AX P false types (.fC xs (.own g xs.length)) x h=some (.fC (xs++ys) (.own g (xs.length+ys.length)),h.set g (.fM (xs.length+ys.length))):=by
   unfold AX
   simp only[ht0,ht1,ht,htx]
   cases d<;>first|exact absurd rfl (hd _)|skip
   all_goals (simp only[hx,hn,hz];simp_all;try omega)
  exact⟨.fC (xs++ys) (.own g (xs.length+ys.length)),h.set g (.fM (xs.length+ys.length)),[⟨g,.fM (xs.length+ys.length),true⟩],by rw[e];rfl,.inr (.inl ⟨g,by simp,hne,by simp⟩),H.set (.here _),hne⟩
 ·have e:AX P false types (.fC xs c) x h=some (.fC (xs++ys) (.own h.next (xs.length+ys.length)),h.alloc (.fM (xs.length+ys.length))):=by
   unfold AX
   simp only[ht0,ht1,ht,htx]
   rcases hc with rfl|rfl
   all_goals
    cases d<;>first|exact absurd rfl (hd _)|skip
    all_goals (simp only[hx,hn,hz];simp_all;try omega)
  exact⟨.fC (xs++ys) (.own h.next (xs.length+ys.length)),h.alloc (.fM (xs.length+ys.length)),[⟨h.next,.fM (xs.length+ys.length),true⟩],by rw[e];rfl,.inr (.inl ⟨h.next,by simp,hne,by simp⟩),H.new _,hne⟩
theorem Hb.aiu(H:Hb F h0 h (G++R))(hl:eX n elem l xs G)(ht0:types[0]?=some t)(ht1:types[1]?=some tx)(ht:P.underlying t=some (.slice elem))(htx:P.underlying tx=some d)(hd:∀k,d≠ .int k)
  (hx:CQ P elem x h=some ys) (hn:sizeT P elem=some n) (hz:BL P elem=some z) (hn0:n≠0) (hzn:z.cells.length=n) (hzs:z.cells.all AV.scalar=true) (hy:ys≠[]) (vL:Ba n ys=true) (hhx:∀x∈xs,x.cells.length=n)
  (hb:(xs.length+ys.length)*P.bytesOf elem<=140737488355328) (hb2:xs.length+ys.length<=140737488355328) :
  ∃l' h' G',CS (AX P true types l x h)=some (.ret l',h')/\eX n elem l' (xs++ys) G'/\Hb F h0 h' (G'++R)/\xs++ys≠[]:=by
 have hyl:ys.length≠0:=fun e=>hy (abf e)
 have hne:xs++ys≠[]:=by simp[hy]
 rcases hl with⟨rfl,rfl,rfl⟩|⟨r,rfl,hxs,rfl⟩
 ·have e:AX P true types .aj x h=some (.hsl h.next 0 ys.length (.room n),h.alloc (.cells (flat ys) elem)):=by
   unfold AX
   simp only[ht0,ht1,ht,htx]
   cases d<;>first|exact absurd rfl (hd _)|skip
   all_goals (simp only[hx,hn,hz];simp_all;try omega)
  exact⟨.hsl h.next 0 ys.length (.room n),h.alloc (.cells (flat ys) elem),[⟨h.next,.cells (flat ys) elem,true⟩],by rw[e];rfl,.inr ⟨h.next,by simp,hne,by simp⟩,H.new _,hne⟩
 ·have hxl:xs.length≠0:=fun e=>hxs (abf e)
  have hg:=H.get (.head _)
  have hfl:=RZ hhx
  have htk:(flat xs).take (xs.length*n)=flat xs:=ajQ (by omega)
  have e:AX P true types (.hsl r 0 xs.length (.room n)) x h=some (.hsl h.next 0 (xs.length+ys.length) (.room n),(h.set r .dead).alloc (.cells (flat xs++flat ys) elem)):=by
   unfold AX
   simp only[ht0,ht1,ht,htx]
   have c1:¬(n=0\/Ba n ys=false\/z.cells.length≠n\/z.cells.all AV.scalar=false):=by
    rintro(h|h|h|h)
    ·exact hn0 h
    ·rw[vL]at h;cases h
    ·exact h hzn
    ·rw[hzs]at h;cases h
   cases d<;>first|exact absurd rfl (hd _)|skip
   all_goals
    simp only[hx,hn,hz,hg]
    rw[if_neg c1,if_neg hyl,if_neg (by omega),if_pos (by refine⟨by omega,?_⟩;simp),htk]
  refine⟨_,_,[⟨h.next,.cells (flat xs++flat ys) elem,true⟩],by rw[e];rfl,.inr ⟨h.next,by simp,hne,by rw[V7]⟩,?_,hne⟩
  have H1:=(H.set (.here R) (o':= .dead)).tail.new (.cells (flat xs++flat ys) elem)
  rw[AH.fP]at H1
  exact H1
end
end Go.Sk
