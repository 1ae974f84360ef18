/- Signatures: the functions of the package sig, run. -/
import Derived.Test.YtfpmanknbjakfaaGreatDoorSkMc
import Derived.Test.YtfpmanknbjakfaaGreatDoorProg
import Derived.KernelRfl
set_option linter.unusedVariables false
set_option linter.unusedSimpArgs false
set_option linter.unusedSectionVars false
set_option maxRecDepth 10000
set_option maxHeartbeats 16000000
namespace Go.Proofs.Nt
open Go.Sk
abbrev ZU:=Nat->Array Oper->gB->Option (Bl × gB)
abbrev AA:=oF->List AV->AH->Option (Aq × AH)
def eO:FuncId->Nat->Bool:=fun f n=>(Nat.beq f 87&&Nat.beq n 13)||(Nat.beq f 87&&Nat.beq n 35)||(Nat.beq f 87&&Nat.beq n 100)||(Nat.beq f 69&&Nat.beq n 44)||(Nat.beq f 89&&Nat.beq n 47)||Nat.beq f 82
def fO:Nat->Option (List Nat):=fun id=>match Nat.beq id 999999 with|true=>some []|false=>none
noncomputable abbrev B(tab:Nat->Option (List Nat))(call:AA)(eu:ZU)(n:Nat)(f:FuncId)(fn:Func)(args:List AV)(h:AH):=YR Tryz.prog eO call eu tab n f fn (codeOf fn) args h
noncomputable abbrev LB(tab:Nat->Option (List Nat))(call:AA)(eu:ZU)(n:Nat)(f:FuncId)(fn:Func)(i:Nat):CF (Aq × AH):=KD ⟨Tryz.prog,eO,call⟩ eu f tab none n (af5 (codeOf fn) i)
def fK(x:AV)(xs:List AV):Prop:=(x= .aj/\xs=[])\/∃c,x= .fC xs c
theorem Fx{X:Cx}{mu:Bool}{t e:TypeId}{x:AV}{xs:List AV}{h:AH}(ht:X.P.underlying t=some (.slice e))(hx:fK x xs):Bh X mu .len #[t] [x] h=some (.ret (.int .i64 xs.length),h):=by
 have:(#[t]:Array TypeId)[0]?=some t:=rfl
 rcases hx with⟨rfl,rfl⟩|⟨c,rfl⟩<;>simp[Bh,vI,ht,fF]
theorem Ht{P:Program}{t e:TypeId}{x v:AV}{xs:List AV}{h:AH}{k:IntKind}{y:Int}{i n:Nat}(ht:P.underlying t=some (.slice e))(hn:sizeT P e=some n)(hx:fK x xs)(hy:y=i)(hv:xs[i]?=some v)(hc:v.cells.length=n) :
  fF h (BX P t x (.int k y))=some (.ret (.ref v),h):=by
 have hlt:i<xs.length:=(abo.1 hv).1
 rcases hx with⟨rfl,rfl⟩|⟨c,rfl⟩
 ·simp at hlt
 ·subst hy
  have h2:xs[i].cells.length=n:=by rw[<-hc,(abo.1 hv).2]
  have h3:xs[i]=v:=(abo.1 hv).2
  simp[BX,ht,hn,hlt,h2,fF];exact h3
abbrev Ag:=List UInt8 × Int
def jc(a:Ag):AV:= .agg [.str a.1,.int .i64 a.2]
abbrev AR(x:AV)(s:List Ag):Prop:=fK x (s.map jc)
theorem BS{i:Nat}(h:i<9223372036854775807):IntKind.i64.wrap ((i:Int)+1)=((i+1:Nat):Int):=by
 simp[IntKind.wrap,IntKind.bits,IntKind.signed]
 omega
theorem Ab{P:Program}{fn:Func}{x:Bl}{tm:List AV}{h:AH}{l:List AV}(hx:x= .ret\/x= .normal)(hr:Cc P tm h fn.results.toList=some l):Er P fn (some (x,⟨tm,[],h⟩))=some (.ret (Eo l),h):=by
 rcases hx with rfl|rfl<;>simp[Er,CJ,hr]
theorem CU{P:Program}{fn:Func}{x:Bl}{tm:List AV}{h:AH}{l:List AV}{y:Option (Aq × AH)}(hx:x= .ret\/x= .normal)(hr:Cc P tm h fn.results.toList=some l)(hy:some (.ret (Eo l),h)=y):iH P fn x ⟨tm,[],h⟩=y:=by
 unfold iH;rw[Ab hx hr];exact hy
theorem NR{α:Type}{l:List α}{i:Nat}{x:Int}(hx:x=i):l[x.toNat]?=l[i]?:=by rw[hx];rfl
theorem Lv{P:Program}{T:TypeId}{n:Nat}{h:AH}{cs0 cs:List AV}{v:AV}(hn:sizeT P T=some n)(hcs:v.cells=cs)(hc:cs.length=n)(h0:cs0.length=n)(hs:cs.all AV.scalar=true) :
  iM (Ce P T (.ptr h.next 0) v (h.alloc (.cells cs0 T)))=some (.ret Aj,(h.alloc (.cells cs0 T)).set h.next (.cells cs T)):=by
 subst hcs
 rw[EC (n:=n) (cs:=cs0) (T:=T) (by rw[AH.au,if_pos rfl]) hn hc (by omega) hs]
 have:setCells cs0 0 v.cells=v.cells:=by
  have key:∀(vs cs pre:List AV),vs.length=cs.length->setCells (pre++cs) pre.length vs=pre++vs:=by
   intro vs
   induction vs with
   |nil=>intro cs pre h;have:cs=[]:=abf h.symm;subst this;rfl
   |cons a r ih=>
    intro cs pre h
    cases cs with
    |nil=>simp at h
    |cons b cs=>
     show setCells ((pre++b::cs).set pre.length a) (pre.length+1) r=_
     have e:(pre++b::cs).set pre.length a=(pre++[a])++cs:=by simp
     rw[e,show pre.length+1=(pre++[a]).length by simp,ih cs (pre++[a]) (by simpa using h)]
     simp
  simpa using key v.cells cs0 [] (by omega)
 rw[this];rfl
theorem Jd(h:AH)(cs0 cs:List AV)(T:TypeId) :
  ((h.alloc (.cells cs0 T)).set h.next (.cells cs T)).get h.next=some (.cells cs T)/\h.next.nat+1=((h.alloc (.cells cs0 T)).set h.next (.cells cs T)).next.nat/\
  ∀q o,h.get q=some o->q.nat<h.next.nat->((h.alloc (.cells cs0 T)).set h.next (.cells cs T)).get q=some o:=by
 refine⟨by rw[AH.ak,if_pos rfl],by rw[AH.fP,AH.bn,Id.dz],fun q o hq hlt=>?_⟩
 have:q≠h.next:=by rintro rfl;omega
 rw[AH.ak,if_neg this,AH.au,if_neg this];exact hq
def AL(s:List Ag)(a:Int):Int:=
 if a<0 then 0 else match s[a.toNat]? with
  |none=>0
  |some g=>if g.2<0 then 0 else IntKind.i64.wrap (g.2+1)
theorem b31(call eu n)(x:AV)(s:List Ag)(a:Int)(h:AH)(hx:AR x s):B fO call eu n 67 Tryz.f67 [x,.int .i64 a] h=some (.ret (.int .i64 (AL s a)),h):=by
 have u:Tryz.prog.underlying 22=some (.slice 85):=by kernel_rfl
 have hlen:=fun h=>Fx (X:=⟨Tryz.prog,eO,call⟩) (mu:=false) (h:=h) u hx
 rw[aaq]at hlen
 conv=>lhs;whnf
 split
 ·rename_i e1
  conv=>lhs;whnf
  refine CU (.inl rfl) rfl ?_
  have:a<0:=by simpa using e1
  unfold AL;rw[if_pos this];rfl
 rename_i e1
 have ha:¬a<0:=by simpa using e1
 conv=>lhs;whnf
 refine AQ (hlen _) ?_
 conv=>lhs;whnf
 split
 ·rename_i e2
  conv=>lhs;whnf
  refine CU (.inl rfl) rfl ?_
  have:s[a.toNat]?=none:=acD (by simp at e2;omega)
  unfold AL;rw[if_neg ha,this];rfl
 rename_i e2
 have hlt:a.toNat<s.length:=by simp at e2;omega
 have hat:a=a.toNat:=by omega
 have hg:(s.map jc)[a.toNat]?=some (jc s[a.toNat]):=by rw[abG,aaj hlt];rfl
 have hidx:=fun h=>Ht (P:=Tryz.prog) (t:=22) (e:=85) (n:=2) (h:=h) (k:= .i64) u (by kernel_rfl) hx hat hg rfl
 have hp:AL s a=if s[a.toNat].2<0 then 0 else IntKind.i64.wrap (s[a.toNat].2+1):=by
  unfold AL;rw[if_neg ha,aaj hlt]
 generalize s[a.toNat]=g at hidx hp
 obtain⟨nm,ar⟩:=g
 conv=>lhs;whnf
 refine AQ (hidx _) ?_
 conv=>lhs;whnf
 split
 ·rename_i e3
  conv=>lhs;whnf
  refine CU (.inl rfl) rfl ?_
  rw[hp,if_pos (by simpa using e3)];rfl
 ·rename_i e3
  conv=>lhs;whnf
  refine AQ (hidx _) ?_
  conv=>lhs;whnf
  refine CU (.inl rfl) rfl ?_
  rw[hp,if_neg (by simpa using e3)];rfl
def Py(c:Int):Bool:=decide (c>=97)&&decide (c<=122)
def Pv(c:Int):Bool:=decide (c>=65)&&decide (c<=90)
def Mq(c:Int):Bool:=Py c||Pv c||(decide (c>=48)&&decide (c<=57))||(c==95)
def mR(b:UInt8):Bool:=Mq b.toNat
def Df(s:List UInt8)(lo hi:Int):Bool:=match s with|[]=>false|c::r=>decide (s.length<=16)&&decide ((c.toNat:Int)>=lo)&&decide ((c.toNat:Int)<=hi)&&r.all mR
theorem l36(call eu n)(s:List UInt8)(hs:s.length<=16){h:AH}{K:KC (Aq × AH)}{y:Option (Aq × AH)}{b:Bool}
  (hK:∀{g1 g2 g3 g4 g5 g6 g8 g9 aA aB aC aD aE aF aG aH aI aJ aK aL aM aN aO aP aQ aR aS aT aU aV aW aX aY aZ bA bB bC bD bE bF bG bH bI bJ bK bL bM bN bO bP bQ bR bS bT bU bV bW bX bY bZ cD cE:AV},K (.exit 0) ⟨(.str s::g1::g2::g3::g4::g5::g6:: .bool b::g8::g9::aA::aB::aC::aD::aE::aF::aG::aH::aI::aJ::aK::aL::aM::aN::aO::aP::aQ::aR::aS::aT::aU::aV::aW::aX::aY::aZ::bA::bB::bC::bD::bE::bF::bG::bH::bI::bJ::bK::bL::bM::bN::bO::bP::bQ::bR::bS::bT::bU::bV::bW::bX::bY::bZ::cD::cE::[]),[],h⟩=y) :
  ∀(m i:Nat) {x:Int} {g1 g2 g3 g4 g5 g6 g9 aA aB aC aD aE aF aG aH aI aJ aK aL aM aN aO aP aQ aR aS aT aU aV aW aX aY aZ bA bB bC bD bE bF bG bH bI bJ bK bL bM bN bO bP bQ bR bS bT bU bV bW bX bY bZ cD cE:AV},x=i->i<=s.length->s.length - i<m->b=(s.drop i).all mR->
  DV (LB KW call eu n 99 Tryz.f99 0) m ⟨(.str s::g1::g2::g3::g4::g5::g6:: .bool true:: .int .i64 x::g9::aA::aB::aC::aD::aE::aF::aG::aH::aI::aJ::aK::aL::aM::aN::aO::aP::aQ::aR::aS::aT::aU::aV::aW::aX::aY::aZ::bA::bB::bC::bD::bE::bF::bG::bH::bI::bJ::bK::bL::bM::bN::bO::bP::bQ::bR::bS::bT::bU::bV::bW::bX::bY::bZ::cD::cE::[]),[],h⟩ K=y:=by
 intro m
 induction m with
 |zero=>intros;omega
 |succ m ih=>
  intro i x g1 g2 g3 g4 g5 g6 g9 aA aB aC aD aE aF aG aH aI aJ aK aL aM aN aO aP aQ aR aS aT aU aV aW aX aY aZ bA bB bC bD bE bF bG bH bI bJ bK bL bM bN bO bP bQ bR bS bT bU bV bW bX bY bZ cD cE hx hi hm hb
  rw[Bo]
  conv=>lhs;whnf
  split
  ·rename_i hd
   have hlt:i<s.length:=by simp at hd;omega
   have h0:decide (0<=x)=true:=by simp;omega
   have hdrop:s.drop i=s[i]::s.drop (i+1):=adS hlt
   have w1:IntKind.i64.wrap (x+1)=((i+1:Nat):Int):=by rw[hx];exact BS (by omega)
   conv=>lhs;whnf
   rw[h0]
   conv=>lhs;whnf
   rw[NR hx,aaj hlt]
   rw[hdrop,adP]at hb
   generalize hc:s[i]=c at hb
   have hb1:mR c=true->b=(s.drop (i+1)).all mR:=fun h=>by rw[hb,h];rfl
   have hb0:mR c=false->b=false:=fun h=>by rw[hb,h];rfl
   clear hb hc hdrop
   repeat' ((conv=>lhs;whnf);split)
   all_goals (conv=>lhs;whnf)
   all_goals first
    |(refine ih (i+1) w1 (by omega) (by omega) (hb1 ?_);clear ih hK hb1 hb0 hm;simp_all [mR,Mq,Py,Pv];done)
    |(have h0:=hb0 (by clear ih hK hb1 hm;simp_all [mR,Mq,Py,Pv]<;>omega);subst h0;exact hK)
  ·rename_i hd
   have hlt:¬i<s.length:=by simp at hd;omega
   have:b=true:=by rw[hb,ajJ (by omega)];rfl
   subst this;exact hK
theorem adG(call eu n){v0:AV}{h:AH}{K:KC (Aq × AH)}{y:Option (Aq × AH)}
  (hK:∀{g1 g2 g3 g4 g5 g6 g8 g9 aA aB aC aD aE aF aG aH aI aJ aK aL aM aN aO aP aQ aR aS aT aU aV aW aX aY aZ bA bB bC bD bE bF bG bH bI bJ bK bL bM bN bO bP bQ bR bS bT bU bV bW bX bY bZ cD cE:AV},K (.exit 0) ⟨(v0::g1::g2::g3::g4::g5::g6:: .bool false::g8::g9::aA::aB::aC::aD::aE::aF::aG::aH::aI::aJ::aK::aL::aM::aN::aO::aP::aQ::aR::aS::aT::aU::aV::aW::aX::aY::aZ::bA::bB::bC::bD::bE::bF::bG::bH::bI::bJ::bK::bL::bM::bN::bO::bP::bQ::bR::bS::bT::bU::bV::bW::bX::bY::bZ::cD::cE::[]),[],h⟩=y) :
  ∀(m:Nat) {g1 g2 g3 g4 g5 g6 g8 g9 aA aB aC aD aE aF aG aH aI aJ aK aL aM aN aO aP aQ aR aS aT aU aV aW aX aY aZ bA bB bC bD bE bF bG bH bI bJ bK bL bM bN bO bP bQ bR bS bT bU bV bW bX bY bZ cD cE:AV},0<m->DV (LB KW call eu n 99 Tryz.f99 0) m ⟨(v0::g1::g2::g3::g4::g5::g6:: .bool false::g8::g9::aA::aB::aC::aD::aE::aF::aG::aH::aI::aJ::aK::aL::aM::aN::aO::aP::aQ::aR::aS::aT::aU::aV::aW::aX::aY::aZ::bA::bB::bC::bD::bE::bF::bG::bH::bI::bJ::bK::bL::bM::bN::bO::bP::bQ::bR::bS::bT::bU::bV::bW::bX::bY::bZ::cD::cE::[]),[],h⟩ K=y:=by
 intro m
 intros
 obtain⟨m,rfl⟩:∃m',m=m'+1:=⟨m - 1,by omega⟩
 rw[Bo]
 conv=>lhs;whnf
 exact hK
theorem b36(call eu n)(s:List UInt8)(lo hi:Int)(h:AH)(hn:16<n):B KW call eu n 99 Tryz.f99 [.str s,.int .u8 lo,.int .u8 hi] h=some (.ret (.bool (Df s lo hi)),h):=by
 cases s with
 |nil=>
  conv=>lhs;whnf
  have:decide (((([]:List UInt8).length:Nat):Int)>=1)=false:=by simp
  rw[this]
  conv=>lhs;whnf
  refine adG call eu n ?_ n (by omega)
  intros
  conv=>lhs;whnf
  exact CU (.inl rfl) rfl rfl
 |cons c r=>
  have e0:decide ((((c::r).length:Nat):Int)>=1)=true:=by simp;omega
  have e1:(c::r)[(0:Int).toNat]?=some c:=rfl
  have fin:∀b,b=Df (c::r) lo hi->∀{g1 g2 g3 g4 g5 g8 g9 aA aB aC aD aE aF aG aH aI aJ aK aL aM aN aO aP aQ aR aS aT aU aV aW aX aY aZ bA bB bC bD bE bF bG bH bI bJ bK bL bM bN bO bP bQ bR bS bT bU bV bW bX bY bZ cD cE:AV},iH Tryz.prog Tryz.f99 .ret ⟨(.str (c::r)::g1::g2::g3::g4::g5:: .bool b:: .bool b::g8::g9::aA::aB::aC::aD::aE::aF::aG::aH::aI::aJ::aK::aL::aM::aN::aO::aP::aQ::aR::aS::aT::aU::aV::aW::aX::aY::aZ::bA::bB::bC::bD::bE::bF::bG::bH::bI::bJ::bK::bL::bM::bN::bO::bP::bQ::bR::bS::bT::bU::bV::bW::bX::bY::bZ::cD::cE::[]),[],h⟩=some (.ret (.bool (Df (c::r) lo hi)),h):=by
   intro b hb
   intros
   exact CU (.inl rfl) rfl (by rw[hb];rfl)
  conv=>lhs;whnf
  rw[e0]
  conv=>lhs;whnf
  split
  ·rename_i e2
   conv=>lhs;whnf
   split
   ·rename_i e3
    conv=>lhs;whnf
    cases e4:decide ((c.toNat:Int)<=hi)
    ·refine adG call eu n ?_ n (by omega)
     intros
     conv=>lhs;whnf
     exact fin _ (by simp only[Df,e4,akW,akh])
    ·refine l36 call eu n (c::r) (by simp at e2 ⊢;omega) (b:=r.all mR) ?_ n 1 rfl (by simp) (by simp at e2 ⊢;omega) rfl
     intros
     conv=>lhs;whnf
     exact fin _ (by simp only[Df,show decide ((c::r).length<=16)=true by simp at e2 ⊢;omega,e3,e4,akT])
   ·rename_i e3
    conv=>lhs;whnf
    refine adG call eu n ?_ n (by omega)
    intros
    conv=>lhs;whnf
    exact fin _ (by simp only[Df,e3,akW,akh])
  ·rename_i e2
   conv=>lhs;whnf
   refine adG call eu n ?_ n (by omega)
   intros
   conv=>lhs;whnf
   exact fin _ (by simp only[Df,show decide ((c::r).length<=16)=false by simp at e2 ⊢;omega,akh])
def h36(call:AA):Prop:= ∀s lo hi h,call (.func 99) [.str s,.int .u8 lo,.int .u8 hi] h=some (.ret (.bool (Df s lo hi)),h)
def Kz(s:List UInt8):Bool:=Df s 65 90
theorem b28(call eu n)(s:List UInt8)(h:AH)(h36:h36 call):B KW call eu n 84 Tryz.f84 [.str s] h=some (.ret (.bool (Kz s)),h):=by
 refine AQ (h36 _ _ _ _) ?_
 conv=>lhs;whnf
 exact CU (.inl rfl) rfl rfl
def jP:List Ag->List UInt8->Nat->Int
 |[],_,_=> -1
 |a::r,nm,i=>if a.1==nm then(i:Int)else jP r nm (i+1)
theorem l29(call eu n)(x0:AV)(s:List Ag)(hx0:AR x0 s)(hs:s.length<=3000000000)(nm:List UInt8)(R:Int){Q:Option (Aq × AH)->Prop}{v0:AV}{K:KC (Aq × AH)}
  (hR:∀{h} {g0 g1 g2 g3 g5 g6 g7 g8 g9 aA aB aC aD aE aF aG aH aI aJ:AV},Q (K .ret ⟨(g0::g1::g2::g3:: .int .i64 R::g5::g6::g7::g8::g9::aA::aB::aC::aD::aE::aF::aG::aH::aI::aJ::[]),[],h⟩))
  (hK:R= -1->∀{h} {g0 g2 g3 g4 g5 g6 g7 g8 g9 aA aB aC aD aE aF aG aH aI aJ:AV},Q (K (.exit 0) ⟨(g0:: .str nm::g2::g3::g4::g5::g6::g7::g8::g9::aA::aB::aC::aD::aE::aF::aG::aH::aI::aJ::[]),[],h⟩)) :
  ∀(m i:Nat) {x:Int} {h:AH} {g2 g3 g4 g5 g6 aA aB aC aD aE aF aG aH aI aJ:AV},x=i->i<=s.length->s.length - i<m->R=jP (s.drop i) nm i->
  Q (DV (LB fO call eu n 85 Tryz.f85 0) m ⟨(v0:: .str nm::g2::g3::g4::g5::g6::x0:: .int .i64 s.length:: .int .i64 x::aA::aB::aC::aD::aE::aF::aG::aH::aI::aJ::[]),[],h⟩ K):=by
 have u:Tryz.prog.underlying 22=some (.slice 85):=by kernel_rfl
 intro m
 induction m with
 |zero=>intros;omega
 |succ m ih=>
  intro i x h g2 g3 g4 g5 g6 aA aB aC aD aE aF aG aH aI aJ hx hi hm hF
  rw[Bo]
  conv=>arg 1;whnf
  split
  ·rename_i hd
   have hlt:i<s.length:=by simp at hd;omega
   have hdrop:s.drop i=s[i]::s.drop (i+1):=adS hlt
   have hg:(s.map jc)[i]?=some (jc s[i]):=by rw[abG,aaj hlt];rfl
   have hidx:=fun h=>Ht (P:=Tryz.prog) (t:=22) (e:=85) (n:=2) (h:=h) (k:= .i64) u (by kernel_rfl) hx0 hx hg rfl
   rw[hdrop]at hF
   generalize s[i]=g at hidx hF
   obtain⟨gn,ga⟩:=g
   conv=>arg 1;whnf
   refine Aa (hidx _) ?_
   conv=>arg 1;whnf
   refine Aa (Cb (z:= .agg [.str [],.int .i64 0]) (cs:=[.str [],.int .i64 0]) (by kernel_rfl) rfl rfl) ?_
   conv=>arg 1;whnf
   have hst:=Lv (h:=h) (cs0:=[.str [],.int .i64 0]) (v:= .agg [.str gn,.int .i64 ga]) (cs:=[.str gn,.int .i64 ga]) (T:=85) (n:=2) (P:=Tryz.prog) (by kernel_rfl) rfl rfl rfl rfl
   refine Aa hst ?_
   obtain⟨hget,hnx,hkeep⟩:=Jd h [.str [],.int .i64 0] [.str gn,.int .i64 ga] 85
   generalize ((h.alloc (.cells [.str [],.int .i64 0] 85)).set h.next (.cells [.str gn,.int .i64 ga] 85))=h2 at hget hnx hkeep ⊢
   generalize h.next=p at hget ⊢
   have ld0:fF h2 (Ay Tryz.prog 9 (.ptr p 0) h2)=some (.ret (.str gn),h2):=Bj (n:=1) hget (by kernel_rfl) (by kernel_rfl) rfl
   conv=>arg 1;whnf
   refine Aa ld0 ?_
   conv=>arg 1;whnf
   cases e1:(gn==nm)
   ·conv=>arg 1;whnf
    refine ih (i+1) (by rw[hx];exact BS (by omega)) (by omega) (by omega) ?_
    rw[hF];simp only[jP,e1,ajI,if_false]
   ·conv=>arg 1;whnf
    have:R=x:=by rw[hF,hx];simp only[jP,e1,if_true]
    subst this
    exact hR
  ·rename_i hd
   have hlt:¬i<s.length:=by simp at hd;omega
   refine hK ?_
   rw[hF,ajJ (by omega)];rfl
theorem b29(call eu n)(x:AV)(s:List Ag)(hx:AR x s)(hs:s.length<=3000000000)(nm:List UInt8)(h:AH)(hn:s.length<n) :
  ∃h',B fO call eu n 85 Tryz.f85 [x,.str nm] h=some (.ret (.int .i64 (jP s nm 0)),h'):=by
 have u:Tryz.prog.underlying 22=some (.slice 85):=by kernel_rfl
 have hlen:=fun h=>Fx (X:=⟨Tryz.prog,eO,call⟩) (mu:=false) (h:=h) u hx
 rw[aaq]at hlen
 suffices hq:(fun r:Option (Aq × AH)=> ∃h',r=some (.ret (.int .i64 (jP s nm 0)),h')) (B fO call eu n 85 Tryz.f85 [x,.str nm] h)from hq
 generalize hQ:(fun r:Option (Aq × AH)=> ∃h',r=some (.ret (.int .i64 (jP s nm 0)),h'))=Q
 have hQ':∀h',Q (some (.ret (.int .i64 (jP s nm 0)),h')):=fun h'=>by rw[<-hQ];exact⟨h',rfl⟩
 conv=>arg 1;whnf
 refine Aa (hlen _) ?_
 conv=>arg 1;whnf
 refine l29 call eu n x s hx hs nm _ ?_ ?_ n 0 rfl (ajy _) (by omega) (by rw[aj6])
 ·intro h
  intros
  exact Ac (Ab (.inl rfl) rfl) (hQ' _)
 ·intro hR h
  intros
  conv=>arg 1;whnf
  refine Ac (Ab (.inl rfl) rfl) ?_
  have:=hQ' h
  rw[hR]at this
  exact this
def VD{α:Type}(dec:AV->Option α):List AV->Option (List α)
 |[]=>some []
 |v::r=>match dec v,VD dec r with|some a,some l=>some (a::l)|_,_=>none
def QA{α:Type}(dec:AV->Option α)(enc:α->AV):AV->Option (List α)
 | .aj=>some []
 | .fC xs _=>match VD dec xs with|some l=>if AV.jM xs (l.map enc)then some l else none|none=>none
 |_=>none
theorem Bn{α:Type}{dec:AV->Option α}{enc:α->AV}{x:AV}{l:List α}(h:QA dec enc x=some l):fK x (l.map enc):=by
 unfold QA at h
 split at h
 ·simp only[aai]at h;subst h;exact .inl ⟨rfl,rfl⟩
 ·split at h
  ·split at h
   ·rename_i hb
    simp only[aai]at h;subst h
    exact .inr ⟨_,by rw[AV.iY hb]⟩
   ·cases h
  ·cases h
 ·cases h
theorem QZ{α:Type}{dec:AV->Option α}{enc:α->AV}(hd:∀a,dec (enc a)=some a):∀l:List α,VD dec (l.map enc)=some l
 |[]=>rfl
 |a::l=>by simp only[aju,VD,hd,QZ hd l]
theorem Jw{α:Type}{enc:α->AV}(hw:∀a,Bc (enc a)=enc a):∀l:List α,CB (l.map enc)=l.map enc
 |[]=>rfl
 |a::l=>by simp only[aju,CB,hw,Jw hw l]
theorem JL{α:Type}{enc:α->AV}(hf:∀a,BN (enc a)=true):∀l:List α,BJ (l.map enc)=true
 |[]=>rfl
 |a::l=>by simp only[aju,BJ,hf,JL hf l,Bool.and_self]
theorem J7{α:Type}{dec:AV->Option α}{enc:α->AV}(hd:∀a,dec (enc a)=some a)(hw:∀a,Bc (enc a)=enc a){x:AV}{l:List α}(h:fK x (l.map enc)):QA dec enc (Bc x)=some l:=by
 rcases h with⟨rfl,h⟩|⟨c,rfl⟩
 ·have:l=[]:=by simpa using h
  subst this;rfl
 ·show QA dec enc (.fC (CB (l.map enc)) (IE c))=_
  simp only[Jw hw,QA,QZ hd,AV.iC,if_true]
theorem IK{α:Type}{enc:α->AV}(hf:∀a,BN (enc a)=true){x:AV}{l:List α}(h:fK x (l.map enc)):BN x=true:=by
 rcases h with⟨rfl,h⟩|⟨c,rfl⟩
 ·rfl
 ·exact JL hf l
def aee:AV->Option Ag
 | .agg [.str n,.int .i64 a]=>some (n,a)
 |_=>none
def Dn:AV->Option (List Ag):=QA aee jc
theorem C9{x:AV}{s:List Ag}(h:AR x s):Dn (Bc x)=some s:=J7 (dec:=aee) (enc:=jc) (fun _=>rfl) (fun _=>rfl) h
theorem CZ{x:AV}{s:List Ag}(h:AR x s):BN x=true:=IK (enc:=jc) (fun _=>rfl) h
def Fg(all:List Ag):List Ag->Nat->Int × Int
 |[],_=>(0,0)
 |a::r,i=>if Kz a.1=false then(12,i)else if jP (all.take i) a.1 0>=0 then(21,i)else if a.2<0\/a.2>6 then(22,i)else Fg all r (i+1)
def AP(s:List Ag):Int × Int:=if s.length=0 then(20,0)else if s.length>32 then(15,32)else Fg s s 0
def wD(call:AA):Prop:= ∀s h,call (.func 84) [.str s] h=some (.ret (.bool (Kz s)),h)
def vE(call:AA):Prop:= ∀x s nm h,AR x s->s.length<=3000000000->call (.func 85) [x,.str nm] h=some (.ret (.int .i64 (jP s nm 0)),h)
def Zy:Nat->Option (List Nat):=fun id=>match Nat.beq id 999999 with|true=>some []|false=>match Nat.beq id 10 with|true=>some [0,1,2,3,4,5,6,7]|false=>none
theorem ahj{P:Program}{t e:TypeId}{x:AV}{xs:List AV}{k:IntKind}{y:Int}{i n:Nat}{h:AH}(ht:P.underlying t=some (.slice e))(hn:sizeT P e=some n)(hx:fK x xs)(hy:y=i)(hi:i<=xs.length)(hh:Ba n xs=true) :
  ∃x',fF h (ET P t x none (some (.int k y)) none)=some (.ret x',h)/\fK x' (xs.take i):=by
 subst hy
 rcases hx with⟨rfl,rfl⟩|⟨c,rfl⟩
 ·have:i=0:=by simpa using hi
  subst this
  exact⟨.aj,by simp[ET,ht,hn,D7,Cr,Ir,fF],.inl ⟨rfl,rfl⟩⟩
 ·have hb:D7 xs.length xs.length none (some (.int k (i:Int))) none=some (0,i,xs.length):=by simp[D7,Cr,Ir,hi]
  unfold ET
  simp only[ht,hb,hn]
  cases c<;>simp[fF]<;>exact .inr ⟨_,rfl⟩
theorem Nu{s:List Ag}:Ba 2 (s.map jc)=true:=by cases s<;>rfl
theorem l14(call eu n)(x0:AV)(s:List Ag)(hx0:AR x0 s)(hs:s.length<=32)(wD:wD call)(vE:vE call){Q:Option (Aq × AH)->Prop}{K:KC (Aq × AH)}
  (hR:∀{h} {g0 g1 g4 g5 g6 g7 g8 g9 aA aB aC aD aE aF aG aH aI aJ aK aL aM aN aO aP aQ aR aS aT aU aV aW aX aY aZ bA bB bC bD bE bF bG bH bI:AV},Q (K .ret ⟨(g0::g1:: .int .i64 (Fg s s 0).1:: .int .i64 (Fg s s 0).2::g4::g5::g6::g7::g8::g9::aA::aB::aC::aD::aE::aF::aG::aH::aI::aJ::aK::aL::aM::aN::aO::aP::aQ::aR::aS::aT::aU::aV::aW::aX::aY::aZ::bA::bB::bC::bD::bE::bF::bG::bH::bI::[]),[],h⟩))
  (hK:Fg s s 0=(0,0)->∀{h} {g0 g1 g4 g5 g6 g7 g8 g9 aA aB aC aD aE aF aG aH aI aJ aK aL aM aN aO aP aQ aR aS aT aU aV aW aX aY aZ bA bB bC bD bE bF bG bH bI:AV},Q (K (.exit 0) ⟨(g0::g1:: .int .i64 0:: .int .i64 0::g4::g5::g6::g7::g8::g9::aA::aB::aC::aD::aE::aF::aG::aH::aI::aJ::aK::aL::aM::aN::aO::aP::aQ::aR::aS::aT::aU::aV::aW::aX::aY::aZ::bA::bB::bC::bD::bE::bF::bG::bH::bI::[]),[],h⟩)) :
  ∀(m i:Nat) {x:Int} {h:AH} {g1 g4 g5 g6 g7 g8 g9 aA aB aF aG aH aI aJ aK aL aM aN aO aP aQ aR aS aT aU aV aW aX aY aZ bA bB bC bD bE bF bG bH bI:AV},x=i->i<=s.length->s.length - i<m->Fg s s 0=Fg s (s.drop i) i->
  Q (DV (LB Zy call eu n 61 Tryz.f61 0) m ⟨(x0::g1:: .int .i64 0:: .int .i64 0::g4::g5::g6::g7::g8::g9::aA::aB::x0:: .int .i64 s.length:: .int .i64 x::aF::aG::aH::aI::aJ::aK::aL::aM::aN::aO::aP::aQ::aR::aS::aT::aU::aV::aW::aX::aY::aZ::bA::bB::bC::bD::bE::bF::bG::bH::bI::[]),[],h⟩ K):=by
 have u:Tryz.prog.underlying 22=some (.slice 85):=by kernel_rfl
 intro m
 induction m with
 |zero=>intros;omega
 |succ m ih=>
  intro i x h g1 g4 g5 g6 g7 g8 g9 aA aB aF aG aH aI aJ aK aL aM aN aO aP aQ aR aS aT aU aV aW aX aY aZ bA bB bC bD bE bF bG bH bI hx hi hm hF
  rw[Bo]
  conv=>arg 1;whnf
  split
  ·rename_i hd
   have hlt:i<s.length:=by simp at hd;omega
   have hdrop:s.drop i=s[i]::s.drop (i+1):=adS hlt
   have hg:(s.map jc)[i]?=some (jc s[i]):=by rw[abG,aaj hlt];rfl
   have hidx:=fun h=>Ht (P:=Tryz.prog) (t:=22) (e:=85) (n:=2) (h:=h) (k:= .i64) u (by kernel_rfl) hx0 hx hg rfl
   rw[hdrop]at hF
   generalize s[i]=g at hidx hF
   obtain⟨gn,ga⟩:=g
   conv=>arg 1;whnf
   refine Aa (hidx _) ?_
   conv=>arg 1;whnf
   refine Aa (Cb (z:= .agg [.str [],.int .i64 0]) (cs:=[.str [],.int .i64 0]) (by kernel_rfl) rfl rfl) ?_
   conv=>arg 1;whnf
   have hst:=Lv (h:=h) (cs0:=[.str [],.int .i64 0]) (v:= .agg [.str gn,.int .i64 ga]) (cs:=[.str gn,.int .i64 ga]) (T:=85) (n:=2) (P:=Tryz.prog) (by kernel_rfl) rfl rfl rfl rfl
   refine Aa hst ?_
   obtain⟨hget,hnx,hkeep⟩:=Jd h [.str [],.int .i64 0] [.str gn,.int .i64 ga] 85
   generalize ((h.alloc (.cells [.str [],.int .i64 0] 85)).set h.next (.cells [.str gn,.int .i64 ga] 85))=h2 at hget hnx hkeep ⊢
   generalize h.next=p at hget ⊢
   have ld0:fF h2 (Ay Tryz.prog 9 (.ptr p 0) h2)=some (.ret (.str gn),h2):=Bj (n:=1) hget (by kernel_rfl) (by kernel_rfl) rfl
   have ld1:fF h2 (Ay Tryz.prog 3 (.ptr p 1) h2)=some (.ret (.int .i64 ga),h2):=Bj (n:=1) hget (by kernel_rfl) (by kernel_rfl) rfl
   conv=>arg 1;whnf
   refine Aa ld0 ?_
   conv=>arg 1;whnf
   refine Aa (wD _ _) ?_
   conv=>arg 1;whnf
   cases e1:Kz gn
   ·conv=>arg 1;whnf
    rw[hF]at hR
    simp only[Fg,e1,if_true,<-hx]at hR
    exact hR
   conv=>arg 1;whnf
   obtain⟨x',hsl,hx'⟩:=ahj (P:=Tryz.prog) (t:=22) (e:=85) (n:=2) (k:= .i64) (h:=h2) u (by kernel_rfl) hx0 hx (by rw[aaq];omega) Nu
   rw[<-List.map_take]at hx'
   refine Aa hsl ?_
   conv=>arg 1;whnf
   refine Aa ld0 ?_
   conv=>arg 1;whnf
   refine Gq (vE x' (s.take i) gn h2 hx' (by rw[ajE];omega)) ?_
   conv=>arg 1;whnf
   cases e2:decide (jP (s.take i) gn 0>=0)
   ·have e2':¬jP (s.take i) gn 0>=0:=by simpa using e2
    have hF2:Fg s s 0=if ga<0\/ga>6 then(22,(i:Int))else Fg s (s.drop (i+1)) (i+1):=by
     rw[hF];simp only[Fg,e1,if_neg (show ¬(true=false)by simp),if_neg e2']
    conv=>arg 1;whnf
    refine Aa ld1 ?_
    conv=>arg 1;whnf
    cases e3:decide (ga<0)
    ·conv=>arg 1;whnf
     refine Aa ld1 ?_
     conv=>arg 1;whnf
     cases e4:decide (ga>6)
     ·conv=>arg 1;whnf
      refine ih (i+1) (by rw[hx];exact BS (by omega)) (by omega) (by omega) ?_
      rw[hF2,if_neg (by simp at e3 e4;omega)]
     ·conv=>arg 1;whnf
      rw[hF2,if_pos (.inr (by simpa using e4)),<-hx]at hR
      exact hR
    ·conv=>arg 1;whnf
     rw[hF2,if_pos (.inl (by simpa using e3)),<-hx]at hR
     exact hR
   ·conv=>arg 1;whnf
    rw[hF]at hR
    simp only[Fg,e1,if_neg (show ¬(true=false)by simp),if_pos (show jP (s.take i) gn 0>=0 by simpa using e2),<-hx]at hR
    exact hR
  ·rename_i hd
   have hlt:¬i<s.length:=by simp at hd;omega
   refine hK ?_
   rw[hF,ajJ (by omega)];rfl
theorem b14(call eu n)(x:AV)(s:List Ag)(hx:AR x s)(wD:wD call)(vE:vE call)(h:AH)(hn:33<n) :
  ∃h',B Zy call eu n 61 Tryz.f61 [x] h=some (.ret (.fD [.int .i64 (AP s).1,.int .i64 (AP s).2]),h'):=by
 have u:Tryz.prog.underlying 22=some (.slice 85):=by kernel_rfl
 have hlen:=fun h=>Fx (X:=⟨Tryz.prog,eO,call⟩) (mu:=false) (h:=h) u hx
 rw[aaq]at hlen
 suffices hq:(fun r:Option (Aq × AH)=> ∃h',r=some (.ret (.fD [.int .i64 (AP s).1,.int .i64 (AP s).2]),h')) (B Zy call eu n 61 Tryz.f61 [x] h)from hq
 generalize hQ:(fun r:Option (Aq × AH)=> ∃h',r=some (.ret (.fD [.int .i64 (AP s).1,.int .i64 (AP s).2]),h'))=Q
 have hQ':∀a b h',(a,b)=AP s->Q (some (.ret (.fD [.int .i64 a,.int .i64 b]),h')):=fun a b h' e=>by rw[<-hQ,<-e];exact⟨h',rfl⟩
 conv=>arg 1;whnf
 refine Aa (hlen _) ?_
 conv=>arg 1;whnf
 split
 ·rename_i e1
  conv=>arg 1;whnf
  refine Ac (Ab (.inl rfl) rfl) (hQ' 20 0 _ ?_)
  unfold AP;rw[if_pos (by simpa using e1)]
 rename_i e1
 conv=>arg 1;whnf
 refine Aa (hlen _) ?_
 conv=>arg 1;whnf
 split
 ·rename_i e2
  conv=>arg 1;whnf
  refine Ac (Ab (.inl rfl) rfl) (hQ' 15 32 _ ?_)
  unfold AP;rw[if_neg (by simpa using e1),if_pos (by simp at e2;omega)]
 rename_i e2
 have hs:s.length<=32:=by simp at e2;omega
 have hc:AP s=Fg s s 0:=by unfold AP;rw[if_neg (by simpa using e1),if_neg (by omega)]
 conv=>arg 1;whnf
 refine Aa (hlen _) ?_
 conv=>arg 1;whnf
 refine l14 call eu n x s hx hs wD vE ?_ ?_ n 0 rfl (ajy _) (by omega) (by rw[aj6])
 ·intro h
  intros
  exact Ac (Ab (.inl rfl) rfl) (hQ' _ _ _ hc.symm)
 ·intro h0 h
  intros
  conv=>arg 1;whnf
  exact Ac (Ab (.inl rfl) rfl) (hQ' _ _ _ (by rw[hc,h0]))
theorem E0:Bq (Ak Tryz.prog eO QV):=ZI (by kernel_rfl) (by kernel_rfl)
def s31:List AV->Option AV|[x,.int .i64 a]=>(match Dn x with|some s=>some (.int .i64 (AL s a))|none=>none)|_=>none
def s36:List AV->Option AV|[.str s,.int .u8 lo,.int .u8 hi]=>some (.bool (Df s lo hi))|_=>none
def s28:List AV->Option AV|[.str s]=>some (.bool (Kz s))|_=>none
def s29:List AV->Option AV|[x,.str nm]=>(match Dn x with|some s=>if s.length<=3000000000 then some (.int .i64 (jP s nm 0))else none|none=>none)|_=>none
def s14:List AV->Option AV|[x]=>(match Dn x with|some s=>some (.fD [.int .i64 (AP s).1,.int .i64 (AP s).2])|none=>none)|_=>none
def hk31:=Bb QV 67 s31
def ahh:=Bb hk31 99 s36
def ade:=Bb ahh 84 s28
def zy:=Bb ade 85 s29
def MC:=Bb zy 61 s14
theorem Cu{hk:Ar}(tab:Nat->Option (List Nat)){n:Nat}{f:FuncId}{fn:Func}{args:List AV}{v:AV}{h':AH}(hh:hk f args .empty=none)(hf:Tryz.prog.funcs[f]?=some fn)(hc:fn.body=some (codeOf fn))
  (ht:A9 Tryz.prog (eO f) tab (codeOf fn)=true) (hv:B tab (Ah (Ak Tryz.prog eO hk) n) (rg Tryz.prog eO hk n f) n f fn args .empty=some (.ret v,h')):∃n h',Ah (Ak Tryz.prog eO hk) n (.func f) args .empty=some (.ret v,h'):=
 ⟨n+1,h',AJ tab hh hf hc ht hv⟩
theorem E31:Bq (Ak Tryz.prog eO hk31):=CK E0 fun args v hs=>by
 unfold s31 at hs;split at hs
 ·split at hs
  ·rename_i x a _ s hb
   cases hs
   exact⟨rfl,Cu fO (n:=1) rfl Tryz.func67 rfl (by kernel_rfl) (b31 _ _ _ x s a _ (Bn hb))⟩
  ·cases hs
 ·cases hs
theorem E36:Bq (Ak Tryz.prog eO ahh):=CK E31 fun args v hs=>by
 unfold s36 at hs;split at hs<;>cases hs
 exact⟨rfl,Cu KW (n:=17) rfl Tryz.func99 rfl (by kernel_rfl) (b36 _ _ _ _ _ _ _ (by omega))⟩
theorem E28:Bq (Ak Tryz.prog eO ade):=CK E36 fun args v hs=>by
 unfold s28 at hs;split at hs<;>cases hs
 exact⟨rfl,Cu KW (n:=1) rfl Tryz.func84 rfl (by kernel_rfl) (b28 _ _ _ _ _ (fun s lo hi h=>Dr rfl (by omega)))⟩
theorem E29:Bq (Ak Tryz.prog eO zy):=CK E28 fun args v hs=>by
 unfold s29 at hs;split at hs
 ·split at hs
  ·rename_i x nm _ s hb
   split at hs
   ·rename_i hl
    cases hs
    obtain⟨h',hb'⟩:=b29 (Ah (Ak Tryz.prog eO ade) (s.length+1)) (rg Tryz.prog eO ade (s.length+1) 85) (s.length+1) x s (Bn hb) hl nm .empty (by omega)
    exact⟨rfl,Cu fO rfl Tryz.func85 rfl (by kernel_rfl) hb'⟩
   ·cases hs
  ·cases hs
 ·cases hs
theorem CX{hk:Ar}{f:FuncId}{sp:List AV->Option AV}{args:List AV}{h:AH}{v:AV}(hf:BJ args=true)(hs:sp (CB args)=some v):Bb hk f sp f args h=some (v,h):=by
 rw[R7 hk f sp hf,hs]
theorem afM{hk:Ar}{n:Nat}(zA:∀args h,hk 85 args h=zy 85 args h)(hn:0<n):vE (Ah (Ak Tryz.prog eO hk) n):=fun x s nm h hx hl=>Dr (by
 rw[zA]
 refine CX (by simp[BJ,BN,CZ hx]) ?_
 show(match Dn (Bc x)with|some s=>if s.length<=3000000000 then some (AV.int .i64 (jP s nm 0))else none|none=>none)=_
 rw[C9 hx];simp only[if_pos hl]) hn
theorem E14:Bq (Ak Tryz.prog eO MC):=CK E29 fun args v hs=>by
 unfold s14 at hs;split at hs
 ·split at hs
  ·rename_i x _ s hb
   cases hs
   obtain⟨h',hb'⟩:=b14 (Ah (Ak Tryz.prog eO zy) 34) (rg Tryz.prog eO zy 34 61) 34 x s (Bn hb) (fun s h=>Dr rfl (by omega)) (afM (fun _ _=>rfl) (by omega)) .empty (by omega)
   exact⟨rfl,Cu Zy rfl Tryz.func61 rfl (by kernel_rfl) hb'⟩
  ·cases hs
 ·cases hs
noncomputable abbrev EV(hk:Ar)(n:Nat):AA:=Ah (Ak Tryz.prog eO hk) n
abbrev NO(hk:Ar)(f:FuncId):Prop:= ∀args h,hk f args h=none
abbrev UP(hk:Ar)(k:Nat)(p:AA->Prop):Prop:= ∀n,k<n->p (Ah (Ak Tryz.prog eO hk) n)
abbrev DR(call:AA)(eu:ZU)(f:FuncId):Prop:= ∀id ops st,eu id ops st=drawn ⟨Tryz.prog,eO,call⟩ f ops st
abbrev QT:=Option (Aq × AH)->Prop
theorem Dz{k n:Nat}(h:k<n):∃m,n=m+1:=⟨n - 1,by omega⟩
section
variable{hk:Ar}{n:Nat}{f:FuncId}{fn:Func}{tab:Nat->Option (List Nat)}{args:List AV}{h:AH}{D:AA->Prop}
theorem aeB{v:AV}(hno:NO hk f)(hf:Tryz.prog.funcs[f]?=some fn)(hb:fn.body=some (codeOf fn))(ht:A9 Tryz.prog (eO f) tab (codeOf fn)=true)(d:D (EV hk n))
  (b:∀call eu,D call->DR call eu f->∀Q:QT,¬Q none->(∀v_,v_=v->Q (some (.ret v_,h)))->Q (B tab call eu n f fn args h)):EV hk (n+1) (.func f) args h=some (.ret v,h):=
 AJ tab (hno _ _) hf hb ht (b (EV hk n) (rg Tryz.prog eO hk n f) d (fun _ _ _=>rfl) (fun y=>y=some (.ret v,h)) (fun e=>by cases e) (fun _ e=>by rw[e]))
theorem KR{v:AH->AV}{p:AH->Prop}(hno:NO hk f)(hf:Tryz.prog.funcs[f]?=some fn)(hb:fn.body=some (codeOf fn))(ht:A9 Tryz.prog (eO f) tab (codeOf fn)=true)(d:D (EV hk n))
  (b:∀call eu,D call->DR call eu f->∀Q:QT,¬Q none->(∀h',p h'->Q (some (.ret (v h'),h')))->Q (B tab call eu n f fn args h)):∃h',EV hk (n+1) (.func f) args h=some (.ret (v h'),h')/\p h':=by
 obtain⟨h',e,q⟩:=b (EV hk n) (rg Tryz.prog eO hk n f) d (fun _ _ _=>rfl) (fun y=> ∃h',y=some (.ret (v h'),h')/\p h') (by rintro⟨_,e,_⟩;cases e) (fun h' q=>⟨h',rfl,q⟩)
 exact⟨h',AJ tab (hno _ _) hf hb ht e,q⟩
theorem ahl{α1:Type}{v:AH->α1->AV}{p:AH->α1->Prop}(hno:NO hk f)(hf:Tryz.prog.funcs[f]?=some fn)(hb:fn.body=some (codeOf fn))(ht:A9 Tryz.prog (eO f) tab (codeOf fn)=true)(d:D (EV hk n))
  (b:∀call eu,D call->DR call eu f->∀Q:QT,¬Q none->(∀h' x1,p h' x1->Q (some (.ret (v h' x1),h')))->Q (B tab call eu n f fn args h)):∃h' x1,EV hk (n+1) (.func f) args h=some (.ret (v h' x1),h')/\p h' x1:=by
 obtain⟨h',x1,e,q⟩:=b (EV hk n) (rg Tryz.prog eO hk n f) d (fun _ _ _=>rfl) (fun y=> ∃h' x1,y=some (.ret (v h' x1),h')/\p h' x1) (by rintro⟨_,_,e,_⟩;cases e) (fun h' x1 q=>⟨h',x1,rfl,q⟩)
 exact⟨h',x1,AJ tab (hno _ _) hf hb ht e,q⟩
theorem xX{α1:Type}{α2:Type}{v:AH->α1->α2->AV}{p:AH->α1->α2->Prop}(hno:NO hk f)(hf:Tryz.prog.funcs[f]?=some fn)(hb:fn.body=some (codeOf fn))(ht:A9 Tryz.prog (eO f) tab (codeOf fn)=true)(d:D (EV hk n))
  (b:∀call eu,D call->DR call eu f->∀Q:QT,¬Q none->(∀h' x1 x2,p h' x1 x2->Q (some (.ret (v h' x1 x2),h')))->Q (B tab call eu n f fn args h)):∃h' x1 x2,EV hk (n+1) (.func f) args h=some (.ret (v h' x1 x2),h')/\p h' x1 x2:=by
 obtain⟨h',x1,x2,e,q⟩:=b (EV hk n) (rg Tryz.prog eO hk n f) d (fun _ _ _=>rfl) (fun y=> ∃h' x1 x2,y=some (.ret (v h' x1 x2),h')/\p h' x1 x2) (by rintro⟨_,_,_,e,_⟩;cases e) (fun h' x1 x2 q=>⟨h',x1,x2,rfl,q⟩)
 exact⟨h',x1,x2,AJ tab (hno _ _) hf hb ht e,q⟩
theorem ahJ{α1:Type}{α2:Type}{α3:Type}{v:AH->α1->α2->α3->AV}{p:AH->α1->α2->α3->Prop}(hno:NO hk f)(hf:Tryz.prog.funcs[f]?=some fn)(hb:fn.body=some (codeOf fn))(ht:A9 Tryz.prog (eO f) tab (codeOf fn)=true)(d:D (EV hk n))
  (b:∀call eu,D call->DR call eu f->∀Q:QT,¬Q none->(∀h' x1 x2 x3,p h' x1 x2 x3->Q (some (.ret (v h' x1 x2 x3),h')))->Q (B tab call eu n f fn args h)):∃h' x1 x2 x3,EV hk (n+1) (.func f) args h=some (.ret (v h' x1 x2 x3),h')/\p h' x1 x2 x3:=by
 obtain⟨h',x1,x2,x3,e,q⟩:=b (EV hk n) (rg Tryz.prog eO hk n f) d (fun _ _ _=>rfl) (fun y=> ∃h' x1 x2 x3,y=some (.ret (v h' x1 x2 x3),h')/\p h' x1 x2 x3) (by rintro⟨_,_,_,_,e,_⟩;cases e) (fun h' x1 x2 x3 q=>⟨h',x1,x2,x3,rfl,q⟩)
 exact⟨h',x1,x2,x3,AJ tab (hno _ _) hf hb ht e,q⟩
theorem ahs{α1:Type}{α2:Type}{α3:Type}{α4:Type}{v:AH->α1->α2->α3->α4->AV}{p:AH->α1->α2->α3->α4->Prop}(hno:NO hk f)(hf:Tryz.prog.funcs[f]?=some fn)(hb:fn.body=some (codeOf fn))(ht:A9 Tryz.prog (eO f) tab (codeOf fn)=true)(d:D (EV hk n))
  (b:∀call eu,D call->DR call eu f->∀Q:QT,¬Q none->(∀h' x1 x2 x3 x4,p h' x1 x2 x3 x4->Q (some (.ret (v h' x1 x2 x3 x4),h')))->Q (B tab call eu n f fn args h)):∃h' x1 x2 x3 x4,EV hk (n+1) (.func f) args h=some (.ret (v h' x1 x2 x3 x4),h')/\p h' x1 x2 x3 x4:=by
 obtain⟨h',x1,x2,x3,x4,e,q⟩:=b (EV hk n) (rg Tryz.prog eO hk n f) d (fun _ _ _=>rfl) (fun y=> ∃h' x1 x2 x3 x4,y=some (.ret (v h' x1 x2 x3 x4),h')/\p h' x1 x2 x3 x4) (by rintro⟨_,_,_,_,_,e,_⟩;cases e) (fun h' x1 x2 x3 x4 q=>⟨h',x1,x2,x3,x4,rfl,q⟩)
 exact⟨h',x1,x2,x3,x4,AJ tab (hno _ _) hf hb ht e,q⟩
theorem aie{α1:Type}{α2:Type}{α3:Type}{α4:Type}{α5:Type}{α6:Type}{v:AH->α1->α2->α3->α4->α5->α6->AV}{p:AH->α1->α2->α3->α4->α5->α6->Prop}(hno:NO hk f)(hf:Tryz.prog.funcs[f]?=some fn)(hb:fn.body=some (codeOf fn))(ht:A9 Tryz.prog (eO f) tab (codeOf fn)=true)(d:D (EV hk n))
  (b:∀call eu,D call->DR call eu f->∀Q:QT,¬Q none->(∀h' x1 x2 x3 x4 x5 x6,p h' x1 x2 x3 x4 x5 x6->Q (some (.ret (v h' x1 x2 x3 x4 x5 x6),h')))->Q (B tab call eu n f fn args h)):∃h' x1 x2 x3 x4 x5 x6,EV hk (n+1) (.func f) args h=some (.ret (v h' x1 x2 x3 x4 x5 x6),h')/\p h' x1 x2 x3 x4 x5 x6:=by
 obtain⟨h',x1,x2,x3,x4,x5,x6,e,q⟩:=b (EV hk n) (rg Tryz.prog eO hk n f) d (fun _ _ _=>rfl) (fun y=> ∃h' x1 x2 x3 x4 x5 x6,y=some (.ret (v h' x1 x2 x3 x4 x5 x6),h')/\p h' x1 x2 x3 x4 x5 x6) (by rintro⟨_,_,_,_,_,_,_,e,_⟩;cases e) (fun h' x1 x2 x3 x4 x5 x6 q=>⟨h',x1,x2,x3,x4,x5,x6,rfl,q⟩)
 exact⟨h',x1,x2,x3,x4,x5,x6,AJ tab (hno _ _) hf hb ht e,q⟩
end
structure Nt where
 cells:List Int
 free:Int
 wires:List (Int × Int × Int × Int)
def Ad(a:Int):AV:= .int .i64 a
def Am(p:Int × Int):AV:= .agg [.int .i64 p.1,.int .i64 p.2]
def Az(w:Int × Int × Int × Int):AV:= .agg [.int .i64 w.1,.int .i64 w.2.1,.int .i64 w.2.2.1,.int .i64 w.2.2.2]
def Ct(s:List Ag)(c:Nat)(a:Int):List (Int × Int):=(List.range' 0 (AL s a).toNat).map fun(k:Nat)=>((c:Int),(k:Int))
def Au(s:List Ag):List Int->Nat->List (Int × Int)
 |[],_=>[]
 |a::r,c=>Ct s c a++Au s r (c+1)
def freePorts(f:Int):List (Int × Int):=(List.range' 0 f.toNat).map fun(k:Nat)=>((-1:Int),(k:Int))
def Ae(s:List Ag)(n:Nt):List (Int × Int):=freePorts n.free++Au s n.cells 0
inductive NY (call:AA) (l:Sk.Id) (G:AH->Prop):Nat->List (Int × Int)->AH->AH->Prop
 |nil (i:Nat) (h:AH):NY call l G i [] h h
 |cons {i:Nat} {p:Int × Int} {ps:List (Int × Int)} {h h1 h2:AH} (hc:call (.yield l) [.int .i64 i,Am p] h=some (.ret (.bool true),h1)) (hg:G h1) (hr:NY call l G (i+1) ps h1 h2):NY call l G i (p::ps) h h2
 |stop {i:Nat} {p:Int × Int} {ps:List (Int × Int)} {h h1:AH} (hc:call (.yield l) [.int .i64 i,Am p] h=some (.ret (.bool false),h1)):NY call l G i (p::ps) h h1
structure Es (b2 b3:Sk.Id) (x c w:AV) (f:Int) (h:AH):Prop where
 g2:h.get b2=some (.cells [x] 22)
 g3:h.get b3=some (.cells [c,.int .i64 f,w] 26)
theorem aik(call eu n)(l b2 b3:Sk.Id)(x c w:AV)(f:Int)(hf:f<=1000000)(h':AH)(rest:List (Int × Int)){K:KC (Aq × AH)}{y:Option (Aq × AH)}
  (hR:∀{g0 g1 g2 g3 g4 g5 g6 g7 g8 g9 aA aB aC aD aE aF aG aH aI aJ aK aL aM aN aO aP aQ aR aS aT aU aV aW aX aY aZ bA bB bC bD bE bF bG bH bI bJ bK bL:AV},K .ret ⟨(g0::g1::g2::g3::g4::g5::g6::g7::g8::g9::aA::aB::aC::aD::aE::aF::aG::aH::aI::aJ::aK::aL::aM::aN::aO::aP::aQ::aR::aS::aT::aU::aV::aW::aX::aY::aZ::bA::bB::bC::bD::bE::bF::bG::bH::bI::bJ::bK::bL::[]),[],h'⟩=y)
  (hK:∀{h:AH} {g3 g5 g6 g7 g8 g9 aA aB aC aD aE aF aG aH aI aJ aK aL aM aN aO aP aQ aR aS aT aU aV aW aX aY aZ bA bB bC bD bE bF bG bH bI bJ bK bL:AV},Es b2 b3 x c w f h->NY call l (Es b2 b3 x c w f) f.toNat rest h h'->K (.exit 0) ⟨(.fn (.yield l) [] []:: .ptr b3 0:: .ptr b2 0::g3:: .int .i64 (f.toNat:Int)::g5::g6::g7::g8::g9::aA::aB::aC::aD::aE::aF::aG::aH::aI::aJ::aK::aL::aM::aN::aO::aP::aQ::aR::aS::aT::aU::aV::aW::aX::aY::aZ::bA::bB::bC::bD::bE::bF::bG::bH::bI::bJ::bK::bL::[]),[],h⟩=y) :
  ∀(m i:Nat) {z a:Int} {h:AH} {g3 g5 g6 g7 g8 g9 aC aD aE aF aG aH aI aJ aK aL aM aN aO aP aQ aR aS aT aU aV aW aX aY aZ bA bB bC bD bE bF bG bH bI bJ bK bL:AV},z=i->a=i->i<=f.toNat->f.toNat - i<m->Es b2 b3 x c w f h->NY call l (Es b2 b3 x c w f) i ((List.range' i (f.toNat - i)).map (fun(k:Nat)=>((-1:Int),(k:Int)))++rest) h h'->
  DV (LB fO call eu n 86 Tryz.f86 0) m ⟨(.fn (.yield l) [] []:: .ptr b3 0:: .ptr b2 0::g3:: .int .i64 a::g5::g6::g7::g8::g9:: .int .i64 f:: .int .i64 z::aC::aD::aE::aF::aG::aH::aI::aJ::aK::aL::aM::aN::aO::aP::aQ::aR::aS::aT::aU::aV::aW::aX::aY::aZ::bA::bB::bC::bD::bE::bF::bG::bH::bI::bJ::bK::bL::[]),[],h⟩ K=y:=by
 intro m
 induction m with
 |zero=>intros;omega
 |succ m ih=>
  intro i z a h g3 g5 g6 g7 g8 g9 aC aD aE aF aG aH aI aJ aK aL aM aN aO aP aQ aR aS aT aU aV aW aX aY aZ bA bB bC bD bE bF bG bH bI bJ bK bL hz ha hi hm hG hY
  rw[Bo]
  conv=>lhs;whnf
  split
  ·rename_i hd
   have hlt:i<f.toNat:=by simp at hd;omega
   have hr:List.range' i (f.toNat - i)=i::List.range' (i+1) (f.toNat - (i+1)):=by
    rw[show f.toNat - i=(f.toNat - (i+1))+1 by omega,List.range'_succ]
   rw[hr,aju,acW]at hY
   rw[hz,ha]
   conv=>lhs;whnf
   cases hY with
   |cons hc hg hr'=>
    refine AQ hc ?_
    conv=>lhs;whnf
    exact ih (i+1) (BS (by omega)) (BS (by omega)) (by omega) (by omega) hg hr'
   |stop hc=>
    refine AQ hc ?_
    conv=>lhs;whnf
    exact hR
  ·rename_i hd
   have hlt:¬i<f.toNat:=by simp at hd;omega
   have he:i=f.toNat:=by omega
   rw[show f.toNat - i=0 by omega]at hY
   subst ha
   rw[he]at hY ⊢
   exact hK hG hY
theorem ah0(call eu n)(l b2 b3:Sk.Id)(x c w:AV)(f:Int)(cc:Nat)(M j0:Nat)(hj:j0+M<=1000000000){v24 v25 v26:AV}(h':AH)(rest:List (Int × Int)){K:KC (Aq × AH)}{y:Option (Aq × AH)}
  (hR:∀{g0 g1 g2 g3 g4 g5 g6 g7 g8 g9 aA aB aC aD aE aF aG aH aI aJ aK aL aM aN aO aP aQ aR aS aT aU aV aW aX aY aZ bA bB bC bD bE bF bG bH bI bJ bK bL:AV},K .ret ⟨(g0::g1::g2::g3::g4::g5::g6::g7::g8::g9::aA::aB::aC::aD::aE::aF::aG::aH::aI::aJ::aK::aL::aM::aN::aO::aP::aQ::aR::aS::aT::aU::aV::aW::aX::aY::aZ::bA::bB::bC::bD::bE::bF::bG::bH::bI::bJ::bK::bL::[]),[],h'⟩=y)
  (hK:∀{h:AH} {z:Int} {g3 g5 g7 g8 g9 aA aB aC aD aE aF aG aH aI aJ aK aL aM aN aR aS aT aU aV aW aX aY aZ bA bB bC bD bE bF bG bH bI bJ bK bL:AV},z=((j0+M:Nat):Int)->Es b2 b3 x c w f h->NY call l (Es b2 b3 x c w f) (j0+M) rest h h'->K (.exit 4) ⟨(.fn (.yield l) [] []:: .ptr b3 0:: .ptr b2 0::g3:: .int .i64 z::g5:: .int .i64 cc::g7::g8::g9::aA::aB::aC::aD::aE::aF::aG::aH::aI::aJ::aK::aL::aM::aN::v24::v25::v26::aR::aS::aT::aU::aV::aW::aX::aY::aZ::bA::bB::bC::bD::bE::bF::bG::bH::bI::bJ::bK::bL::[]),[],h⟩=y) :
  ∀(m i:Nat) {z a:Int} {h:AH} {g3 g5 g7 g8 g9 aA aB aC aD aE aF aG aH aI aJ aK aL aM aN aR aS aT aU aV aW aZ bA bB bC bD bE bF bG bH bI bJ bK bL:AV},z=i->a=((j0+i:Nat):Int)->i<=M->M - i<m->Es b2 b3 x c w f h->NY call l (Es b2 b3 x c w f) (j0+i) ((List.range' i (M - i)).map (fun(k:Nat)=>((cc:Int),(k:Int)))++rest) h h'->
  DV (LB fO call eu n 86 Tryz.f86 2) m ⟨(.fn (.yield l) [] []:: .ptr b3 0:: .ptr b2 0::g3:: .int .i64 a::g5:: .int .i64 cc::g7::g8::g9::aA::aB::aC::aD::aE::aF::aG::aH::aI::aJ::aK::aL::aM::aN::v24::v25::v26::aR::aS::aT::aU::aV::aW:: .int .i64 (M:Int):: .int .i64 z::aZ::bA::bB::bC::bD::bE::bF::bG::bH::bI::bJ::bK::bL::[]),[],h⟩ K=y:=by
 intro m
 induction m with
 |zero=>intros;omega
 |succ m ih=>
  intro i z a h g3 g5 g7 g8 g9 aA aB aC aD aE aF aG aH aI aJ aK aL aM aN aR aS aT aU aV aW aZ bA bB bC bD bE bF bG bH bI bJ bK bL hz ha hi hm hG hY
  rw[Bo]
  conv=>lhs;whnf
  split
  ·rename_i hd
   have hlt:i<M:=by simp at hd;omega
   have hr:List.range' i (M - i)=i::List.range' (i+1) (M - (i+1)):=by
    rw[show M - i=(M - (i+1))+1 by omega,List.range'_succ]
   rw[hr,aju,acW]at hY
   rw[hz,ha]
   conv=>lhs;whnf
   cases hY with
   |cons hc hg hr'=>
    refine AQ hc ?_
    conv=>lhs;whnf
    exact ih (i+1) (BS (by omega)) (BS (by omega)) (by omega) (by omega) hg hr'
   |stop hc=>
    refine AQ hc ?_
    conv=>lhs;whnf
    exact hR
  ·rename_i hd
   have hlt:¬i<M:=by simp at hd;omega
   have he:i=M:=by omega
   rw[show M - i=0 by omega]at hY
   subst he
   exact hK ha hG hY
def h31(call:AA):Prop:= ∀x s a h,AR x s->call (.func 67) [x,.int .i64 a] h=some (.ret (.int .i64 (AL s a)),h)
theorem ain(call eu n)(l b2 b3:Sk.Id)(x c w:AV)(f:Int)(s:List Ag)(cells:List Int)(hx:AR x s)(hc:fK c (cells.map Ad))(hP:∀a,0<=AL s a/\AL s a<=7)(hn:7<n)(hlen:cells.length<=10000000)(h31:h31 call)(h':AH){K:KC (Aq × AH)}{y:Option (Aq × AH)}
  (hR:∀{g0 g1 g2 g3 g4 g5 g6 g7 g8 g9 aA aB aC aD aE aF aG aH aI aJ aK aL aM aN aO aP aQ aR aS aT aU aV aW aX aY aZ bA bB bC bD bE bF bG bH bI bJ bK bL:AV},K .ret ⟨(g0::g1::g2::g3::g4::g5::g6::g7::g8::g9::aA::aB::aC::aD::aE::aF::aG::aH::aI::aJ::aK::aL::aM::aN::aO::aP::aQ::aR::aS::aT::aU::aV::aW::aX::aY::aZ::bA::bB::bC::bD::bE::bF::bG::bH::bI::bJ::bK::bL::[]),[],h'⟩=y)
  (hK:∀{g0 g1 g2 g3 g4 g5 g6 g7 g8 g9 aA aB aC aD aE aF aG aH aI aJ aK aL aM aN aO aP aQ aR aS aT aU aV aW aX aY aZ bA bB bC bD bE bF bG bH bI bJ bK bL:AV},K (.exit 2) ⟨(g0::g1::g2::g3::g4::g5::g6::g7::g8::g9::aA::aB::aC::aD::aE::aF::aG::aH::aI::aJ::aK::aL::aM::aN::aO::aP::aQ::aR::aS::aT::aU::aV::aW::aX::aY::aZ::bA::bB::bC::bD::bE::bF::bG::bH::bI::bJ::bK::bL::[]),[],h'⟩=y) :
  ∀(m i j:Nat) {z a:Int} {h:AH} {g3 g5 g6 g7 g8 g9 aA aB aC aD aE aF aG aH aI aJ aK aL aM aN aR aS aT aU aV aW aX aY aZ bA bB bC bD bE bF bG bH bI bJ bK bL:AV},z=i->a=j->i<=cells.length->cells.length - i<m->j<=1000000+7*i->Es b2 b3 x c w f h->NY call l (Es b2 b3 x c w f) j (Au s (cells.drop i) i) h h'->
  DV (LB fO call eu n 86 Tryz.f86 1) m ⟨(.fn (.yield l) [] []:: .ptr b3 0:: .ptr b2 0::g3:: .int .i64 a::g5::g6::g7::g8::g9::aA::aB::aC::aD::aE::aF::aG::aH::aI::aJ::aK::aL::aM::aN::c:: .int .i64 cells.length:: .int .i64 z::aR::aS::aT::aU::aV::aW::aX::aY::aZ::bA::bB::bC::bD::bE::bF::bG::bH::bI::bJ::bK::bL::[]),[],h⟩ K=y:=by
 have u:Tryz.prog.underlying 23=some (.slice 3):=by kernel_rfl
 intro m
 induction m with
 |zero=>intros;omega
 |succ m ih=>
  intro i j z a h g3 g5 g6 g7 g8 g9 aA aB aC aD aE aF aG aH aI aJ aK aL aM aN aR aS aT aU aV aW aX aY aZ bA bB bC bD bE bF bG bH bI bJ bK bL hz ha hi hm hj hG hY
  rw[Bo]
  conv=>lhs;whnf
  split
  ·rename_i hd
   have hlt:i<cells.length:=by simp at hd;omega
   have hdrop:cells.drop i=cells[i]::cells.drop (i+1):=adS hlt
   have hg:(cells.map Ad)[i]?=some (Ad cells[i]):=by rw[abG,aaj hlt];rfl
   have hidx:=fun h=>Ht (P:=Tryz.prog) (t:=23) (e:=3) (n:=1) (h:=h) (k:= .i64) u (by kernel_rfl) hc hz hg rfl
   rw[hdrop]at hY
   generalize cells[i]=g at hidx hY
   simp only[Au,Ct]at hY
   have ld2:fF h (Ay Tryz.prog 22 (.ptr b2 0) h)=some (.ret x,h):=Bj (n:=1) hG.g2 (by kernel_rfl) (by kernel_rfl) rfl
   conv=>lhs;whnf
   refine AQ (hidx _) ?_
   conv=>lhs;whnf
   refine AQ ld2 ?_
   conv=>lhs;whnf
   refine AQ (h31 x s g h hx) ?_
   obtain⟨p0,p7⟩:=hP g
   generalize AL s g=M at hY p0 p7
   obtain⟨M,rfl⟩:∃M':Nat,M=M':=⟨M.toNat,by omega⟩
   simp only[ace]at hY
   conv=>lhs;whnf
   rw[hz]
   refine ah0 call eu n l b2 b3 x c w f i M j (by omega) h' (Au s (cells.drop (i+1)) (i+1)) ?_ ?_ n 0 (z:=0) rfl ha (ajy _) (by omega) hG hY
   ·intros
    exact hR
   intro h1 z1
   intros
   rename_i hz1 hG1 vk
   conv=>lhs;whnf
   exact ih (i+1) (j+M) (BS (by omega)) hz1 (by omega) (by omega) (by omega) hG1 vk
  ·rename_i hd
   have hlt:¬i<cells.length:=by simp at hd;omega
   rw[ajJ (by omega)]at hY
   cases hY
   exact hK
theorem b37(call eu n)(l b2 b3:Sk.Id)(x c w:AV)(f:Int)(s:List Ag)(cells:List Int)(hx:AR x s)(hc:fK c (cells.map Ad))(hP:∀a,0<=AL s a/\AL s a<=7)(hn:7<n)(hn2:cells.length<n)(hn3:f.toNat<n)(hlen:cells.length<=10000000)(hf:f<=1000000)(h31:h31 call)(h h':AH)
  (hG:Es b2 b3 x c w f h) (hY:NY call l (Es b2 b3 x c w f) 0 (freePorts f++Au s cells 0) h h') :
  B fO call eu n 86 Tryz.f86 [.fn (.yield l) [] [],.ptr b3 0,.ptr b2 0] h=some (.ret (.fD []),h'):=by
 have u:Tryz.prog.underlying 23=some (.slice 3):=by kernel_rfl
 have hl:=fun h=>Fx (X:=⟨Tryz.prog,eO,call⟩) (mu:=false) (h:=h) u hc
 rw[aaq]at hl
 have ldf:fF h (Ay Tryz.prog 3 (.ptr b3 1) h)=some (.ret (.int .i64 f),h):=Bj (n:=1) hG.g3 (by kernel_rfl) (by kernel_rfl) rfl
 conv=>lhs;whnf
 refine AQ ldf ?_
 conv=>lhs;whnf
 have hR:∀{g0 g1 g2 g3 g4 g5 g6 g7 g8 g9 aA aB aC aD aE aF aG aH aI aJ aK aL aM aN aO aP aQ aR aS aT aU aV aW aX aY aZ bA bB bC bD bE bF bG bH bI bJ bK bL:AV},iH Tryz.prog Tryz.f86 .ret ⟨(g0::g1::g2::g3::g4::g5::g6::g7::g8::g9::aA::aB::aC::aD::aE::aF::aG::aH::aI::aJ::aK::aL::aM::aN::aO::aP::aQ::aR::aS::aT::aU::aV::aW::aX::aY::aZ::bA::bB::bC::bD::bE::bF::bG::bH::bI::bJ::bK::bL::[]),[],h'⟩=some (.ret (.fD []),h'):=by
  intros
  exact CU (.inl rfl) rfl rfl
 refine aik call eu n l b2 b3 x c w f hf h' (Au s cells 0) ?_ ?_ n 0 (z:=0) (a:=0) rfl rfl (ajy _) (by omega) hG hY
 ·intros
  exact hR
 intro h1
 intros
 rename_i hG1 vk
 have ldc:fF h1 (Ay Tryz.prog 23 (.ptr b3 0) h1)=some (.ret c,h1):=Bj (n:=1) hG1.g3 (by kernel_rfl) (by kernel_rfl) rfl
 conv=>lhs;whnf
 refine AQ ldc ?_
 conv=>lhs;whnf
 refine AQ (hl _) ?_
 conv=>lhs;whnf
 refine ain call eu n l b2 b3 x c w f s cells hx hc hP hn hlen h31 h' ?_ ?_ n 0 f.toNat (z:=0) rfl rfl (ajy _) (by omega) (by omega) hG1 vk
 ·intros
  exact hR
 intros
 conv=>lhs;whnf
 exact CU (.inr rfl) rfl rfl
def Bw(s:List Ag)(cells:List Int)(f:Int)(p:Int × Int):Bool:=
 if p.1== -1 then decide (p.2>=0)&&decide (p.2<f)
 else decide (p.1>=0)&&decide (p.1<cells.length)&&decide (p.2>=0)&&(match cells[p.1.toNat]? with|some a=>decide (p.2<AL s a)|none=>false)
def ab8:Nat->Option (List Nat):=fun id=>match Nat.beq id 999999 with|true=>some []|false=>match Nat.beq id 3 with|true=>some [0,1,2,3,4,5,6,7,8,9,10,11,12,13,14,15,16,17,18,19,20,21,22,23,24,25,26,27,28,29]|false=>none
theorem kept_alloc{h:AH}{q:Sk.Id}{o o':AO}(hq:h.get q=some o)(hlt:q.nat<h.next.nat):(h.alloc o').get q=some o:=by
 rw[AH.au,if_neg (by rintro rfl;omega)];exact hq
theorem b30(call eu n)(i2 i3:Sk.Id)(x c w:AV)(s:List Ag)(cells:List Int)(f:Int)(p:Int × Int)(h:AH)(hx:AR x s)(hc:fK c (cells.map Ad))
  (g2:h.get i2=some (.cells [x] 22)) (g3:h.get i3=some (.cells [c,.int .i64 f,w] 26)) (l2:i2.nat<h.next.nat) (l3:i3.nat<h.next.nat) (h31:h31 call) :
  B ab8 call eu n 66 Tryz.f66 [Am p,.ptr i3 0,.ptr i2 0] h=some (.ret (.bool (Bw s cells f p)),h.alloc (.cells [.int .i64 p.1,.int .i64 p.2] 60)):=by
 obtain⟨p1,p2⟩:=p
 have u:Tryz.prog.underlying 23=some (.slice 3):=by kernel_rfl
 have hl:=fun h=>Fx (X:=⟨Tryz.prog,eO,call⟩) (mu:=false) (h:=h) u hc
 rw[aaq]at hl
 conv=>lhs;whnf
 refine AQ (Dq (cs:=[.int .i64 p1,.int .i64 p2]) rfl rfl) ?_
 conv=>lhs;whnf
 have gp:(h.alloc (.cells [.int .i64 p1,.int .i64 p2] 60)).get h.next=some (.cells [.int .i64 p1,.int .i64 p2] 60):=by rw[AH.au,if_pos rfl]
 have k2:=kept_alloc (o':= .cells [.int .i64 p1,.int .i64 p2] 60) g2 l2
 have k3:=kept_alloc (o':= .cells [.int .i64 p1,.int .i64 p2] 60) g3 l3
 generalize (h.alloc (.cells [.int .i64 p1,.int .i64 p2] 60))=h1 at gp k2 k3 ⊢
 generalize h.next=q at gp ⊢
 have lp0:fF h1 (Ay Tryz.prog 3 (.ptr q 0) h1)=some (.ret (.int .i64 p1),h1):=Bj (n:=1) gp (by kernel_rfl) (by kernel_rfl) rfl
 have yO:fF h1 (Ay Tryz.prog 3 (.ptr q 1) h1)=some (.ret (.int .i64 p2),h1):=Bj (n:=1) gp (by kernel_rfl) (by kernel_rfl) rfl
 have lf:fF h1 (Ay Tryz.prog 3 (.ptr i3 1) h1)=some (.ret (.int .i64 f),h1):=Bj (n:=1) k3 (by kernel_rfl) (by kernel_rfl) rfl
 have lc:fF h1 (Ay Tryz.prog 23 (.ptr i3 0) h1)=some (.ret c,h1):=Bj (n:=1) k3 (by kernel_rfl) (by kernel_rfl) rfl
 have lx:fF h1 (Ay Tryz.prog 22 (.ptr i2 0) h1)=some (.ret x,h1):=Bj (n:=1) k2 (by kernel_rfl) (by kernel_rfl) rfl
 refine AQ lp0 ?_
 conv=>lhs;whnf
 cases e0:(p1== -1)
 ·conv=>lhs;whnf
  refine AQ lp0 ?_
  conv=>lhs;whnf
  cases e1:decide (p1>=0)
  ·conv=>lhs;whnf
   refine CU (.inl rfl) rfl ?_
   simp only[Bw,e0,e1,akh,ajI,if_false];rfl
  conv=>lhs;whnf
  refine AQ lp0 ?_
  conv=>lhs;whnf
  refine AQ lc ?_
  conv=>lhs;whnf
  refine AQ (hl _) ?_
  conv=>lhs;whnf
  cases e2:decide (p1<(cells.length:Int))
  ·conv=>lhs;whnf
   refine CU (.inl rfl) rfl ?_
   simp only[Bw,e0,e1,e2,akh,akW,ajI,if_false];rfl
  conv=>lhs;whnf
  refine AQ yO ?_
  conv=>lhs;whnf
  cases e3:decide (p2>=0)
  ·conv=>lhs;whnf
   refine CU (.inl rfl) rfl ?_
   simp only[Bw,e0,e1,e2,e3,akh,akW,ajI,if_false];rfl
  have hlt:p1.toNat<cells.length:=by simp at e1 e2;omega
  have hpn:p1=p1.toNat:=by simp at e1;omega
  have hg:(cells.map Ad)[p1.toNat]?=some (Ad cells[p1.toNat]):=by rw[abG,aaj hlt];rfl
  have hidx:=fun h=>Ht (P:=Tryz.prog) (t:=23) (e:=3) (n:=1) (h:=h) (k:= .i64) u (by kernel_rfl) hc hpn hg rfl
  conv=>lhs;whnf
  refine AQ yO ?_
  conv=>lhs;whnf
  refine AQ lx ?_
  conv=>lhs;whnf
  refine AQ lc ?_
  conv=>lhs;whnf
  refine AQ lp0 ?_
  conv=>lhs;whnf
  refine AQ (hidx _) ?_
  conv=>lhs;whnf
  refine PS (h31 x s _ _ hx) ?_
  conv=>lhs;whnf
  refine CU (.inl rfl) rfl ?_
  simp only[Bw,e0,e1,e2,e3,akT,ajI,if_false,aaj hlt];rfl
 ·conv=>lhs;whnf
  refine AQ yO ?_
  conv=>lhs;whnf
  cases e1:decide (p2>=0)
  ·conv=>lhs;whnf
   refine CU (.inl rfl) rfl ?_
   simp only[Bw,e0,e1,akh,if_true];rfl
  conv=>lhs;whnf
  refine AQ yO ?_
  conv=>lhs;whnf
  refine AQ lf ?_
  conv=>lhs;whnf
  refine CU (.inl rfl) rfl ?_
  simp only[Bw,e0,e1,akT,if_true];rfl
theorem JJ{d:Nat}{t:TypeId}{k:IntKind}(ht:Tryz.prog.underlying t=some (.int k))(a b:Int):E9 Tryz.prog (d+1) t (.int .i64 a) (.int .i64 b)=some (a==b):=by
 simp[E9,ht]
theorem ZB(p q:Int × Int):nT Tryz.prog 60 (Am p) (Am q)=some (p.1==q.1&&p.2==q.2):=by
 obtain⟨a,b⟩:=p
 obtain⟨c,d⟩:=q
 have e:nT Tryz.prog 60 (Am (a,b)) (Am (c,d))=(match E9 Tryz.prog 9999 3 (.int .i64 a) (.int .i64 c)with
  |some true=>(match E9 Tryz.prog 9999 3 (.int .i64 b) (.int .i64 d)with|some true=>some true|some false=>some false|none=>none)
  |some false=>some false
  |none=>none):=by kernel_rfl
 rw[e,JJ (d:=9998) (k:= .i64) (by kernel_rfl),JJ (d:=9998) (k:= .i64) (by kernel_rfl)]
 cases a==c<;>cases b==d<;>rfl
theorem acf(p:Int × Int):F8 Tryz.prog 10000 60 (Am p)=true:=by
 obtain⟨a,b⟩:=p
 kernel_rfl
theorem acK(p:Int × Int):D5 (Am p) (Am p)=true:=by
 obtain⟨a,b⟩:=p
 simp[D5,Am,BR,Dk]
abbrev oU:=(Int × Int) × AV × Nat
def OQ(e:oU):AV × AV × Nat:=(Am e.1,e.2.1,e.2.2)
def EY(p:Int × Int):List oU->Nat->Option (Nat × AV × Nat)
 |[],_=>none
 |e::r,i=>if p=e.1 then some (i,e.2.1,e.2.2)else EY p r (i+1)
theorem TI(p:Int × Int):∀(L:List oU) (i:Nat),NT (fun e=>nT Tryz.prog 60 (Am p) e) (Am p) (L.map OQ) i=some (EY p L i)
 |[],i=>rfl
 |e::r,i=>by
  simp only[aju,OQ,NT,ZB,EY]
  by_cases h:p=e.1
  ·have:(p.1==e.1.1&&p.2==e.1.2)=true:=by rw[h];simp
   rw[this,if_pos h]
   simp only[h,acK,if_true]
  ·have:(p.1==e.1.1&&p.2==e.1.2)=false:=by
    cases hh:(p.1==e.1.1&&p.2==e.1.2)with
    |false=>rfl
    |true=>
     simp only[aci,beq_iff_eq]at hh
     exact absurd (Prod.ext hh.1 hh.2) h
   rw[this,if_neg h]
   exact TI p r (i+1)
theorem NS(p:Int × Int)(L:List oU):ES Tryz.prog 60 (Am p) (L.map OQ)=some (EY p L 0):=by
 simp only[ES,acf,if_true,TI]
def Qz(p:Int × Int)(L:List oU):Option AV:=(EY p L 0).map (·.2.1)
theorem EW(p:Int × Int):∀(L:List oU) (i:Nat),(EY p L i).map (·.2.1)=(EY p L 0).map (·.2.1)/\(∀k v b,EY p L i=some (k,v,b)->i<=k/\k - i<L.length/\EY p L 0=some (k - i,v,b))
 |[],i=>⟨rfl,fun k v b h=>by cases h⟩
 |e::r,i=>by
  simp only[EY]
  by_cases h:p=e.1
  ·simp only[if_pos h]
   refine⟨rfl,fun k v b h=>?_⟩
   simp only[aai,abW]at h
   obtain⟨rfl,rfl,rfl⟩:=h
   exact⟨acu _,by simp,by simp⟩
  ·simp only[if_neg h]
   obtain⟨h1,h2⟩:=EW p r (i+1)
   obtain⟨h3,h4⟩:=EW p r 1
   refine⟨h1.trans h3.symm,fun k v b hk=>?_⟩
   obtain⟨q1,q2,q3⟩:=h2 k v b hk
   refine⟨by omega,by simp;omega,?_⟩
   have:∀(L:List oU) (i j:Nat) k v b,EY p L i=some (k,v,b)->EY p L (i+j)=some (k+j,v,b):=by
    intro L
    induction L with
    |nil=>intro i j k v b h;cases h
    |cons e r ih=>
     intro i j k v b h
     simp only[EY]at h ⊢
     split
     ·rename_i he
      rw[if_pos he]at h
      simp only[aai,abW]at h
      obtain⟨rfl,rfl,rfl⟩:=h;rfl
     ·rename_i he
      rw[if_neg he]at h
      have:=ih (i+1) j k v b h
      rw[show i+j+1=i+1+j by omega];exact this
   have:=this r 0 1 _ _ _ q3
   rw[this];simp;omega
theorem Wm{p q:Int × Int}{v:AV}:∀{L:List oU} {k:Nat} {u:AV} {b:Nat},EY p L 0=some (k,u,b)->Qz q (Bf L k fun e=>(p,v,e.2.2))=if q=p then some v else Qz q L
 |[],k,u,b,h=>by cases h
 |e::r,k,u,b,h=>by
  simp only[EY]at h
  split at h
  ·rename_i he
   simp only[aai,abW]at h
   obtain⟨rfl,rfl,rfl⟩:=h
   show Qz q ((p,v,e.2.2)::r)=_
   simp only[Qz,EY]
   by_cases hq:q=p
   ·simp only[if_pos hq];rfl
   ·rw[if_neg hq,if_neg hq,if_neg (by rw[<-he];exact hq)]
  ·rename_i he
   obtain⟨h1,h2,h3⟩:=(EW p r 1).2 k u b h
   obtain⟨k,rfl⟩:∃k',k=k'+1:=⟨k - 1,by omega⟩
   have ih:=Wm (q:=q) (v:=v) h3
   show Qz q (e::Bf r k fun e=>(p,v,e.2.2))=_
   simp only[Nat.add_sub_cancel]at ih
   simp only[Qz,EY]at ih ⊢
   by_cases hq:q=e.1
   ·have hne:q≠p:=fun h=>he (h▸hq)
    simp only[if_pos hq,if_neg hne]
   ·simp only[if_neg hq]
    rw[(EW q _ 1).1,(EW q _ 1).1];exact ih
theorem WE{p q:Int × Int}{v:AV}{c:Nat}:∀{L:List oU} {i:Nat},EY p L i=none->Qz q (L++[(p,v,c)])=if q=p then some v else Qz q L
 |[],i,h=>by
  simp only[adk,Qz,EY]
  by_cases hq:q=p
  ·simp[hq]
  ·simp[hq]
 |e::r,i,h=>by
  simp only[EY]at h
  split at h
  ·cases h
  ·rename_i he
   have ih:=WE (q:=q) (v:=v) (c:=c) h
   simp only[acW,Qz,EY]at ih ⊢
   by_cases hq:q=e.1
   ·have hne:q≠p:=fun h=>he (h▸hq)
    simp only[if_pos hq,if_neg hne]
   ·simp only[if_neg hq]
    rw[(EW q _ 1).1,(EW q _ 1).1];exact ih
def MapAt(h:AH)(r:Sk.Id)(M:Int × Int->Option AV):Prop:= ∃(L:List oU) (clock:Nat),h.get r=some (.map (L.map OQ) clock)/\∀p,Qz p L=M p
theorem RH(f:oU->oU)(g:AV × AV × Nat->AV × AV × Nat)(hfg:∀e,OQ (f e)=g (OQ e)):∀(L:List oU) (k:Nat),Bf (L.map OQ) k g=(Bf L k f).map OQ
 |[],k=>rfl
 |e::r,0=>by simp only[aju,Bf,hfg]
 |e::r,k+1=>by simp only[aju,Bf,RH f g hfg r k]
theorem OG{t et:TypeId}{h:AH}{r:Sk.Id}{M:Int × Int->Option AV}{z:AV}(ht:Tryz.prog.underlying t=some (.map 60 et))(hz:BL Tryz.prog et=some z)(hM:MapAt h r M)(p:Int × Int) :
  fF h (Eb Tryz.prog t (.map r) (Am p) false h)=some (.ret ((M p).getD z),h):=by
 obtain⟨L,clock,hg,hv⟩:=hM
 have:=hv p
 unfold Qz at this
 simp only[Eb,ht,Ll,hg,NS]
 cases hf:EY p L 0 with
 |none=>rw[hf]at this;rw[<-this];simp[hz,fF]
 |some e=>obtain⟨k,v,b⟩:=e;rw[hf]at this;rw[<-this];simp[fF]
theorem NG{t et:TypeId}{h:AH}{r:Sk.Id}{M:Int × Int->Option AV}(ht:Tryz.prog.underlying t=some (.map 60 et))(hM:MapAt h r M)(p:Int × Int)(v:AV) :
  ∃o,iM (DL Tryz.prog t (.map r) (Am p) v h)=some (.ret Aj,h.set r o)/\MapAt (h.set r o) r (fun q=>if q=p then some v else M q):=by
 obtain⟨L,clock,hg,hv⟩:=hM
 simp only[DL,ht,hg,NS]
 cases hf:EY p L 0 with
 |none=>
  refine⟨.map ((L++[(p,v,clock)]).map OQ) (clock+1),?_,L++[(p,v,clock)],clock+1,by rw[AH.ak,if_pos rfl],fun q=>?_⟩
  ·simp[iM,OQ]
  ·rw[WE hf];simp only[hv]
 |some e=>
  obtain⟨k,u,b⟩:=e
  refine⟨.map ((Bf L k fun e=>(p,v,e.2.2)).map OQ) clock,?_,Bf L k fun e=>(p,v,e.2.2),clock,by rw[AH.ak,if_pos rfl],fun q=>?_⟩
  ·simp only[iM]
   rw[RH (fun e=>(p,v,e.2.2)) (fun e=>(Am p,v,e.2.2)) (fun e=>rfl)]
  ·rw[Wm hf];simp only[hv]
abbrev Wr:=Int × Int × Int × Int
def wA(w:Wr):Int × Int:=(w.1,w.2.1)
def wB(w:Wr):Int × Int:=(w.2.2.1,w.2.2.2)
abbrev Mp:=Int × Int->Option AV
def wE(M:Mp)(p:Int × Int)(v:AV):Mp:=fun q=>if q=p then some v else M q
def KE:List Wr->Mp->Mp
 |[],M=>M
 |w::r,M=>KE r (wE (wE M (wA w) (Am (wB w))) (wB w) (Am (wA w)))
def Wz:Nat->Option (List Nat):=fun id=>match Nat.beq id 999999 with|true=>some []|false=>match Nat.beq id 5 with|true=>some [0,1,2,3,4,5,6,7,8,9,10,11]|false=>match Nat.beq id 500005 with|true=>some []|false=>none
theorem af8:A9 Tryz.prog (eO 79) Wz (codeOf Tryz.f79)=true:=by kernel_rfl
def Kept(n0:Nat)(g:AH)(h:AH):Prop:=(∀q o,g.get q=some o->q.nat<n0->h.get q=some o)/\n0<=h.next.nat
theorem Kept.alloc{n0:Nat}{g h:AH}(hk:Kept n0 g h)(o:AO):Kept n0 g (h.alloc o):=
 ⟨fun q o' hq hlt=>kept_alloc (hk.1 q o' hq hlt) (ajF hlt hk.2),by rw[AH.bn,Id.dz];have:=hk.2;omega⟩
theorem Kept.set{n0:Nat}{g h:AH}(hk:Kept n0 g h){r:Sk.Id}(o:AO)(hr:n0<=r.nat):Kept n0 g (h.set r o):=
 ⟨fun q o' hq hlt=>by rw[AH.ak,if_neg (by rintro rfl;omega)];exact hk.1 q o' hq hlt,by rw[AH.fP];exact hk.2⟩
theorem Kept.refl(h:AH):Kept h.next.nat h h:=⟨fun q o hq _=>hq,acu _⟩
theorem MapAt.keep{h h':AH}{r:Sk.Id}{M:Mp}(hM:MapAt h r M)(hk:∀o,h.get r=some o->h'.get r=some o):MapAt h' r M:=by
 obtain⟨L,c,h1,h2⟩:=hM
 exact⟨L,c,hk _ h1,h2⟩
theorem l27(call eu n)(w:AV)(wires:List Wr)(hw:fK w (wires.map Az))(hlen:wires.length<=1000000000)(r:Sk.Id)(n0:Nat)(g:AH)(hr0:n0<=r.nat)(T:Mp){K:KC (Aq × AH)}{Q:Option (Aq × AH)->Prop}
  (hK:∀{h:AH} {g0 g1 g2 g4 g5 g6 g7 g8 g9 aA aB aC aD aE aF aG aH aI aJ aK aL aM aN aO aP:AV},MapAt h r T->r.nat<h.next.nat->Kept n0 g h->Q (K (.exit 0) ⟨(g0::g1::g2:: .map r::g4::g5::g6::g7::g8::g9::aA::aB::aC::aD::aE::aF::aG::aH::aI::aJ::aK::aL::aM::aN::aO::aP::[]),[],h⟩)) :
  ∀(m i:Nat) {z:Int} {M:Mp} {h:AH} {g0 g1 g2 g4 g5 g6 g7 aB aC aD aE aF aG aH aI aJ aK aL aM aN aO aP:AV},z=i->i<=wires.length->wires.length - i<m->MapAt h r M->r.nat<h.next.nat->Kept n0 g h->T=KE (wires.drop i) M->
  Q (DV (LB Wz call eu n 79 Tryz.f79 0) m ⟨(g0::g1::g2:: .map r::g4::g5::g6::g7::w:: .int .i64 wires.length:: .int .i64 z::aB::aC::aD::aE::aF::aG::aH::aI::aJ::aK::aL::aM::aN::aO::aP::[]),[],h⟩ K):=by
 have u:Tryz.prog.underlying 24=some (.slice 62):=by kernel_rfl
 have um:Tryz.prog.underlying 89=some (.map 60 60):=by kernel_rfl
 intro m
 induction m with
 |zero=>intros;omega
 |succ m ih=>
  intro i z M h g0 g1 g2 g4 g5 g6 g7 aB aC aD aE aF aG aH aI aJ aK aL aM aN aO aP hz hi hm hM hrn hk hT
  rw[Bo]
  conv=>arg 1;whnf
  split
  ·rename_i hd
   have hlt:i<wires.length:=by simp at hd;omega
   have hdrop:wires.drop i=wires[i]::wires.drop (i+1):=adS hlt
   have hg:(wires.map Az)[i]?=some (Az wires[i]):=by rw[abG,aaj hlt];rfl
   have hidx:=fun h=>Ht (P:=Tryz.prog) (t:=24) (e:=62) (n:=4) (h:=h) (k:= .i64) u (by kernel_rfl) hw hz hg rfl
   rw[hdrop]at hT
   simp only[KE]at hT
   generalize wires[i]=ww at hidx hT
   obtain⟨a,b,c,d⟩:=ww
   simp only[wA,wB]at hT
   conv=>arg 1;whnf
   refine Aa (hidx _) ?_
   conv=>arg 1;whnf
   refine Aa (Cb (z:= .agg [.int .i64 0,.int .i64 0,.int .i64 0,.int .i64 0]) (cs:=[.int .i64 0,.int .i64 0,.int .i64 0,.int .i64 0]) (by kernel_rfl) rfl rfl) ?_
   conv=>arg 1;whnf
   have hst:=Lv (h:=h) (cs0:=[.int .i64 0,.int .i64 0,.int .i64 0,.int .i64 0]) (v:= .agg [.int .i64 a,.int .i64 b,.int .i64 c,.int .i64 d]) (cs:=[.int .i64 a,.int .i64 b,.int .i64 c,.int .i64 d]) (T:=62) (n:=4) (P:=Tryz.prog) (by kernel_rfl) rfl rfl rfl rfl
   refine Aa hst ?_
   obtain⟨hget,hnx,hkeep⟩:=Jd h [.int .i64 0,.int .i64 0,.int .i64 0,.int .i64 0] [.int .i64 a,.int .i64 b,.int .i64 c,.int .i64 d] 62
   have hM2:=hM.keep (fun o ho=>hkeep r o ho hrn)
   have hk2:Kept n0 g ((h.alloc (.cells [.int .i64 0,.int .i64 0,.int .i64 0,.int .i64 0] 62)).set h.next (.cells [.int .i64 a,.int .i64 b,.int .i64 c,.int .i64 d] 62)):=(hk.alloc _).set _ hk.2
   have hpr:h.next≠r:=by rintro rfl;omega
   generalize ((h.alloc (.cells [.int .i64 0,.int .i64 0,.int .i64 0,.int .i64 0] 62)).set h.next (.cells [.int .i64 a,.int .i64 b,.int .i64 c,.int .i64 d] 62))=h2 at hget hnx hkeep hM2 hk2 ⊢
   have ai2:r.nat<h2.next.nat:=by omega
   generalize h.next=p at hget hpr ⊢
   have lA:fF h2 (Ay Tryz.prog 60 (.ptr p 0) h2)=some (.ret (Am (a,b)),h2):=Dx (n:=2) hget (by kernel_rfl) (by kernel_rfl) (by simp)
   have lB:fF h2 (Ay Tryz.prog 60 (.ptr p 2) h2)=some (.ret (Am (c,d)),h2):=Dx (n:=2) hget (by kernel_rfl) (by kernel_rfl) (by simp)
   obtain⟨o1,hu1,rU⟩:=NG um hM2 (a,b) (Am (c,d))
   obtain⟨o2,hu2,xQ⟩:=NG um rU (c,d) (Am (a,b))
   repeat' (first
    |refine Aa lA ?_
    |refine Aa lB ?_
    |refine Aa hu1 ?_
    |refine Aa hu2 ?_
    |(conv=>arg 1;whnf;done))
   conv=>arg 1;whnf
   refine ih (i+1) (by rw[hz];exact BS (by omega)) (by omega) (by omega) xQ (by rw[AH.fP,AH.fP];exact ai2) ((hk2.set _ hr0).set _ hr0) hT
  ·rename_i hd
   have hlt:¬i<wires.length:=by simp at hd;omega
   refine hK ?_ hrn hk
   rw[hT,ajJ (by omega)];exact hM
theorem b27(call eu n)(c w:AV)(f:Int)(wires:List Wr)(hw:fK w (wires.map Az))(hlen:wires.length<=1000000000)(hn:wires.length<n)(h:AH)(hsc:c.scalar=true) :
  ∃r h',B Wz call eu n 79 Tryz.f79 [.agg [c,.int .i64 f,w]] h=some (.ret (.map r),h')/\MapAt h' r (KE wires fun _=>none)/\h.next.nat<=r.nat/\r.nat<h'.next.nat/\Kept h.next.nat h h':=by
 have u:Tryz.prog.underlying 24=some (.slice 62):=by kernel_rfl
 have hl:=fun h=>Fx (X:=⟨Tryz.prog,eO,call⟩) (mu:=false) (h:=h) u hw
 rw[aaq]at hl
 have hws:w.scalar=true:=by rcases hw with⟨rfl,_⟩|⟨c,rfl⟩<;>rfl
 suffices hq:(fun y:Option (Aq × AH)=> ∃r h',y=some (.ret (.map r),h')/\MapAt h' r (KE wires fun _=>none)/\h.next.nat<=r.nat/\r.nat<h'.next.nat/\Kept h.next.nat h h') (B Wz call eu n 79 Tryz.f79 [.agg [c,.int .i64 f,w]] h)from hq
 generalize hQ:(fun y:Option (Aq × AH)=> ∃r h',y=some (.ret (.map r),h')/\MapAt h' r (KE wires fun _=>none)/\h.next.nat<=r.nat/\r.nat<h'.next.nat/\Kept h.next.nat h h')=Q
 have hQ':∀r h',MapAt h' r (KE wires fun _=>none)->h.next.nat<=r.nat->r.nat<h'.next.nat->Kept h.next.nat h h'->Q (some (.ret (.map r),h')):=fun r h' h1 h2 h3 h4=>by rw[<-hQ];exact⟨r,h',rfl,h1,h2,h3,h4⟩
 conv=>arg 1;whnf
 refine Aa (Dq (cs:=[c,.int .i64 f,w]) rfl (by simp only[adP,hsc,hws,aku];rfl)) ?_
 conv=>arg 1;whnf
 have g1:(h.alloc (.cells [c,.int .i64 f,w] 26)).get h.next=some (.cells [c,.int .i64 f,w] 26):=by rw[AH.au,if_pos rfl]
 have n1:(h.alloc (.cells [c,.int .i64 f,w] 26)).next.nat=h.next.nat+1:=by rw[AH.bn,Id.dz]
 have k1:=(Kept.refl h).alloc (.cells [c,.int .i64 f,w] 26)
 generalize (h.alloc (.cells [c,.int .i64 f,w] 26))=h1 at g1 n1 k1 ⊢
 generalize h.next=q at g1 n1 k1 hQ' ⊢
 have g2:(h1.alloc (.map [] 0)).get h1.next=some (.map [] 0):=by rw[AH.au,if_pos rfl]
 have g3:=kept_alloc (o':= .map [] 0) g1 (by omega)
 have n2:(h1.alloc (.map [] 0)).next.nat=h1.next.nat+1:=by rw[AH.bn,Id.dz]
 have k2:=k1.alloc (.map [] 0)
 generalize (h1.alloc (.map [] 0))=h2 at g2 g3 n2 k2 ⊢
 generalize h1.next=r at g2 n2 n1 ⊢
 have lw:fF h2 (Ay Tryz.prog 24 (.ptr q 2) h2)=some (.ret w,h2):=Bj (n:=1) g3 (by kernel_rfl) (by kernel_rfl) rfl
 refine Aa lw ?_
 conv=>arg 1;whnf
 refine Aa (hl _) ?_
 conv=>arg 1;whnf
 refine l27 call eu n w wires hw hlen r q.nat h (by omega) (KE wires fun _=>none) ?_ n 0 (z:=0) rfl (ajy _) (by omega) (M:=fun _=>none) ⟨[],0,g2,fun p=>rfl⟩ (by omega) k2 (by rw[aj6])
 intro h3
 intros
 rename_i q1 q2 q3
 conv=>arg 1;whnf
 exact Ac (Ab (.inl rfl) rfl) (hQ' r _ q1 (by omega) q2 q3)
def CR(len:Nat):List Int->Nat->Option Nat
 |[],_=>none
 |a::r,i=>if a<0\/a>=len then some i else CR len r (i+1)
abbrev Sn:=Int × Int->Bool
def MH(S:Sn)(p:Int × Int):Sn:=fun q=>if q=p then true else S q
def FB(s:List Ag)(cells:List Int)(f:Int):List Wr->Nat->Sn->(Int × Int) ⊕ Sn
 |[],_,S=> .inr S
 |w::r,i,S=>
  cond (!Bw s cells f (wA w)||!Bw s cells f (wB w)) (.inl (30,i))
   (cond (S (wA w)||S (wB w)||(wA w==wB w)) (.inl (31,i)) (FB s cells f r (i+1) (MH (MH S (wA w)) (wB w))))
def IJ(S:Sn):List (Int × Int)->Nat->Int × Int
 |[],_=>(0,0)
 |p::r,i=>if S p=false then(32,i)else IJ S r (i+1)
def Ao(s:List Ag)(n:Nt):Int × Int:=
 if(AP s).1≠0 then AP s
 else if n.cells.length>4096\/n.free>64 then(15,0)
 else if n.free<0 then(1,0)
 else match CR s.length n.cells 0 with
  |some i=>(20,i)
  |none=>match FB s n.cells n.free n.wires 0 fun _=>false with
   | .inl e=>e
   | .inr S=>IJ S (Ae s n) 0
def SM(S:Sn):Mp:=fun p=>if S p then some (.bool true)else none
theorem abu(S:Sn)(p:Int × Int):wE (SM S) p (.bool true)=SM (MH S p):=by
 funext q
 simp only[wE,SM,MH]
 by_cases h:q=p<;>simp[h]
theorem acO(S:Sn)(p:Int × Int):(SM S p).getD (.bool false)= .bool (S p):=by
 simp only[SM];cases S p<;>rfl
structure Env (i2 i3 i4 i5:Sk.Id) (x c w:AV) (f:Int) (h:AH):Prop where
 g2:h.get i2=some (.cells [x] 22)
 g3:h.get i3=some (.cells [c,.int .i64 f,w] 26)
 g4:∃v,h.get i4=some (.cells [v] 28)
 g5:∃v,h.get i5=some (.cells [v] 3)
 l2:i2.nat<h.next.nat
 l3:i3.nat<h.next.nat
 l4:i4.nat<h.next.nat
 l5:i5.nat<h.next.nat
theorem Env.keep{i2 i3 i4 i5:Sk.Id}{x c w:AV}{f:Int}{h h':AH}(E:Env i2 i3 i4 i5 x c w f h)(hk:Kept h.next.nat h h'):Env i2 i3 i4 i5 x c w f h':=by
 obtain⟨v4,g4⟩:=E.g4
 obtain⟨v5,g5⟩:=E.g5
 have:=hk.2
 exact⟨hk.1 _ _ E.g2 E.l2,hk.1 _ _ E.g3 E.l3,⟨v4,hk.1 _ _ g4 E.l4⟩,⟨v5,hk.1 _ _ g5 E.l5⟩,ajF E.l2 this,ajF E.l3 this,ajF E.l4 this,ajF E.l5 this⟩
theorem Env.fin{i2 i3 i4 i5:Sk.Id}{x c w:AV}{f:Int}{h:AH}(E:Env i2 i3 i4 i5 x c w f h)(hne:i4≠i5)(e a:Int):∃h',
  iM (Ce Tryz.prog 28 (.ptr i4 0) (.int .i64 e) h)=some (.ret Aj,h.set i4 (.cells [.int .i64 e] 28))/\
  iM (Ce Tryz.prog 3 (.ptr i5 0) (.int .i64 a) (h.set i4 (.cells [.int .i64 e] 28)))=some (.ret Aj,h')/\
  h'.get i4=some (.cells [.int .i64 e] 28)/\h'.get i5=some (.cells [.int .i64 a] 3):=by
 obtain⟨v4,g4⟩:=E.g4
 obtain⟨v5,g5⟩:=E.g5
 have g5':(h.set i4 (.cells [.int .i64 e] 28)).get i5=some (.cells [v5] 3):=by rw[AH.ak,if_neg hne.symm];exact g5
 refine⟨(h.set i4 (.cells [.int .i64 e] 28)).set i5 (.cells [.int .i64 a] 3),EC (n:=1) g4 (by kernel_rfl) rfl (by simp) rfl,EC (n:=1) g5' (by kernel_rfl) rfl (by simp) rfl,?_,?_⟩
 ·rw[AH.ak,if_neg hne,AH.ak,if_pos rfl]
 ·rw[AH.ak,if_pos rfl]
def JE:Nat->Option (List Nat):=fun id=>match Nat.beq id 999999 with|true=>some []|false=>match Nat.beq id 23 with|true=>some [0,1,2,3,4,5,6,7]|false=>match Nat.beq id 500023 with|true=>some []|false=>none
theorem afd:A9 Tryz.prog (eO 49) JE (codeOf Tryz.f49)=true:=by kernel_rfl
section
variable{i2 i3 i4 i5:Sk.Id}{x c w:AV}{f:Int}
theorem ah2(call eu n)(s:List Ag)(cells:List Int)(hx:AR x s)(hc:fK c (cells.map Ad))(hlen:cells.length<=4096)(hne:i4≠i5){K:KC (Aq × AH)}{Q:Option (Aq × AH)->Prop}
  (hR:∀{i:Nat} {h:AH} {g0 g1 g2 g3 g6 g7 g8 g9 aA aB aC aD aE aF aG aH aI aJ aK aL aM aN aO aP aQ aR aS aT aU aV aW aX aY aZ bA bB bC bD bE bF bG bH bI bJ bK bL bM bN bO bP bQ bR bS bT bU bV bW bX bY bZ cD cE cF cG cH cI cJ cK cM cN cO cP cQ cS cT cU cV cW cX cY cZ dA dB dC dD dE dF dG dH dI dJ dK dL dM dN dO dP dQ dR dS dT dU dV dW dX dZ eD eE eF eG eH:AV},CR s.length cells 0=some i->h.get i4=some (.cells [.int .i64 20] 28)->h.get i5=some (.cells [.int .i64 i] 3)->Q (K .ret ⟨(g0::g1::g2::g3:: .ptr i4 0:: .ptr i5 0::g6::g7::g8::g9::aA::aB::aC::aD::aE::aF::aG::aH::aI::aJ::aK::aL::aM::aN::aO::aP::aQ::aR::aS::aT::aU::aV::aW::aX::aY::aZ::bA::bB::bC::bD::bE::bF::bG::bH::bI::bJ::bK::bL::bM::bN::bO::bP::bQ::bR::bS::bT::bU::bV::bW::bX::bY::bZ::cD::cE::cF::cG::cH::cI::cJ::cK::cM::cN::cO::cP::cQ::cS::cT::cU::cV::cW::cX::cY::cZ::dA::dB::dC::dD::dE::dF::dG::dH::dI::dJ::dK::dL::dM::dN::dO::dP::dQ::dR::dS::dT::dU::dV::dW::dX::dZ::eD::eE::eF::eG::eH::[]),[],h⟩))
  (hK:CR s.length cells 0=none->∀{h:AH} {g0 g1 g6 g7 g8 g9 aA aB aC aD aE aF aG aH aI aJ aK aL aM aN aO aP aQ aR aS aT aU aV aW aX aY aZ bA bB bC bD bE bF bG bH bI bJ bK bL bM bN bO bP bQ bR bS bT bU bV bW bX bY bZ cD cE cF cG cH cI cJ cK cM cN cO cP cQ cS cT cU cV cW cX cY cZ dA dB dC dD dE dF dG dH dI dJ dK dL dM dN dO dP dQ dR dS dT dU dV dW dX dZ eD eE eF eG eH:AV},Env i2 i3 i4 i5 x c w f h->Q (K (.exit 0) ⟨(g0::g1:: .ptr i2 0:: .ptr i3 0:: .ptr i4 0:: .ptr i5 0::g6::g7::g8::g9::aA::aB::aC::aD::aE::aF::aG::aH::aI::aJ::aK::aL::aM::aN::aO::aP::aQ::aR::aS::aT::aU::aV::aW::aX::aY::aZ::bA::bB::bC::bD::bE::bF::bG::bH::bI::bJ::bK::bL::bM::bN::bO::bP::bQ::bR::bS::bT::bU::bV::bW::bX::bY::bZ::cD::cE::cF::cG::cH::cI::cJ::cK::cM::cN::cO::cP::cQ::cS::cT::cU::cV::cW::cX::cY::cZ::dA::dB::dC::dD::dE::dF::dG::dH::dI::dJ::dK::dL::dM::dN::dO::dP::dQ::dR::dS::dT::dU::dV::dW::dX::dZ::eD::eE::eF::eG::eH::[]),[],h⟩)) :
  ∀(m i:Nat) {z:Int} {h:AH} {g0 g1 g6 g7 g8 g9 aA aB aC aD aE aF aG aH aI aJ aK aL aM aN aO aP aQ aR aS aT aU aV aW aX aY aZ bA bB bF bG bH bI bJ bK bL bM bN bO bP bQ bR bS bT bU bV bW bX bY bZ cD cE cF cG cH cI cJ cK cM cN cO cP cQ cS cT cU cV cW cX cY cZ dA dB dC dD dE dF dG dH dI dJ dK dL dM dN dO dP dQ dR dS dT dU dV dW dX dZ eD eE eF eG eH:AV},z=i->i<=cells.length->cells.length - i<m->Env i2 i3 i4 i5 x c w f h->CR s.length cells 0=CR s.length (cells.drop i) i->
  Q (DV (LB JE call eu n 49 Tryz.f49 0) m ⟨(g0::g1:: .ptr i2 0:: .ptr i3 0:: .ptr i4 0:: .ptr i5 0::g6::g7::g8::g9::aA::aB::aC::aD::aE::aF::aG::aH::aI::aJ::aK::aL::aM::aN::aO::aP::aQ::aR::aS::aT::aU::aV::aW::aX::aY::aZ::bA::bB::c:: .int .i64 cells.length:: .int .i64 z::bF::bG::bH::bI::bJ::bK::bL::bM::bN::bO::bP::bQ::bR::bS::bT::bU::bV::bW::bX::bY::bZ::cD::cE::cF::cG::cH::cI::cJ::cK::cM::cN::cO::cP::cQ::cS::cT::cU::cV::cW::cX::cY::cZ::dA::dB::dC::dD::dE::dF::dG::dH::dI::dJ::dK::dL::dM::dN::dO::dP::dQ::dR::dS::dT::dU::dV::dW::dX::dZ::eD::eE::eF::eG::eH::[]),[],h⟩ K):=by
 have u:Tryz.prog.underlying 23=some (.slice 3):=by kernel_rfl
 have u2:Tryz.prog.underlying 22=some (.slice 85):=by kernel_rfl
 have hl:=fun h=>Fx (X:=⟨Tryz.prog,eO,call⟩) (mu:=false) (h:=h) u2 hx
 rw[aaq]at hl
 intro m
 induction m with
 |zero=>intros;omega
 |succ m ih=>
  intro i z h g0 g1 g6 g7 g8 g9 aA aB aC aD aE aF aG aH aI aJ aK aL aM aN aO aP aQ aR aS aT aU aV aW aX aY aZ bA bB bF bG bH bI bJ bK bL bM bN bO bP bQ bR bS bT bU bV bW bX bY bZ cD cE cF cG cH cI cJ cK cM cN cO cP cQ cS cT cU cV cW cX cY cZ dA dB dC dD dE dF dG dH dI dJ dK dL dM dN dO dP dQ dR dS dT dU dV dW dX dZ eD eE eF eG eH hz hi hm hE hF
  rw[Bo]
  conv=>arg 1;whnf
  split
  ·rename_i hd
   have hlt:i<cells.length:=by simp at hd;omega
   have hdrop:cells.drop i=cells[i]::cells.drop (i+1):=adS hlt
   have hg:(cells.map Ad)[i]?=some (Ad cells[i]):=by rw[abG,aaj hlt];rfl
   have hidx:=fun h=>Ht (P:=Tryz.prog) (t:=23) (e:=3) (n:=1) (h:=h) (k:= .i64) u (by kernel_rfl) hc hz hg rfl
   rw[hdrop]at hF
   generalize cells[i]=g at hidx hF
   simp only[CR]at hF
   have lx:fF h (Ay Tryz.prog 22 (.ptr i2 0) h)=some (.ret x,h):=Bj (n:=1) hE.g2 (by kernel_rfl) (by kernel_rfl) rfl
   obtain⟨h',s4,s5,q4,q5⟩:=hE.fin hne 20 z
   conv=>arg 1;whnf
   refine Aa (hidx _) ?_
   conv=>arg 1;whnf
   cases e1:decide (g<0)
   ·conv=>arg 1;whnf
    refine Aa lx ?_
    conv=>arg 1;whnf
    refine Aa (hl _) ?_
    conv=>arg 1;whnf
    cases e2:decide (g>=(s.length:Int))
    ·conv=>arg 1;whnf
     refine ih (i+1) (by rw[hz];exact BS (by omega)) (by omega) (by omega) hE ?_
     rw[hF,if_neg (by simp at e1 e2;omega)]
    ·conv=>arg 1;whnf
     refine Aa s4 ?_
     conv=>arg 1;whnf
     refine Aa s5 ?_
     conv=>arg 1;whnf
     exact hR (by rw[hF,if_pos (.inr (by simpa using e2))]) q4 (by rw[<-hz];exact q5)
   ·conv=>arg 1;whnf
    refine Aa s4 ?_
    conv=>arg 1;whnf
    refine Aa s5 ?_
    conv=>arg 1;whnf
    exact hR (by rw[hF,if_pos (.inl (by simpa using e1))]) q4 (by rw[<-hz];exact q5)
  ·rename_i hd
   have hlt:¬i<cells.length:=by simp at hd;omega
   refine hK ?_ hE
   rw[hF,ajJ (by omega)];rfl
end
theorem LD{ox oy:Operand}(p q:Int × Int)(h:AH):fF h (FH Tryz.prog .eql 60 ox oy (Am p) (Am q))=some (.ret (.bool (p==q)),h):=by
 have e:FH Tryz.prog .eql 60 ox oy (Am p) (Am q)=(nT Tryz.prog 60 (Am p) (Am q)).map AV.bool:=by
  obtain⟨a,b⟩:=p
  obtain⟨c,d⟩:=q
  kernel_rfl
 rw[e,ZB]
 have:(p.1==q.1&&p.2==q.2)=(p==q):=rfl
 rw[this];rfl
section
variable{i2 i3 i4 i5 i11 r:Sk.Id}{x c w:AV}{f:Int}
structure Seen (i11 r:Sk.Id) (S:Sn) (h:AH):Prop where
 aB:h.get i11=some (.cells [.map r] 110)
 zB:i11.nat<h.next.nat
 gm:MapAt h r (SM S)
 lr:r.nat<h.next.nat
theorem Seen.keep{S:Sn}{h h':AH}(E:Seen i11 r S h)(hk:Kept h.next.nat h h'):Seen i11 r S h':=
 ⟨hk.1 _ _ E.aB E.zB,ajF E.zB hk.2,E.gm.keep fun o ho=>hk.1 _ _ ho E.lr,ajF E.lr hk.2⟩
theorem JI(h:AH)(o:AO):Kept h.next.nat h (h.alloc o):=(Kept.refl h).alloc o
theorem aio(call eu n)(s:List Ag)(cells:List Int)(wires:List Wr)(hw:fK w (wires.map Az))(hlen:wires.length<=1000000000)(hne:i4≠i5)(hr2:i2≠r)(hr3:i3≠r)(hr4:i4≠r)(hr5:i5≠r)(ai3:i11≠r)
  (h30:∀p h,Env i2 i3 i4 i5 x c w f h->call (.func 66) [Am p,.ptr i3 0,.ptr i2 0] h=some (.ret (.bool (Bw s cells f p)),h.alloc (.cells [.int .i64 p.1,.int .i64 p.2] 60)))
  (R:(Int × Int) ⊕ Sn) {K:KC (Aq × AH)} {Q:Option (Aq × AH)->Prop}
  (hR:∀{e a:Int} {h:AH} {g0 g1 g2 g3 g6 g7 g8 g9 aA aB aC aD aE aF aG aH aI aJ aK aL aM aN aO aP aQ aR aS aT aU aV aW aX aY aZ bA bB bC bD bE bF bG bH bI bJ bK bL bM bN bO bP bQ bR bS bT bU bV bW bX bY bZ cD cE cF cG cH cI cJ cK cM cN cO cP cQ cS cT cU cV cW cX cY cZ dA dB dC dD dE dF dG dH dI dJ dK dL dM dN dO dP dQ dR dS dT dU dV dW dX dZ eD eE eF eG eH:AV},R= .inl (e,a)->h.get i4=some (.cells [.int .i64 e] 28)->h.get i5=some (.cells [.int .i64 a] 3)->Q (K .ret ⟨(g0::g1::g2::g3:: .ptr i4 0:: .ptr i5 0::g6::g7::g8::g9::aA::aB::aC::aD::aE::aF::aG::aH::aI::aJ::aK::aL::aM::aN::aO::aP::aQ::aR::aS::aT::aU::aV::aW::aX::aY::aZ::bA::bB::bC::bD::bE::bF::bG::bH::bI::bJ::bK::bL::bM::bN::bO::bP::bQ::bR::bS::bT::bU::bV::bW::bX::bY::bZ::cD::cE::cF::cG::cH::cI::cJ::cK::cM::cN::cO::cP::cQ::cS::cT::cU::cV::cW::cX::cY::cZ::dA::dB::dC::dD::dE::dF::dG::dH::dI::dJ::dK::dL::dM::dN::dO::dP::dQ::dR::dS::dT::dU::dV::dW::dX::dZ::eD::eE::eF::eG::eH::[]),[],h⟩))
  (hK:∀{S:Sn} {h:AH} {g0 g1 g6 g7 g8 g9 aA aC aD aE aF aG aH aI aJ aK aL aM aN aO aP aQ aR aS aT aU aV aW aX aY aZ bA bB bC bD bE bF bG bH bI bJ bK bL bM bN bO bP bQ bR bS bT bU bV bW bX bY bZ cD cE cF cG cH cI cJ cK cM cN cO cP cQ cS cT cU cV cW cX cY cZ dA dB dC dD dE dF dG dH dI dJ dK dL dM dN dO dP dQ dR dS dT dU dV dW dX dZ eD eE eF eG eH:AV},R= .inr S->Env i2 i3 i4 i5 x c w f h->Seen i11 r S h->Q (K (.exit 2) ⟨(g0::g1:: .ptr i2 0:: .ptr i3 0:: .ptr i4 0:: .ptr i5 0::g6::g7::g8::g9::aA:: .ptr i11 0::aC::aD::aE::aF::aG::aH::aI::aJ::aK::aL::aM::aN::aO::aP::aQ::aR::aS::aT::aU::aV::aW::aX::aY::aZ::bA::bB::bC::bD::bE::bF::bG::bH::bI::bJ::bK::bL::bM::bN::bO::bP::bQ::bR::bS::bT::bU::bV::bW::bX::bY::bZ::cD::cE::cF::cG::cH::cI::cJ::cK::cM::cN::cO::cP::cQ::cS::cT::cU::cV::cW::cX::cY::cZ::dA::dB::dC::dD::dE::dF::dG::dH::dI::dJ::dK::dL::dM::dN::dO::dP::dQ::dR::dS::dT::dU::dV::dW::dX::dZ::eD::eE::eF::eG::eH::[]),[],h⟩)) :
  ∀(m i:Nat) {z:Int} {S:Sn} {h:AH} {g0 g1 g6 g7 g8 g9 aC aD aE aF aG aH aI aJ aK aL aM aN aO aP aQ aR aS aT aU aV aW aX aY aZ bA bB bC bD bE bF bG bH bI bJ bK bL bM bN bO bP bQ bR bS bT bU bV bZ cD cE cF cG cH cI cJ cK cM cN cO cP cQ cS cT cU cV cW cX cY cZ dA dB dC dD dE dF dG dH dI dJ dK dL dM dN dO dP dQ dR dS dT dU dV dW dX dZ eD eE eF eG eH:AV},z=i->i<=wires.length->wires.length - i<m->Env i2 i3 i4 i5 x c w f h->Seen i11 r S h->R=FB s cells f (wires.drop i) i S->
  Q (DV (LB JE call eu n 49 Tryz.f49 1) m ⟨(g0::g1:: .ptr i2 0:: .ptr i3 0:: .ptr i4 0:: .ptr i5 0::g6::g7::g8::g9:: .fn (.func 66) [] [.ptr i3 0,.ptr i2 0]:: .ptr i11 0::aC::aD::aE::aF::aG::aH::aI::aJ::aK::aL::aM::aN::aO::aP::aQ::aR::aS::aT::aU::aV::aW::aX::aY::aZ::bA::bB::bC::bD::bE::bF::bG::bH::bI::bJ::bK::bL::bM::bN::bO::bP::bQ::bR::bS::bT::bU::bV::w:: .int .i64 wires.length:: .int .i64 z::bZ::cD::cE::cF::cG::cH::cI::cJ::cK::cM::cN::cO::cP::cQ::cS::cT::cU::cV::cW::cX::cY::cZ::dA::dB::dC::dD::dE::dF::dG::dH::dI::dJ::dK::dL::dM::dN::dO::dP::dQ::dR::dS::dT::dU::dV::dW::dX::dZ::eD::eE::eF::eG::eH::[]),[],h⟩ K):=by
 have u:Tryz.prog.underlying 24=some (.slice 62):=by kernel_rfl
 have um:Tryz.prog.underlying 110=some (.map 60 4):=by kernel_rfl
 intro m
 induction m with
 |zero=>intros;omega
 |succ m ih=>
  intro i z S h g0 g1 g6 g7 g8 g9 aC aD aE aF aG aH aI aJ aK aL aM aN aO aP aQ aR aS aT aU aV aW aX aY aZ bA bB bC bD bE bF bG bH bI bJ bK bL bM bN bO bP bQ bR bS bT bU bV bZ cD cE cF cG cH cI cJ cK cM cN cO cP cQ cS cT cU cV cW cX cY cZ dA dB dC dD dE dF dG dH dI dJ dK dL dM dN dO dP dQ dR dS dT dU dV dW dX dZ eD eE eF eG eH hz hi hm hE hS hF
  rw[Bo]
  conv=>arg 1;whnf
  split
  ·rename_i hd
   have hlt:i<wires.length:=by simp at hd;omega
   have hdrop:wires.drop i=wires[i]::wires.drop (i+1):=adS hlt
   have hg:(wires.map Az)[i]?=some (Az wires[i]):=by rw[abG,aaj hlt];rfl
   have hidx:=fun h=>Ht (P:=Tryz.prog) (t:=24) (e:=62) (n:=4) (h:=h) (k:= .i64) u (by kernel_rfl) hw hz hg rfl
   rw[hdrop]at hF
   simp only[FB]at hF
   generalize wires[i]=ww at hidx hF
   obtain⟨a,b,c',d⟩:=ww
   replace hF:R=cond (!Bw s cells f (a,b)||!Bw s cells f (c',d)) (.inl (30,(i:Int))) (cond (S (a,b)||S (c',d)||((a,b)==(c',d))) (.inl (31,(i:Int))) (FB s cells f (wires.drop (i+1)) (i+1) (MH (MH S (a,b)) (c',d)))):=hF
   conv=>arg 1;whnf
   refine Aa (hidx _) ?_
   conv=>arg 1;whnf
   refine Aa (Cb (z:= .agg [.int .i64 0,.int .i64 0,.int .i64 0,.int .i64 0]) (cs:=[.int .i64 0,.int .i64 0,.int .i64 0,.int .i64 0]) (by kernel_rfl) rfl rfl) ?_
   conv=>arg 1;whnf
   have hst:=Lv (h:=h) (cs0:=[.int .i64 0,.int .i64 0,.int .i64 0,.int .i64 0]) (v:= .agg [.int .i64 a,.int .i64 b,.int .i64 c',.int .i64 d]) (cs:=[.int .i64 a,.int .i64 b,.int .i64 c',.int .i64 d]) (T:=62) (n:=4) (P:=Tryz.prog) (by kernel_rfl) rfl rfl rfl rfl
   refine Aa hst ?_
   obtain⟨hget,hnx,hkeep⟩:=Jd h [.int .i64 0,.int .i64 0,.int .i64 0,.int .i64 0] [.int .i64 a,.int .i64 b,.int .i64 c',.int .i64 d] 62
   have hk2:Kept h.next.nat h ((h.alloc (.cells [.int .i64 0,.int .i64 0,.int .i64 0,.int .i64 0] 62)).set h.next (.cells [.int .i64 a,.int .i64 b,.int .i64 c',.int .i64 d] 62)):=((Kept.refl h).alloc _).set _ (acu _)
   generalize ((h.alloc (.cells [.int .i64 0,.int .i64 0,.int .i64 0,.int .i64 0] 62)).set h.next (.cells [.int .i64 a,.int .i64 b,.int .i64 c',.int .i64 d] 62))=h2 at hget hnx hk2 ⊢
   have hE2:=hE.keep hk2
   have hS2:=hS.keep hk2
   have hpr:h.next≠r:=by rintro rfl;have:=hS.lr;omega
   have hpn:h.next.nat<h2.next.nat:=by omega
   clear hk2 hkeep hst
   generalize h.next=p at hget hpr hpn ⊢
   have lA:∀h',Kept h2.next.nat h2 h'->fF h' (Ay Tryz.prog 60 (.ptr p 0) h')=some (.ret (Am (a,b)),h'):=fun h' hk=>Dx (n:=2) (hk.1 _ _ hget hpn) (by kernel_rfl) (by kernel_rfl) (by simp)
   have lB:∀h',Kept h2.next.nat h2 h'->fF h' (Ay Tryz.prog 60 (.ptr p 2) h')=some (.ret (Am (c',d)),h'):=fun h' hk=>Dx (n:=2) (hk.1 _ _ hget hpn) (by kernel_rfl) (by kernel_rfl) (by simp)
   have err:∀(e:Int) (h':AH),Kept h2.next.nat h2 h'->R= .inl (e,(i:Int))->∃h4,iM (Ce Tryz.prog 28 (.ptr i4 0) (.int .i64 e) h')=some (.ret Aj,h'.set i4 (.cells [.int .i64 e] 28))/\
     iM (Ce Tryz.prog 3 (.ptr i5 0) (.int .i64 z) (h'.set i4 (.cells [.int .i64 e] 28)))=some (.ret Aj,h4)/\h4.get i4=some (.cells [.int .i64 e] 28)/\h4.get i5=some (.cells [.int .i64 (i:Int)] 3):=by
    intro e h' hk he
    have:=(hE2.keep hk).fin hne e z
    rw[<-hz];exact this
   conv=>arg 1;whnf
   refine Aa (lA h2 (Kept.refl h2)) ?_
   conv=>arg 1;whnf
   refine Aa (h30 (a,b) h2 hE2) ?_
   have k3:=JI h2 (.cells [.int .i64 a,.int .i64 b] 60)
   generalize hh3:h2.alloc (.cells [.int .i64 (a,b).1,.int .i64 (a,b).2] 60)=h3
   have k3:Kept h2.next.nat h2 h3:=by rw[<-hh3];exact k3
   clear hh3
   conv=>arg 1;whnf
   cases e1:Bw s cells f (a,b)
   ·conv=>arg 1;whnf
    obtain⟨h4,s4,s5,q4,q5⟩:=err 30 h3 k3 (by rw[hF];simp[e1])
    refine Aa s4 ?_
    conv=>arg 1;whnf
    refine Aa s5 ?_
    conv=>arg 1;whnf
    exact hR (by rw[hF];simp[e1]) q4 q5
   conv=>arg 1;whnf
   refine Aa (lB h3 k3) ?_
   conv=>arg 1;whnf
   refine Aa (h30 (c',d) h3 (hE2.keep k3)) ?_
   have k4:Kept h2.next.nat h2 (h3.alloc (.cells [.int .i64 (c',d).1,.int .i64 (c',d).2] 60)):=k3.alloc _
   generalize h3.alloc (.cells [.int .i64 (c',d).1,.int .i64 (c',d).2] 60)=h4 at k4 ⊢
   conv=>arg 1;whnf
   cases e2:Bw s cells f (c',d)
   ·conv=>arg 1;whnf
    obtain⟨h5,s4,s5,q4,q5⟩:=err 30 h4 k4 (by rw[hF];simp[e1,e2])
    refine Aa s4 ?_
    conv=>arg 1;whnf
    refine Aa s5 ?_
    conv=>arg 1;whnf
    exact hR (by rw[hF];simp[e1,e2]) q4 q5
   have tF:=hE2.keep k4
   have qU:=hS2.keep k4
   have lm:fF h4 (Ay Tryz.prog 110 (.ptr i11 0) h4)=some (.ret (.map r),h4):=Bj (n:=1) qU.aB (by kernel_rfl) (by kernel_rfl) rfl
   have lkA:=OG (h:=h4) um (z:= .bool false) (by kernel_rfl) qU.gm (a,b)
   have lkB:=OG (h:=h4) um (z:= .bool false) (by kernel_rfl) qU.gm (c',d)
   rw[acO]at lkA lkB
   simp only[e1,e2,alh,Bool.or_self,cond_false]at hF
   conv=>arg 1;whnf
   refine Aa lm ?_
   conv=>arg 1;whnf
   refine Aa (lA h4 k4) ?_
   conv=>arg 1;whnf
   refine Aa lkA ?_
   conv=>arg 1;whnf
   cases e3:S (a,b)
   case true=>
    conv=>arg 1;whnf
    obtain⟨h5,s4,s5,q4,q5⟩:=err 31 h4 k4 (by rw[hF];simp[e3])
    refine Aa s4 ?_
    conv=>arg 1;whnf
    refine Aa s5 ?_
    conv=>arg 1;whnf
    exact hR (by rw[hF];simp[e3]) q4 q5
   conv=>arg 1;whnf
   refine Aa lm ?_
   conv=>arg 1;whnf
   refine Aa (lB h4 k4) ?_
   conv=>arg 1;whnf
   refine Aa lkB ?_
   conv=>arg 1;whnf
   cases e4:S (c',d)
   case true=>
    conv=>arg 1;whnf
    obtain⟨h5,s4,s5,q4,q5⟩:=err 31 h4 k4 (by rw[hF];simp[e4])
    refine Aa s4 ?_
    conv=>arg 1;whnf
    refine Aa s5 ?_
    conv=>arg 1;whnf
    exact hR (by rw[hF];simp[e4]) q4 q5
   conv=>arg 1;whnf
   refine Aa (lA h4 k4) ?_
   conv=>arg 1;whnf
   refine Aa (lB h4 k4) ?_
   conv=>arg 1;whnf
   refine Aa (LD (a,b) (c',d) h4) ?_
   conv=>arg 1;whnf
   cases e5:((a,b)==(c',d))
   case true=>
    conv=>arg 1;whnf
    obtain⟨h5,s4,s5,q4,q5⟩:=err 31 h4 k4 (by rw[hF];simp only[e5,Bool.or_true,cond_true])
    refine Aa s4 ?_
    conv=>arg 1;whnf
    refine Aa s5 ?_
    conv=>arg 1;whnf
    exact hR (by rw[hF];simp only[e5,Bool.or_true,cond_true]) q4 q5
   simp only[e3,e4,e5,Bool.or_self,cond_false]at hF
   obtain⟨o1,hu1,hM1⟩:=NG um qU.gm (a,b) (.bool true)
   obtain⟨o2,hu2,hM2⟩:=NG um hM1 (c',d) (.bool true)
   repeat' (first
    |refine Aa lm ?_
    |refine Aa (lA h4 k4) ?_
    |refine Aa (lB h4 k4) ?_
    |refine Aa hu1 ?_
    |refine Aa hu2 ?_
    |(conv=>arg 1;whnf;done))
   conv=>arg 1;whnf
   have ai4:MapAt ((h4.set r o1).set r o2) r (SM (MH (MH S (a,b)) (c',d))):=by
    rw[<-abu,<-abu];exact hM2
   have hset:∀q o,h4.get q=some o->q≠r->((h4.set r o1).set r o2).get q=some o:=fun q o hq hne=>by rw[AH.ak,if_neg hne,AH.ak,if_neg hne];exact hq
   obtain⟨v4,g4⟩:=tF.g4
   obtain⟨v5,g5⟩:=tF.g5
   refine ih (i+1) (by rw[hz];exact BS (by omega)) (by omega) (by omega)
    ⟨hset _ _ tF.g2 hr2,hset _ _ tF.g3 hr3,⟨v4,hset _ _ g4 hr4⟩,⟨v5,hset _ _ g5 hr5⟩,tF.l2,tF.l3,tF.l4,tF.l5⟩
    ⟨hset _ _ qU.aB ai3,qU.zB,ai4,qU.lr⟩ hF
  ·rename_i hd
   have hlt:¬i<wires.length:=by simp at hd;omega
   refine hK ?_ hE hS
   rw[hF,ajJ (by omega)];rfl
end
theorem ab5{X:Cx}{fn:FuncId}{ops:Array Oper}{s:gB}{r:Bl × gB}(h:drawn X fn ops s=some r):r.2.df=s.df:=by
 unfold drawn at h
 split at h
 ·cases h
 ·split at h
  ·cases h
  ·split at h
   ·simp only[aai]at h;subst h;rfl
   ·cases h
theorem aas{X:Cx}{eu:Nat->Array Oper->gB->Option (Bl × gB)}{fn:FuncId}{rd:Option Sk.Id}{n:Nat}(hr:∀id ops s r,eu id ops s=some r->r.2.df=s.df) :
  ∀(c:Code) (s:gB) (r:Bl × gB),Gb c=true->AB X eu fn rd n c s=some r->r.2.df=s.df:=by
 intro c
 induction c with
 |skip=>intro s r _ h;simp only[AB,aai]at h;subst h;rfl
 |label l=>intro s r _ h;simp only[AB,aai]at h;subst h;rfl
 |exit i=>intro s r _ h;simp only[AB,aai]at h;subst h;rfl
 |ret=>intro s r _ h;simp only[AB,aai]at h;subst h;rfl
 |goto l=>intro s r _ h;simp only[AB]at h;cases h
 |refuse l=>intro s r _ h;simp only[AB]at h;cases h
 |rangeFunc f ps a b _ _=>intro s r hn;cases hn
 |region id ops draw=>
  intro s r _ h
  simp only[AB]at h
  split at h
  ·exact hr _ _ _ _ h
  ·exact(Ko h).2
 |seq a b iha ihb=>
  intro s r hn h
  simp only[Gb,aci]at hn
  simp only[AB,Xy]at h
  split at h
  ·rename_i s' he
   rw[ihb _ _ hn.2 h,iha _ _ hn.1 he]
  ·exact iha _ _ hn.1 h
 |cond c t e wP wQ=>
  intro s r hn h
  simp only[Gb,aci]at hn
  simp only[AB]at h
  split at h
  ·exact wP _ _ hn.1 h
  ·exact wQ _ _ hn.2 h
  ·cases h
 |block id b ih=>
  intro s r hn h
  simp only[AB,outBlock]at h
  split at h
  ·rename_i i s' he
   have:=ih _ _ hn he
   split at h
   ·simp only[aai]at h;subst h;exact this
   ·simp only[aai]at h;subst h;exact this
  ·exact ih _ _ hn h
 |loop b ih=>
  intro s r hn h
  simp only[AB]at h
  have key:∀m s r,iter (AB X eu fn rd n b) m s=some r->r.2.df=s.df:=by
   intro m
   induction m with
   |zero=>intro s r h;cases h
   |succ m im=>
    intro s r h
    simp only[iter]at h
    split at h
    ·rename_i s' he
     rw[im _ _ h,ih _ _ hn he]
    ·exact ih _ _ hn h
  exact key n s r h
 |scope b ih=>intro s r hn h;exact ih s r hn h
def ranges:Code->List (Code × Code)
 | .seq a b=>ranges a++ranges b
 | .cond _ a b=>ranges a++ranges b
 | .block _ b=>ranges b
 | .loop b=>ranges b
 | .scope b=>ranges b
 | .rangeFunc _ _ a b=>[(a,b)]
 |_=>[]
def Ep(c:Code)(i:Nat):Code:=((ranges c).getD i (.skip,.skip)).1
def Ey(c:Code)(i:Nat):Code:=((ranges c).getD i (.skip,.skip)).2
noncomputable def cR(P:Program)(mu:FuncId->Nat->Bool)(call:AA)(eu:ZU)(tab:Nat->Option (List Nat))(n:Nat)(l:Sk.Id)(fn:FuncId)(a b:Code)(tm:List AV)(h:AH):Option (Aq × AH):=
 KD ⟨P,mu,call⟩ eu fn tab (some l) n a ⟨tm,[],h⟩ fun x s=>
  match x with
  | .normal=>(match s with|⟨tm,_,h⟩=>ko l h fun h2=>KD ⟨P,mu,call⟩ eu fn tab (some l) n b ⟨tm,[],h2⟩ fun x s=>jm l x s)
  |_=>none
theorem NN{hk:Ar}(tab:Nat->Option (List Nat)){n:Nat}{l:Sk.Id}{st:LoopState}{pd:Option Code}{fn:FuncId}{tm mq:List AV}{ps:Array Tmp}{a b:Code}{d:Sk.Id}{args:List AV}{h:AH}{y:Aq × AH}
  (hg:h.get l=some (.loop st pd fn tm ps a b d)) (hl:args.length=ps.size) (nV:A9 Tryz.prog (eO fn) tab a=true) (htb:A9 Tryz.prog (eO fn) tab b=true) (hna:Gb a=true) (hset:BO tm ps.toList args=mq)
  (hv:cR Tryz.prog eO (Ah (Ak Tryz.prog eO hk) n) (rg Tryz.prog eO hk n fn) tab n l fn a b mq h=some y):Ah (Ak Tryz.prog eO hk) (n+1) (.yield l) args h=some y:=
 Vy tab hg hl nV htb (fun x s he=>aas (fun _ _ _ _ h=>ab5 h) a _ _ hna he) (by
  subst hset
  unfold YQ
  rw[L8]
  exact hv)
section
variable{i2 i3 i4 i5 i11 r b2 b3 l d:Sk.Id}{x c w:AV}{f:Int}
structure o8 (i2 i3 i4 i5 i11 r b2 b3 l d:Sk.Id) (x c w:AV) (f:Int) (S:Sn) (tm:List AV) (h:AH):Prop where
 env:Env i2 i3 i4 i5 x c w f h
 seen:Seen i11 r S h
 pg:Es b2 b3 x c w f h
 gl:h.get l=some (.loop .ready none 49 tm #[106,107] (Ep (codeOf Tryz.f49) 0) (Ey (codeOf Tryz.f49) 0) d)
 gd:h.get d=some (.defs true)
 lb2:b2.nat<h.next.nat
 lb3:b3.nat<h.next.nat
 ll:l.nat<h.next.nat
 ld:d.nat<h.next.nat
theorem Ki{l:Sk.Id}{st st':LoopState}{pd oh:Option Code}{fn:FuncId}{tm:List AV}{ps:Array Tmp}{a b:Code}{d:Sk.Id}{h:AH}{g:LoopState->Option Code->Option (LoopState × Option Code)}
  (hg:h.get l=some (.loop st pd fn tm ps a b d)) (hf:g st pd=some (st',oh)):Dw l g h=some (h.set l (.loop st' oh fn tm ps a b d)):=by
 simp only[Dw,hg,hf]
theorem y16(call eu n)(S:Sn)(p:Int × Int)(i:Int)(h:AH)(gY:List AV){g0 g1 g2 g3 g6 g7 g8 g9 aA aC aD aE aF aG aH aI aJ aK aL aM aN aO aP aQ aR aS aT aU aV aW aX aY aZ bA bB bC bD bE bF bG bH bI bJ bK bL bM bN bO bP bQ bR bS bT bU bV bW bX bY bZ cD cE cF cG cH cI cJ cK cM cN cO cP cQ cS cT cU cV cW cX cY cZ dA dB dC dD dE dF dG dH dI dJ dK dL dM dN dO dP dQ dR dS dT dU dV dW eD eE eF eG eH:AV}(hR:o8 i2 i3 i4 i5 i11 r b2 b3 l d x c w f S gY h)
  (n45:i4≠i5) (nl:l≠i2/\l≠i3/\l≠i4/\l≠i5/\l≠i11/\l≠r/\l≠b2/\l≠b3/\l≠d) (nd:d≠i4/\d≠i5) :
  (S p=true->∃h',cR Tryz.prog eO call eu JE n l 49 (Ep (codeOf Tryz.f49) 0) (Ey (codeOf Tryz.f49) 0) (g0::g1::g2::g3:: .ptr i4 0:: .ptr i5 0::g6::g7::g8::g9::aA:: .ptr i11 0::aC::aD::aE::aF::aG::aH::aI::aJ::aK::aL::aM::aN::aO::aP::aQ::aR::aS::aT::aU::aV::aW::aX::aY::aZ::bA::bB::bC::bD::bE::bF::bG::bH::bI::bJ::bK::bL::bM::bN::bO::bP::bQ::bR::bS::bT::bU::bV::bW::bX::bY::bZ::cD::cE::cF::cG::cH::cI::cJ::cK::cM::cN::cO::cP::cQ::cS::cT::cU::cV::cW::cX::cY::cZ::dA::dB::dC::dD::dE::dF::dG::dH::dI::dJ::dK::dL::dM::dN::dO::dP::dQ::dR::dS::dT::dU::dV::dW:: .int .i64 i::Am p::eD::eE::eF::eG::eH::[]) h=some (.ret (.bool true),h')/\
   o8 i2 i3 i4 i5 i11 r b2 b3 l d x c w f S gY h')/\
  (S p=false->∃h',cR Tryz.prog eO call eu JE n l 49 (Ep (codeOf Tryz.f49) 0) (Ey (codeOf Tryz.f49) 0) (g0::g1::g2::g3:: .ptr i4 0:: .ptr i5 0::g6::g7::g8::g9::aA:: .ptr i11 0::aC::aD::aE::aF::aG::aH::aI::aJ::aK::aL::aM::aN::aO::aP::aQ::aR::aS::aT::aU::aV::aW::aX::aY::aZ::bA::bB::bC::bD::bE::bF::bG::bH::bI::bJ::bK::bL::bM::bN::bO::bP::bQ::bR::bS::bT::bU::bV::bW::bX::bY::bZ::cD::cE::cF::cG::cH::cI::cJ::cK::cM::cN::cO::cP::cQ::cS::cT::cU::cV::cW::cX::cY::cZ::dA::dB::dC::dD::dE::dF::dG::dH::dI::dJ::dK::dL::dM::dN::dO::dP::dQ::dR::dS::dT::dU::dV::dW:: .int .i64 i::Am p::eD::eE::eF::eG::eH::[]) h=some (.ret (.bool false),h')/\
   h'.get i4=some (.cells [.int .i64 32] 28)/\h'.get i5=some (.cells [.int .i64 i] 3)/\h'.get l=some (.loop .done (some .ret) 49 gY #[106,107] (Ep (codeOf Tryz.f49) 0) (Ey (codeOf Tryz.f49) 0) d)/\h'.get d=some (.defs true)):=by
 have um:Tryz.prog.underlying 110=some (.map 60 4):=by kernel_rfl
 obtain⟨p1,p2⟩:=p
 obtain⟨m1,m2,m3,m4,m5,m6,m7,m8,m9⟩:=nl
 have hst:=Lv (h:=h) (cs0:=[.int .i64 0,.int .i64 0]) (v:=Am (p1,p2)) (cs:=[.int .i64 p1,.int .i64 p2]) (T:=60) (n:=2) (P:=Tryz.prog) (by kernel_rfl) rfl rfl rfl rfl
 obtain⟨hget,hnx,hkeep⟩:=Jd h [.int .i64 0,.int .i64 0] [.int .i64 p1,.int .i64 p2] 60
 have hk2:Kept h.next.nat h ((h.alloc (.cells [.int .i64 0,.int .i64 0] 60)).set h.next (.cells [.int .i64 p1,.int .i64 p2] 60)):=((Kept.refl h).alloc _).set _ (acu _)
 suffices hq:∀Q:Option (Aq × AH)->Prop,
   (S (p1,p2)=true->∀h',o8 i2 i3 i4 i5 i11 r b2 b3 l d x c w f S gY h'->Q (some (.ret (.bool true),h')))->
   (S (p1,p2)=false->∀h',h'.get i4=some (.cells [.int .i64 32] 28)->h'.get i5=some (.cells [.int .i64 i] 3)->h'.get l=some (.loop .done (some .ret) 49 gY #[106,107] (Ep (codeOf Tryz.f49) 0) (Ey (codeOf Tryz.f49) 0) d)->h'.get d=some (.defs true)->Q (some (.ret (.bool false),h')))->
   Q (cR Tryz.prog eO call eu JE n l 49 (Ep (codeOf Tryz.f49) 0) (Ey (codeOf Tryz.f49) 0) (g0::g1::g2::g3:: .ptr i4 0:: .ptr i5 0::g6::g7::g8::g9::aA:: .ptr i11 0::aC::aD::aE::aF::aG::aH::aI::aJ::aK::aL::aM::aN::aO::aP::aQ::aR::aS::aT::aU::aV::aW::aX::aY::aZ::bA::bB::bC::bD::bE::bF::bG::bH::bI::bJ::bK::bL::bM::bN::bO::bP::bQ::bR::bS::bT::bU::bV::bW::bX::bY::bZ::cD::cE::cF::cG::cH::cI::cJ::cK::cM::cN::cO::cP::cQ::cS::cT::cU::cV::cW::cX::cY::cZ::dA::dB::dC::dD::dE::dF::dG::dH::dI::dJ::dK::dL::dM::dN::dO::dP::dQ::dR::dS::dT::dU::dV::dW:: .int .i64 i::Am (p1,p2)::eD::eE::eF::eG::eH::[]) h)by
  constructor
  ·intro hS
   exact hq (fun y=> ∃h',y=some (.ret (.bool true),h')/\o8 i2 i3 i4 i5 i11 r b2 b3 l d x c w f S gY h') (fun _ h' h1=>⟨h',rfl,h1⟩) (fun h0=>by rw[hS]at h0;cases h0)
  ·intro hS
   exact hq (fun y=> ∃h',y=some (.ret (.bool false),h')/\h'.get i4=some (.cells [.int .i64 32] 28)/\h'.get i5=some (.cells [.int .i64 i] 3)/\h'.get l=some (.loop .done (some .ret) 49 gY #[106,107] (Ep (codeOf Tryz.f49) 0) (Ey (codeOf Tryz.f49) 0) d)/\h'.get d=some (.defs true)) (fun h0=>by rw[hS]at h0;cases h0) (fun _ h' h1 h2 h3 h4=>⟨h',rfl,h1,h2,h3,h4⟩)
 intro Q hT hFa
 conv=>arg 1;whnf
 refine Aa (Cb (z:= .agg [.int .i64 0,.int .i64 0]) (cs:=[.int .i64 0,.int .i64 0]) (by kernel_rfl) rfl rfl) ?_
 conv=>arg 1;whnf
 refine Aa hst ?_
 generalize ((h.alloc (.cells [.int .i64 0,.int .i64 0] 60)).set h.next (.cells [.int .i64 p1,.int .i64 p2] 60))=h2 at hget hnx hk2 ⊢
 have yL:h.next≠l:=by rintro e;have:=hR.ll;rw[<-e]at this;omega
 have ai5:h.next.nat<h2.next.nat:=by omega
 clear hst hkeep
 have hE:=hR.env.keep hk2
 have hS:=hR.seen.keep hk2
 have gl:=hk2.1 _ _ hR.gl hR.ll
 have gd:=hk2.1 _ _ hR.gd hR.ld
 have rZ:=hk2.1 _ _ hR.pg.g2 hR.lb2
 have zC:=hk2.1 _ _ hR.pg.g3 hR.lb3
 have lb2:=ajF hR.lb2 hk2.2
 have lb3:=ajF hR.lb3 hk2.2
 have ll:=ajF hR.ll hk2.2
 have ld:=ajF hR.ld hk2.2
 generalize h.next=q at hget yL ai5 ⊢
 conv=>arg 1;whnf
 refine SF (Ki (st':= .busy) (oh:=none) gl rfl) ?_
 generalize hh3:h2.set l (.loop .busy none 49 gY #[106,107] (Ep (codeOf Tryz.f49) 0) (Ey (codeOf Tryz.f49) 0) d)=h3
 have k3:∀q' o,h2.get q'=some o->q'≠l->h3.get q'=some o:=fun q' o hq hne=>by rw[<-hh3,AH.ak,if_neg hne];exact hq
 have gl3:h3.get l=some (.loop .busy none 49 gY #[106,107] (Ep (codeOf Tryz.f49) 0) (Ey (codeOf Tryz.f49) 0) d):=by rw[<-hh3,AH.ak,if_pos rfl]
 have n3:h3.next=h2.next:=by rw[<-hh3];rfl
 clear hh3
 have lm:fF h3 (Ay Tryz.prog 110 (.ptr i11 0) h3)=some (.ret (.map r),h3):=Bj (n:=1) (k3 _ _ hS.aB m5.symm) (by kernel_rfl) (by kernel_rfl) rfl
 have lp:fF h3 (Ay Tryz.prog 60 (.ptr q 0) h3)=some (.ret (Am (p1,p2)),h3):=Dx (n:=2) (k3 _ _ hget yL) (by kernel_rfl) (by kernel_rfl) (by simp)
 have gm3:MapAt h3 r (SM S):=hS.gm.keep fun o ho=>k3 _ _ ho m6.symm
 have lk:=OG (h:=h3) um (z:= .bool false) (by kernel_rfl) gm3 (p1,p2)
 rw[acO]at lk
 conv=>arg 1;whnf
 refine Aa lm ?_
 conv=>arg 1;whnf
 refine Aa lp ?_
 conv=>arg 1;whnf
 refine Aa lk ?_
 conv=>arg 1;whnf
 obtain⟨v4,g4⟩:=hE.g4
 obtain⟨v5,g5⟩:=hE.g5
 cases e1:S (p1,p2)
 ·conv=>arg 1;whnf
  have E3:Env i2 i3 i4 i5 x c w f h3:=⟨k3 _ _ hE.g2 m1.symm,k3 _ _ hE.g3 m2.symm,⟨v4,k3 _ _ g4 m3.symm⟩,⟨v5,k3 _ _ g5 m4.symm⟩,by rw[n3];exact hE.l2,by rw[n3];exact hE.l3,by rw[n3];exact hE.l4,by rw[n3];exact hE.l5⟩
  have s4:iM (Ce Tryz.prog 28 (.ptr i4 0) (.int .i64 32) h3)=some (.ret Aj,h3.set i4 (.cells [.int .i64 32] 28)):=EC (n:=1) (k3 _ _ g4 m3.symm) (by kernel_rfl) rfl (by simp) rfl
  have g5':(h3.set i4 (.cells [.int .i64 32] 28)).get i5=some (.cells [v5] 3):=by rw[AH.ak,if_neg n45.symm];exact k3 _ _ g5 m4.symm
  have s5:iM (Ce Tryz.prog 3 (.ptr i5 0) (.int .i64 i) (h3.set i4 (.cells [.int .i64 32] 28)))=some (.ret Aj,(h3.set i4 (.cells [.int .i64 32] 28)).set i5 (.cells [.int .i64 i] 3)):=EC (n:=1) g5' (by kernel_rfl) rfl (by simp) rfl
  refine Aa s4 ?_
  conv=>arg 1;whnf
  refine Aa s5 ?_
  conv=>arg 1;whnf
  have gl5:((h3.set i4 (.cells [.int .i64 32] 28)).set i5 (.cells [.int .i64 i] 3)).get l=some (.loop .busy none 49 gY #[106,107] (Ep (codeOf Tryz.f49) 0) (Ey (codeOf Tryz.f49) 0) d):=by
   rw[AH.ak,if_neg m4,AH.ak,if_neg m3];exact gl3
  have gd5:((h3.set i4 (.cells [.int .i64 32] 28)).set i5 (.cells [.int .i64 i] 3)).get d=some (.defs true):=by
   rw[AH.ak,if_neg nd.2,AH.ak,if_neg nd.1];exact k3 _ _ gd m9.symm
  refine LQ (y:=some (.ret (.bool false),((h3.set i4 (.cells [.int .i64 32] 28)).set i5 (.cells [.int .i64 i] 3)).set l (.loop .done (some .ret) 49 gY #[106,107] (Ep (codeOf Tryz.f49) 0) (Ey (codeOf Tryz.f49) 0) d))) ?_ ?_
  ·simp only[Ei]
   rw[Ki (st':= .done) (oh:=some .ret) gl5 rfl]
  ·refine hFa e1 _ ?_ ?_ (by rw[AH.ak,if_pos rfl]) (by rw[AH.ak,if_neg m9.symm];exact gd5)
   ·rw[AH.ak,if_neg m3.symm,AH.ak,if_neg n45,AH.ak,if_pos rfl]
   ·rw[AH.ak,if_neg m4.symm,AH.ak,if_pos rfl]
 ·conv=>arg 1;whnf
  refine LQ (y:=some (.ret (.bool true),h3.set l (.loop .ready none 49 gY #[106,107] (Ep (codeOf Tryz.f49) 0) (Ey (codeOf Tryz.f49) 0) d))) ?_ ?_
  ·simp only[Ei]
   rw[Ki (st':= .ready) (oh:=none) gl3 rfl]
  ·have k4:∀q' o,h2.get q'=some o->q'≠l->(h3.set l (.loop .ready none 49 gY #[106,107] (Ep (codeOf Tryz.f49) 0) (Ey (codeOf Tryz.f49) 0) d)).get q'=some o:=fun q' o hq hne=>by rw[AH.ak,if_neg hne];exact k3 q' o hq hne
   have n4:(h3.set l (.loop .ready none 49 gY #[106,107] (Ep (codeOf Tryz.f49) 0) (Ey (codeOf Tryz.f49) 0) d)).next=h2.next:=by rw[AH.fP];exact n3
   have gl4:(h3.set l (.loop .ready none 49 gY #[106,107] (Ep (codeOf Tryz.f49) 0) (Ey (codeOf Tryz.f49) 0) d)).get l=some (.loop .ready none 49 gY #[106,107] (Ep (codeOf Tryz.f49) 0) (Ey (codeOf Tryz.f49) 0) d):=by rw[AH.ak,if_pos rfl]
   generalize (h3.set l (.loop .ready none 49 gY #[106,107] (Ep (codeOf Tryz.f49) 0) (Ey (codeOf Tryz.f49) 0) d))=h4 at k4 n4 gl4 ⊢
   refine hT e1 h4 ⟨⟨k4 _ _ hE.g2 m1.symm,k4 _ _ hE.g3 m2.symm,⟨v4,k4 _ _ g4 m3.symm⟩,⟨v5,k4 _ _ g5 m4.symm⟩,by rw[n4];exact hE.l2,by rw[n4];exact hE.l3,by rw[n4];exact hE.l4,by rw[n4];exact hE.l5⟩,
    ⟨k4 _ _ hS.aB m5.symm,by rw[n4];exact hS.zB,hS.gm.keep fun o ho=>k4 _ _ ho m6.symm,by rw[n4];exact hS.lr⟩,
    ⟨k4 _ _ rZ m7.symm,k4 _ _ zC m8.symm⟩,gl4,k4 _ _ gd m9.symm,by rw[n4];exact lb2,by rw[n4];exact lb3,by rw[n4];exact ll,by rw[n4];exact ld⟩
end
section
variable{i2 i3 i4 i5 i11 r b2 b3 l d:Sk.Id}{x c w:AV}{f:Int}
abbrev adM(i4 i5 l d:Sk.Id)(tm:List AV)(e a:Int)(h:AH):Prop:=
 h.get i4=some (.cells [.int .i64 e] 28)/\h.get i5=some (.cells [.int .i64 a] 3)/\h.get l=some (.loop .done (some .ret) 49 tm #[106,107] (Ep (codeOf Tryz.f49) 0) (Ey (codeOf Tryz.f49) 0) d)/\h.get d=some (.defs true)
theorem ad8{iR:AA}{S:Sn}{gY:List AV}
  (Hy:∀(p:Int × Int) (i:Nat) (h:AH),o8 i2 i3 i4 i5 i11 r b2 b3 l d x c w f S gY h->
   (S p=true->∃h',iR (.yield l) [.int .i64 i,Am p] h=some (.ret (.bool true),h')/\o8 i2 i3 i4 i5 i11 r b2 b3 l d x c w f S gY h')/\
   (S p=false->∃h',iR (.yield l) [.int .i64 i,Am p] h=some (.ret (.bool false),h')/\adM i4 i5 l d gY 32 i h')) :
  ∀(ps:List (Int × Int)) (i:Nat) (h:AH),o8 i2 i3 i4 i5 i11 r b2 b3 l d x c w f S gY h->∃h',NY iR l (Es b2 b3 x c w f) i ps h h'/\
   ((IJ S ps i=(0,0)/\o8 i2 i3 i4 i5 i11 r b2 b3 l d x c w f S gY h')\/∃k:Nat,IJ S ps i=(32,(k:Int))/\adM i4 i5 l d gY 32 k h')
 |[],i,h,hR=>⟨h,.nil _ _,.inl ⟨rfl,hR⟩⟩
 |p::ps,i,h,hR=>by
  obtain⟨h1,h2⟩:=Hy p i h hR
  cases hS:S p with
  |true=>
   obtain⟨h',hc,hR'⟩:=h1 hS
   obtain⟨h'',hY,hres⟩:=ad8 Hy ps (i+1) h' hR'
   refine⟨h'',.cons hc hR'.pg hY,?_⟩
   simp only[IJ,hS,Bool.true_eq_false,if_false]
   exact hres
  |false=>
   obtain⟨h',hc,hT⟩:=h2 hS
   refine⟨h',.stop hc,.inr ⟨i,?_,hT⟩⟩
   simp only[IJ,hS,if_true]
theorem Zm{e a:Int}{tm:List AV}{h:AH}{g0 g1 g2 g3 g6 g7 g8 g9 aA aB aC aD aE aF aG aH aI aJ aK aL aM aN aO aP aQ aR aS aT aU aV aW aX aY aZ bA bB bC bD bE bF bG bH bI bJ bK bL bM bN bO bP bQ bR bS bT bU bV bW bX bY bZ cD cE cF cG cH cI cJ cK cM cN cO cP cQ cS cT cU cV cW cX cY cZ dA dB dC dD dE dF dG dH dI dJ dK dL dM dN dO dP dQ dR dS dT dU dV dW dX dZ eD eE eF eG eH:AV}(g4:h.get i4=some (.cells [.int .i64 e] 28))(g5:h.get i5=some (.cells [.int .i64 a] 3)):Cc Tryz.prog (g0::g1::g2::g3:: .ptr i4 0:: .ptr i5 0::g6::g7::g8::g9::aA::aB::aC::aD::aE::aF::aG::aH::aI::aJ::aK::aL::aM::aN::aO::aP::aQ::aR::aS::aT::aU::aV::aW::aX::aY::aZ::bA::bB::bC::bD::bE::bF::bG::bH::bI::bJ::bK::bL::bM::bN::bO::bP::bQ::bR::bS::bT::bU::bV::bW::bX::bY::bZ::cD::cE::cF::cG::cH::cI::cJ::cK::cM::cN::cO::cP::cQ::cS::cT::cU::cV::cW::cX::cY::cZ::dA::dB::dC::dD::dE::dF::dG::dH::dI::dJ::dK::dL::dM::dN::dO::dP::dQ::dR::dS::dT::dU::dV::dW::dX::dZ::eD::eE::eF::eG::eH::[]) h Tryz.f49.results.toList=some [.int .i64 e,.int .i64 a]:=by
 have h4:Ay Tryz.prog 28 (.ptr i4 0) h=some (.int .i64 e):=by
  have:=Bj (P:=Tryz.prog) (t:=28) (n:=1) (off:=0) (v:= .int .i64 e) g4 (by kernel_rfl) (by kernel_rfl) rfl
  cases hv:Ay Tryz.prog 28 (.ptr i4 0) h with
  |none=>rw[hv]at this;cases this
  |some v=>rw[hv]at this;simp only[fF,aai,abW,Aq.ret.injEq]at this;rw[this.1]
 have h5:Ay Tryz.prog 3 (.ptr i5 0) h=some (.int .i64 a):=by
  have:=Bj (P:=Tryz.prog) (t:=3) (n:=1) (off:=0) (v:= .int .i64 a) g5 (by kernel_rfl) (by kernel_rfl) rfl
  cases hv:Ay Tryz.prog 3 (.ptr i5 0) h with
  |none=>rw[hv]at this;cases this
  |some v=>rw[hv]at this;simp only[fF,aai,abW,Aq.ret.injEq]at this;rw[this.1]
 show(match Ay Tryz.prog 28 (.ptr i4 0) h,(match Ay Tryz.prog 3 (.ptr i5 0) h,some ([]:List AV)with|some v,some l=>some (v::l)|_,_=>none)with|some v,some l=>some (v::l)|_,_=>none)=_
 rw[h4,h5]
theorem LZ{e a:Int}{h:AH}{g0 g1 g2 g3 g6 g7 g8 g9 aA aB aC aD aE aF aG aH aI aJ aK aL aM aN aO aP aQ aR aS aT aU aV aW aX aY aZ bA bB bC bD bE bF bG bH bI bJ bK bL bM bN bO bP bQ bR bS bT bU bV bW bX bY bZ cD cE cF cG cH cI cJ cK cM cN cO cP cQ cS cT cU cV cW cX cY cZ dA dB dC dD dE dF dG dH dI dJ dK dL dM dN dO dP dQ dR dS dT dU dV dW dX dZ eD eE eF eG eH:AV}(g4:h.get i4=some (.cells [.int .i64 e] 28))(g5:h.get i5=some (.cells [.int .i64 a] 3)) :
  Er Tryz.prog Tryz.f49 (some (.ret,⟨(g0::g1::g2::g3:: .ptr i4 0:: .ptr i5 0::g6::g7::g8::g9::aA::aB::aC::aD::aE::aF::aG::aH::aI::aJ::aK::aL::aM::aN::aO::aP::aQ::aR::aS::aT::aU::aV::aW::aX::aY::aZ::bA::bB::bC::bD::bE::bF::bG::bH::bI::bJ::bK::bL::bM::bN::bO::bP::bQ::bR::bS::bT::bU::bV::bW::bX::bY::bZ::cD::cE::cF::cG::cH::cI::cJ::cK::cM::cN::cO::cP::cQ::cS::cT::cU::cV::cW::cX::cY::cZ::dA::dB::dC::dD::dE::dF::dG::dH::dI::dJ::dK::dL::dM::dN::dO::dP::dQ::dR::dS::dT::dU::dV::dW::dX::dZ::eD::eE::eF::eG::eH::[]),[],h⟩))=some (.ret (.fD [.int .i64 e,.int .i64 a]),h):=
 Ab (.inl rfl) (Zm (tm:=[]) g4 g5)
theorem Wx{e a:Int}{h:AH}{g0 g1 g2 g3 g6 g7 g8 g9 aA aB aC aD aE aF aG aH aI aJ aK aL aM aN aO aP aQ aR aS aT aU aV aW aX aY aZ bA bB bC bD bE bF bG bH bI bJ bK bL bM bN bO bP bQ bR bS bT bU bV bW bX bY bZ cD cE cF cG cH cI cJ cK cM cN cO cP cQ cS cT cU cV cW cX cY cZ dA dB dC dD dE dF dG dH dI dJ dK dL dM dN dO dP dQ dR dS dT dU dV dW dX dZ eD eE eF eG eH:AV}(g4:h.get i4=some (.cells [.int .i64 e] 28))(g5:h.get i5=some (.cells [.int .i64 a] 3))(gd:h.get d=some (.defs true))(d4:d≠i4)(d5:d≠i5) :
  Er Tryz.prog Tryz.f49 (some (.ret,⟨(g0::g1::g2::g3:: .ptr i4 0:: .ptr i5 0::g6::g7::g8::g9::aA::aB::aC::aD::aE::aF::aG::aH::aI::aJ::aK::aL::aM::aN::aO::aP::aQ::aR::aS::aT::aU::aV::aW::aX::aY::aZ::bA::bB::bC::bD::bE::bF::bG::bH::bI::bJ::bK::bL::bM::bN::bO::bP::bQ::bR::bS::bT::bU::bV::bW::bX::bY::bZ::cD::cE::cF::cG::cH::cI::cJ::cK::cM::cN::cO::cP::cQ::cS::cT::cU::cV::cW::cX::cY::cZ::dA::dB::dC::dD::dE::dF::dG::dH::dI::dJ::dK::dL::dM::dN::dO::dP::dQ::dR::dS::dT::dU::dV::dW::dX::dZ::eD::eE::eF::eG::eH::[]),[d],h⟩))=some (.ret (.fD [.int .i64 e,.int .i64 a]),h.set d (.defs false)):=by
 have hr:=Zm (tm:=[]) (h:=h.set d (.defs false)) (i4:=i4) (i5:=i5) (e:=e) (a:=a) (g0:=g0) (g1:=g1) (g2:=g2) (g3:=g3) (g6:=g6) (g7:=g7) (g8:=g8) (g9:=g9) (aA:=aA) (aB:=aB) (aC:=aC) (aD:=aD) (aE:=aE) (aF:=aF) (aG:=aG) (aH:=aH) (aI:=aI) (aJ:=aJ) (aK:=aK) (aL:=aL) (aM:=aM) (aN:=aN) (aO:=aO) (aP:=aP) (aQ:=aQ) (aR:=aR) (aS:=aS) (aT:=aT) (aU:=aU) (aV:=aV) (aW:=aW) (aX:=aX) (aY:=aY) (aZ:=aZ) (bA:=bA) (bB:=bB) (bC:=bC) (bD:=bD) (bE:=bE) (bF:=bF) (bG:=bG) (bH:=bH) (bI:=bI) (bJ:=bJ) (bK:=bK) (bL:=bL) (bM:=bM) (bN:=bN) (bO:=bO) (bP:=bP) (bQ:=bQ) (bR:=bR) (bS:=bS) (bT:=bT) (bU:=bU) (bV:=bV) (bW:=bW) (bX:=bX) (bY:=bY) (bZ:=bZ) (cD:=cD) (cE:=cE) (cF:=cF) (cG:=cG) (cH:=cH) (cI:=cI) (cJ:=cJ) (cK:=cK) (cM:=cM) (cN:=cN) (cO:=cO) (cP:=cP) (cQ:=cQ) (cS:=cS) (cT:=cT) (cU:=cU) (cV:=cV) (cW:=cW) (cX:=cX) (cY:=cY) (cZ:=cZ) (dA:=dA) (dB:=dB) (dC:=dC) (dD:=dD) (dE:=dE) (dF:=dF) (dG:=dG) (dH:=dH) (dI:=dI) (dJ:=dJ) (dK:=dK) (dL:=dL) (dM:=dM) (dN:=dN) (dO:=dO) (dP:=dP) (dQ:=dQ) (dR:=dR) (dS:=dS) (dT:=dT) (dU:=dU) (dV:=dV) (dW:=dW) (dX:=dX) (dZ:=dZ) (eD:=eD) (eE:=eE) (eF:=eF) (eG:=eG) (eH:=eH) (by rw[AH.ak,if_neg d4.symm];exact g4) (by rw[AH.ak,if_neg d5.symm];exact g5)
 simp only[Er,CJ,gd]
 rw[hr];rfl
end
theorem b32(call eu n)(x c w:AV)(f:Int)(h:AH)(hxs:x.scalar=true)(hcs:c.scalar=true)(hws:w.scalar=true) :
  B fO call eu n 68 Tryz.f68 [x,.agg [c,.int .i64 f,w]] h=some (.ret (.fn (.func 86) [] [.ptr (h.alloc (.cells [x] 22)).next 0,.ptr h.next 0]),(h.alloc (.cells [x] 22)).alloc (.cells [c,.int .i64 f,w] 26)):=by
 conv=>lhs;whnf
 refine AQ (Dq (cs:=[x]) (by cases x<;>first|rfl|(simp[AV.scalar]at hxs)) (by simp only[adP,hxs,aku];rfl)) ?_
 conv=>lhs;whnf
 refine AQ (Dq (cs:=[c,.int .i64 f,w]) rfl (by simp only[adP,hcs,hws,aku];rfl)) ?_
 conv=>lhs;whnf
 exact CU (.inl rfl) rfl rfl
theorem Af{x:AV}{xs:List AV}(h:fK x xs):x.scalar=true:=by
 rcases h with⟨rfl,_⟩|⟨c,rfl⟩<;>rfl
theorem Dp{x:AV}{xs:List AV}(h:fK x xs):x.cells=[x]:=by
 rcases h with⟨rfl,_⟩|⟨c,rfl⟩<;>rfl
theorem MU{all:List Ag}:∀{r:List Ag} {i:Nat},(Fg all r i).1=0->∀a∈r,0<=a.2/\a.2<=6
 |[],i,_,a,ha=>by cases ha
 |g::r,i,h,a,ha=>by
  simp only[Fg]at h
  split at h
  ·simp at h
  ·split at h
   ·simp at h
   ·split at h
    ·simp at h
    ·rename_i h3
     rcases adf.1 ha with rfl|ha
     ·omega
     ·exact MU h a ha
theorem BG{s:List Ag}(h:(AP s).1=0)(a:Int):0<=AL s a/\AL s a<=7:=by
 unfold AP at h
 split at h
 ·simp at h
 ·split at h
  ·simp at h
  ·unfold AL
   split
   ·omega
   ·split
    ·omega
    ·rename_i g hg
     have hm:=acg hg
     obtain⟨h1,h2⟩:=MU h g hm
     rw[if_neg (by omega)]
     have:IntKind.i64.wrap (g.2+1)=g.2+1:=by simp[IntKind.wrap,IntKind.bits,IntKind.signed];omega
     rw[this];omega
structure C16 (call iR:AA) (x c w:AV) (s:List Ag) (n:Nt):Prop where
 c14:∀h,call (.func 61) [x] h=some (.ret (.fD [.int .i64 (AP s).1,.int .i64 (AP s).2]),h)
 c30:∀{i2 i3 i4 i5} p h,Env i2 i3 i4 i5 x c w n.free h->call (.func 66) [Am p,.ptr i3 0,.ptr i2 0] h=some (.ret (.bool (Bw s n.cells n.free p)),h.alloc (.cells [.int .i64 p.1,.int .i64 p.2] 60))
 c32:∀h,call (.func 68) [x,.agg [c,.int .i64 n.free,w]] h=some (.ret (.fn (.func 86) [] [.ptr (h.alloc (.cells [x] 22)).next 0,.ptr h.next 0]),(h.alloc (.cells [x] 22)).alloc (.cells [c,.int .i64 n.free,w] 26))
 c37:∀{l b2 b3 h h'},(∀a,0<=AL s a/\AL s a<=7)->n.free<=64->n.cells.length<=4096->Es b2 b3 x c w n.free h->NY iR l (Es b2 b3 x c w n.free) 0 (Ae s n) h h'->
  call (.func 86) [.fn (.yield l) [] [],.ptr b3 0,.ptr b2 0] h=some (.ret (.fD []),h')
 cy:∀{i2 i3 i4 i5 i11 r b2 b3 l d:Sk.Id} {S:Sn} {g0 g1 g2 g3 g6 g7 g8 g9 aA aC aD aE aF aG aH aI aJ aK aL aM aN aO aP aQ aR aS aT aU aV aW aX aY aZ bA bB bC bD bE bF bG bH bI bJ bK bL bM bN bO bP bQ bR bS bT bU bV bW bX bY bZ cD cE cF cG cH cI cJ cK cM cN cO cP cQ cS cT cU cV cW cX cY cZ dA dB dC dD dE dF dG dH dI dJ dK dL dM dN dO dP dQ dR dS dT dU dV dW dX dZ eD eE eF eG eH:AV},i4≠i5->(l≠i2/\l≠i3/\l≠i4/\l≠i5/\l≠i11/\l≠r/\l≠b2/\l≠b3/\l≠d)->(d≠i4/\d≠i5)->
  ∀(p:Int × Int) (i:Nat) (h:AH),o8 i2 i3 i4 i5 i11 r b2 b3 l d x c w n.free S (g0::g1::g2::g3:: .ptr i4 0:: .ptr i5 0::g6::g7::g8::g9::aA:: .ptr i11 0::aC::aD::aE::aF::aG::aH::aI::aJ::aK::aL::aM::aN::aO::aP::aQ::aR::aS::aT::aU::aV::aW::aX::aY::aZ::bA::bB::bC::bD::bE::bF::bG::bH::bI::bJ::bK::bL::bM::bN::bO::bP::bQ::bR::bS::bT::bU::bV::bW::bX::bY::bZ::cD::cE::cF::cG::cH::cI::cJ::cK::cM::cN::cO::cP::cQ::cS::cT::cU::cV::cW::cX::cY::cZ::dA::dB::dC::dD::dE::dF::dG::dH::dI::dJ::dK::dL::dM::dN::dO::dP::dQ::dR::dS::dT::dU::dV::dW::dX::dZ::eD::eE::eF::eG::eH::[]) h->
   (S p=true->∃h',iR (.yield l) [.int .i64 i,Am p] h=some (.ret (.bool true),h')/\o8 i2 i3 i4 i5 i11 r b2 b3 l d x c w n.free S (g0::g1::g2::g3:: .ptr i4 0:: .ptr i5 0::g6::g7::g8::g9::aA:: .ptr i11 0::aC::aD::aE::aF::aG::aH::aI::aJ::aK::aL::aM::aN::aO::aP::aQ::aR::aS::aT::aU::aV::aW::aX::aY::aZ::bA::bB::bC::bD::bE::bF::bG::bH::bI::bJ::bK::bL::bM::bN::bO::bP::bQ::bR::bS::bT::bU::bV::bW::bX::bY::bZ::cD::cE::cF::cG::cH::cI::cJ::cK::cM::cN::cO::cP::cQ::cS::cT::cU::cV::cW::cX::cY::cZ::dA::dB::dC::dD::dE::dF::dG::dH::dI::dJ::dK::dL::dM::dN::dO::dP::dQ::dR::dS::dT::dU::dV::dW::dX::dZ::eD::eE::eF::eG::eH::[]) h')/\
   (S p=false->∃h',iR (.yield l) [.int .i64 i,Am p] h=some (.ret (.bool false),h')/\adM i4 i5 l d (g0::g1::g2::g3:: .ptr i4 0:: .ptr i5 0::g6::g7::g8::g9::aA:: .ptr i11 0::aC::aD::aE::aF::aG::aH::aI::aJ::aK::aL::aM::aN::aO::aP::aQ::aR::aS::aT::aU::aV::aW::aX::aY::aZ::bA::bB::bC::bD::bE::bF::bG::bH::bI::bJ::bK::bL::bM::bN::bO::bP::bQ::bR::bS::bT::bU::bV::bW::bX::bY::bZ::cD::cE::cF::cG::cH::cI::cJ::cK::cM::cN::cO::cP::cQ::cS::cT::cU::cV::cW::cX::cY::cZ::dA::dB::dC::dD::dE::dF::dG::dH::dI::dJ::dK::dL::dM::dN::dO::dP::dQ::dR::dS::dT::dU::dV::dW::dX::dZ::eD::eE::eF::eG::eH::[]) 32 i h')
theorem Sq{Q:Option (Aq × AH)->Prop}{P:AH->Prop}{l:Sk.Id}{tm:List AV}{df:List Sk.Id}{k:KC (Aq × AH)}{r:Option (Aq × AH)}(hr:∃h',r=some (.ret (.fD []),h')/\P h')
  (hy:∀h',P h'->Q ((Cq l ⟨tm,df,h'⟩).bind fun r=>k r.1 r.2)):Q (iZ l tm df k r):=by
 obtain⟨h',h1,h2⟩:=hr
 have:=hy h' h2
 unfold iZ;rw[h1];exact this
theorem KN{l d:Sk.Id}{fn:FuncId}{tm tm':List AV}{df:List Sk.Id}{ps:Array Tmp}{a b:Code}{h:AH}(hg:h.get l=some (.loop .ready none fn tm ps a b d)):Cq l ⟨tm',df,h⟩=some (.normal,⟨tm',df,h.set l (.loop .exhausted none fn tm ps a b d)⟩):=by
 simp only[Cq,hg]
theorem Vz{l d:Sk.Id}{fn:FuncId}{tm:List AV}{ps:Array Tmp}{a b:Code}{h:AH}(hg:h.get l=some (.loop .ready none fn tm ps a b d)) :
  ∃h2,(∀tm' df,Cq l ⟨tm',df,h⟩=some (.normal,⟨tm',df,h2⟩))/\∀q o,h.get q=some o->l≠q->h2.get q=some o:=
 ⟨_,fun _ _=>KN hg,fun q o hq hne=>by rw[AH.ak,if_neg hne.symm];exact hq⟩
theorem TD{l d:Sk.Id}{fn:FuncId}{tm tm':List AV}{df:List Sk.Id}{ps:Array Tmp}{a b:Code}{h:AH}(hg:h.get l=some (.loop .done (some .ret) fn tm ps a b d)):Cq l ⟨tm',df,h⟩=some (.ret,⟨tm',df,h.set l (.loop .exhausted (some .ret) fn tm ps a b d)⟩):=by
 simp only[Cq,hg]
theorem b16(call iR eu n)(x c w:AV)(s:List Ag)(nt:Nt)(hx:AR x s)(hc:fK c (nt.cells.map Ad))(hw:fK w (nt.wires.map Az))(C:C16 call iR x c w s nt)(hwl:nt.wires.length<=1000000000)(hn1:4096<n)(hn2:nt.wires.length<n)(h:AH) :
  ∃h',B JE call eu n 49 Tryz.f49 [x,.agg [c,.int .i64 nt.free,w]] h=some (.ret (.fD [.int .i64 (Ao s nt).1,.int .i64 (Ao s nt).2]),h'):=by
 obtain⟨cells,f,wires⟩:=nt
 simp only at hc hw hwl hn2
 have hxs:=Af hx
 have hcs:=Af hc
 have hws:=Af hw
 have u23:Tryz.prog.underlying 23=some (.slice 3):=by kernel_rfl
 have u24:Tryz.prog.underlying 24=some (.slice 62):=by kernel_rfl
 have hlc:=fun h=>Fx (X:=⟨Tryz.prog,eO,call⟩) (mu:=false) (h:=h) u23 hc
 have qj:=fun h=>Fx (X:=⟨Tryz.prog,eO,call⟩) (mu:=false) (h:=h) u24 hw
 rw[aaq]at hlc qj
 suffices hq:(fun y:Option (Aq × AH)=> ∃h',y=some (.ret (.fD [.int .i64 (Ao s ⟨cells,f,wires⟩).1,.int .i64 (Ao s ⟨cells,f,wires⟩).2]),h')) (B JE call eu n 49 Tryz.f49 [x,.agg [c,.int .i64 f,w]] h)from hq
 generalize hQ:(fun y:Option (Aq × AH)=> ∃h',y=some (.ret (.fD [.int .i64 (Ao s ⟨cells,f,wires⟩).1,.int .i64 (Ao s ⟨cells,f,wires⟩).2]),h'))=Q
 have hQ':∀e a h',Ao s ⟨cells,f,wires⟩=(e,a)->Q (some (.ret (.fD [.int .i64 e,.int .i64 a]),h')):=fun e a h' he=>by rw[<-hQ,he];exact⟨h',rfl⟩
 clear hQ
 conv=>arg 1;whnf
 refine Aa (Dq (cs:=[x]) (Dp hx) (by simp only[adP,hxs,aku];rfl)) ?_
 conv=>arg 1;whnf
 refine Aa (Dq (cs:=[c,.int .i64 f,w]) rfl (by simp only[adP,hcs,hws,aku];rfl)) ?_
 conv=>arg 1;whnf
 refine Aa (Cb (z:= .int .i64 0) (cs:=[.int .i64 0]) (by kernel_rfl) rfl rfl) ?_
 conv=>arg 1;whnf
 refine Aa (Cb (z:= .int .i64 0) (cs:=[.int .i64 0]) (by kernel_rfl) rfl rfl) ?_
 generalize hi2:h.next=i2
 generalize lY:h.alloc (.cells [x] 22)=h1
 have n1:h1.next.nat=i2.nat+1:=by rw[<-lY,AH.bn,Id.dz,hi2]
 have a2:h1.get i2=some (.cells [x] 22):=by rw[<-lY,<-hi2,AH.au,if_pos rfl]
 generalize hi3:h1.next=i3 at n1
 generalize lU:h1.alloc (.cells [c,.int .i64 f,w] 26)=h2
 have n2:h2.next.nat=i3.nat+1:=by rw[<-lU,AH.bn,Id.dz,hi3]
 have a3:h2.get i3=some (.cells [c,.int .i64 f,w] 26):=by rw[<-lU,<-hi3,AH.au,if_pos rfl]
 have a2:h2.get i2=some (.cells [x] 22):=by rw[<-lU];exact kept_alloc a2 (by rw[hi3];omega)
 generalize hi4:h2.next=i4 at n2
 generalize hh3:h2.alloc (.cells [.int .i64 0] 28)=h3
 have n3:h3.next.nat=i4.nat+1:=by rw[<-hh3,AH.bn,Id.dz,hi4]
 have a4:h3.get i4=some (.cells [.int .i64 0] 28):=by rw[<-hh3,<-hi4,AH.au,if_pos rfl]
 have a2:h3.get i2=some (.cells [x] 22):=by rw[<-hh3];exact kept_alloc a2 (by rw[hi4];omega)
 have a3:h3.get i3=some (.cells [c,.int .i64 f,w] 26):=by rw[<-hh3];exact kept_alloc a3 (by rw[hi4];omega)
 generalize hi5:h3.next=i5 at n3
 generalize wF:h3.alloc (.cells [.int .i64 0] 3)=h4
 have n4:h4.next.nat=i5.nat+1:=by rw[<-wF,AH.bn,Id.dz,hi5]
 have a5:h4.get i5=some (.cells [.int .i64 0] 3):=by rw[<-wF,<-hi5,AH.au,if_pos rfl]
 have a2:h4.get i2=some (.cells [x] 22):=by rw[<-wF];exact kept_alloc a2 (by rw[hi5];omega)
 have a3:h4.get i3=some (.cells [c,.int .i64 f,w] 26):=by rw[<-wF];exact kept_alloc a3 (by rw[hi5];omega)
 have a4:h4.get i4=some (.cells [.int .i64 0] 28):=by rw[<-wF];exact kept_alloc a4 (by rw[hi5];omega)
 clear lY lU hh3 wF hi2 hi3 hi4 hi5
 have hE:Env i2 i3 i4 i5 x c w f h4:=⟨a2,a3,⟨_,a4⟩,⟨_,a5⟩,by omega,by omega,by omega,by omega⟩
 have n45:i4≠i5:=by rintro rfl;omega
 have lx:∀h,Env i2 i3 i4 i5 x c w f h->fF h (Ay Tryz.prog 22 (.ptr i2 0) h)=some (.ret x,h):=fun h E=>Bj (n:=1) E.g2 (by kernel_rfl) (by kernel_rfl) rfl
 have lc:∀h,Env i2 i3 i4 i5 x c w f h->fF h (Ay Tryz.prog 23 (.ptr i3 0) h)=some (.ret c,h):=fun h E=>Bj (n:=1) E.g3 (by kernel_rfl) (by kernel_rfl) rfl
 have lf:∀h,Env i2 i3 i4 i5 x c w f h->fF h (Ay Tryz.prog 3 (.ptr i3 1) h)=some (.ret (.int .i64 f),h):=fun h E=>Bj (n:=1) E.g3 (by kernel_rfl) (by kernel_rfl) rfl
 have lw:∀h,Env i2 i3 i4 i5 x c w f h->fF h (Ay Tryz.prog 24 (.ptr i3 2) h)=some (.ret w,h):=fun h E=>Bj (n:=1) E.g3 (by kernel_rfl) (by kernel_rfl) rfl
 have ln:∀h,Env i2 i3 i4 i5 x c w f h->fF h (Ay Tryz.prog 26 (.ptr i3 0) h)=some (.ret (.agg [c,.int .i64 f,w]),h):=fun h E=>Dx (n:=3) E.g3 (by kernel_rfl) (by kernel_rfl) (by simp)
 conv=>arg 1;whnf
 refine Aa (lx _ hE) ?_
 conv=>arg 1;whnf
 refine Aa (C.c14 _) ?_
 generalize hsc:(AP s).1=e1
 generalize hsc2:(AP s).2=e2
 conv=>arg 1;whnf
 cases b1:(e1 != 0)
 case true=>
  conv=>arg 1;whnf
  obtain⟨h',s4,s5,q4,q5⟩:=hE.fin n45 e1 e2
  refine Aa s4 ?_
  conv=>arg 1;whnf
  refine Aa s5 ?_
  conv=>arg 1;whnf
  refine Ac (LZ q4 q5) (hQ' _ _ _ ?_)
  unfold Ao;rw[if_pos (by rw[hsc];simpa using b1),<-hsc,<-hsc2]
 have hs0:(AP s).1=0:=by rw[hsc];simpa using b1
 have hc1:∀y,(if(cells.length>4096\/f>64)then((15,0):Int × Int)else y)=(if(cells.length>4096\/f>64)then(15,0)else y):=fun _=>rfl
 conv=>arg 1;whnf
 refine Aa (lc _ hE) ?_
 conv=>arg 1;whnf
 refine Aa (hlc _) ?_
 conv=>arg 1;whnf
 obtain⟨ai6,s4,s5,q4,q5⟩:=hE.fin n45 15 0
 cases b2:decide ((cells.length:Int)>4096)
 case true=>
  conv=>arg 1;whnf
  refine Aa s4 ?_
  conv=>arg 1;whnf
  refine Aa s5 ?_
  conv=>arg 1;whnf
  refine Ac (LZ q4 q5) (hQ' _ _ _ ?_)
  unfold Ao;rw[if_neg (by rw[hs0];simp),if_pos (.inl (by simp at b2 ⊢;omega))]
 conv=>arg 1;whnf
 refine Aa (lf _ hE) ?_
 conv=>arg 1;whnf
 cases b3:decide (f>64)
 case true=>
  conv=>arg 1;whnf
  refine Aa s4 ?_
  conv=>arg 1;whnf
  refine Aa s5 ?_
  conv=>arg 1;whnf
  refine Ac (LZ q4 q5) (hQ' _ _ _ ?_)
  unfold Ao;rw[if_neg (by rw[hs0];simp),if_pos (.inr (by simpa using b3))]
 have hcl:cells.length<=4096:=by simp at b2;omega
 have ai7:f<=64:=by simpa using b3
 conv=>arg 1;whnf
 refine Aa (lf _ hE) ?_
 conv=>arg 1;whnf
 clear ai6 s4 s5 q4 q5
 cases b4:decide (f<0)
 case true=>
  conv=>arg 1;whnf
  obtain⟨h',s4,s5,q4,q5⟩:=hE.fin n45 1 0
  refine Aa s4 ?_
  conv=>arg 1;whnf
  refine Aa s5 ?_
  conv=>arg 1;whnf
  refine Ac (LZ q4 q5) (hQ' _ _ _ ?_)
  unfold Ao;rw[if_neg (by rw[hs0];simp),if_neg (by simp;omega),if_pos (by simpa using b4)]
 have hf0:¬f<0:=by simpa using b4
 have mY:Ao s ⟨cells,f,wires⟩=(match CR s.length cells 0 with
  |some i=>(20,(i:Int))
  |none=>match FB s cells f wires 0 fun _=>false with
   | .inl e=>e
   | .inr S=>IJ S (Ae s ⟨cells,f,wires⟩) 0):=by
  unfold Ao;rw[if_neg (by rw[hs0];simp),if_neg (by simp;omega),if_neg hf0];all_goals rfl
 conv=>arg 1;whnf
 refine Aa (lc _ hE) ?_
 conv=>arg 1;whnf
 refine Aa (hlc _) ?_
 conv=>arg 1;whnf
 refine ah2 (i2:=i2) (i3:=i3) (i4:=i4) (i5:=i5) (x:=x) (c:=c) (w:=w) (f:=f) call eu n s cells hx hc hcl n45 ?_ ?_ n 0 (z:=0) rfl (ajy _) (by omega) hE (by rw[aj6])
 ·intro i h'
  intros
  rename_i hb q4 q5
  refine Ac (LZ q4 q5) (hQ' _ _ _ ?_)
  rw[mY,hb]
 intro hbn h5
 intros
 rename_i nX
 rw[hbn]at mY
 simp only at mY
 clear hE a2 a3 a4 a5
 conv=>arg 1;whnf
 refine Aa (Cb (z:= .fU) (cs:=[.fU]) (by kernel_rfl) rfl rfl) ?_
 generalize r9:(h5.alloc (.map [] 0)).next=i11
 generalize hir:h5.next=r
 have hk6:Kept h5.next.nat h5 ((h5.alloc (.map [] 0)).alloc (.cells [.fU] 110)):=(JI h5 _).alloc _
 have aB:((h5.alloc (.map [] 0)).alloc (.cells [.fU] 110)).get i11=some (.cells [.fU] 110):=by rw[<-r9,AH.au,if_pos rfl]
 have gr:((h5.alloc (.map [] 0)).alloc (.cells [.fU] 110)).get r=some (.map [] 0):=by
  refine kept_alloc (by rw[<-hir,AH.au,if_pos rfl]) ?_
  rw[AH.bn,Id.dz,hir];omega
 have nr:r.nat+1=i11.nat:=by rw[<-r9,<-hir,AH.bn,Id.dz]
 have n6:((h5.alloc (.map [] 0)).alloc (.cells [.fU] 110)).next.nat=i11.nat+1:=by rw[AH.bn,Id.dz,r9]
 rw[hir]at hk6
 have nE:i2.nat<r.nat/\i3.nat<r.nat/\i4.nat<r.nat/\i5.nat<r.nat:=by rw[<-hir];exact⟨nX.l2,nX.l3,nX.l4,nX.l5⟩
 have qL:=nX.keep (by rw[hir];exact hk6)
 clear r9 hir
 conv=>arg 1;whnf
 generalize ((h5.alloc (.map [] 0)).alloc (.cells [.fU] 110))=h6 at hk6 aB gr n6 qL ⊢
 have zD:iM (Ce Tryz.prog 110 (.ptr i11 0) (.map r) h6)=some (.ret Aj,h6.set i11 (.cells [.map r] 110)):=EC (n:=1) aB (by kernel_rfl) rfl (by simp) rfl
 refine Aa zD ?_
 have k7:∀q o,h6.get q=some o->q≠i11->(h6.set i11 (.cells [.map r] 110)).get q=some o:=fun q o hq hne=>by rw[AH.ak,if_neg hne];exact hq
 have vF:(h6.set i11 (.cells [.map r] 110)).get i11=some (.cells [.map r] 110):=by rw[AH.ak,if_pos rfl]
 have n7:(h6.set i11 (.cells [.map r] 110)).next=h6.next:=rfl
 generalize (h6.set i11 (.cells [.map r] 110))=h7 at k7 vF n7 ⊢
 have ne:∀q:Sk.Id,q.nat<i11.nat->q≠i11:=fun q hq=>by rintro rfl;omega
 obtain⟨v4,g4⟩:=qL.g4
 obtain⟨v5,g5⟩:=qL.g5
 have hE7:Env i2 i3 i4 i5 x c w f h7:=⟨k7 _ _ qL.g2 (ne _ (by omega)),k7 _ _ qL.g3 (ne _ (by omega)),⟨v4,k7 _ _ g4 (ne _ (by omega))⟩,⟨v5,k7 _ _ g5 (ne _ (by omega))⟩,by rw[n7];exact qL.l2,by rw[n7];exact qL.l3,by rw[n7];exact qL.l4,by rw[n7];exact qL.l5⟩
 have hS7:Seen i11 r (fun _=>false) h7:=⟨vF,by rw[n7,n6];omega,⟨[],0,k7 _ _ gr (ne _ (by omega)),fun p=>rfl⟩,by rw[n7,n6];omega⟩
 clear qL nX zD k7 vF aB gr g4 g5 hk6
 conv=>arg 1;whnf
 refine Aa (lw _ hE7) ?_
 conv=>arg 1;whnf
 refine Aa (qj _) ?_
 conv=>arg 1;whnf
 have nq:∀q:Sk.Id,q.nat≠r.nat->q≠r:=fun q hq=>by rintro rfl;exact hq rfl
 refine aio (i2:=i2) (i3:=i3) (i4:=i4) (i5:=i5) (i11:=i11) (r:=r) (x:=x) (c:=c) (w:=w) (f:=f) call eu n s cells wires hw hwl n45 (nq _ (by omega)) (nq _ (by omega)) (nq _ (by omega)) (nq _ (by omega)) (nq _ (by omega)) (fun p h E=>C.c30 p h E) _ ?_ ?_ n 0 (z:=0) rfl (ajy _) (by omega) hE7 hS7 (by rw[aj6])
 ·intro e a h'
  intros
  rename_i hb q4 q5
  refine Ac (LZ q4 q5) (hQ' _ _ _ ?_)
  rw[mY,hb]
 intro S h8
 intros
 rename_i hb tH hS8
 rw[hb]at mY
 simp only at mY
 conv=>arg 1;whnf
 refine Aa (lx _ tH) ?_
 conv=>arg 1;whnf
 refine Aa (ln _ tH) ?_
 conv=>arg 1;whnf
 refine Aa (C.c32 _) ?_
 conv=>arg 1;whnf
 generalize hb2:h8.next=b2
 generalize qM:h8.alloc (.cells [x] 22)=h9
 have m9:h9.next.nat=b2.nat+1:=by rw[<-qM,AH.bn,Id.dz,hb2]
 have k9:Kept h8.next.nat h8 h9:=by rw[<-qM];exact JI h8 _
 have rZ:h9.get b2=some (.cells [x] 22):=by rw[<-qM,<-hb2,AH.au,if_pos rfl]
 generalize hb3:h9.next=b3 at m9
 have hfr:(Nt.mk cells f wires).free=f:=rfl
 rw[hfr]
 generalize kK:h9.alloc (.cells [c,.int .i64 f,w] 26)=h10
 have m10:h10.next.nat=b3.nat+1:=by rw[<-kK,AH.bn,Id.dz,hb3]
 have k10:Kept h8.next.nat h8 h10:=by rw[<-kK];exact k9.alloc _
 have zC:h10.get b3=some (.cells [c,.int .i64 f,w] 26):=by rw[<-kK,<-hb3,AH.au,if_pos rfl]
 have rZ:h10.get b2=some (.cells [x] 22):=by rw[<-kK];exact kept_alloc rZ (by rw[hb3];omega)
 have e8:h8.next.nat=b2.nat:=by rw[hb2]
 rw[e8]at k10
 clear qM kK hb3 k9
 have ai8:=tH.keep (by rw[e8];exact k10)
 have ai9:=hS8.keep (by rw[e8];exact k10)
 have nb:i2.nat<b2.nat/\i3.nat<b2.nat/\i4.nat<b2.nat/\i5.nat<b2.nat/\i11.nat<b2.nat/\r.nat<b2.nat:=by rw[<-e8];exact⟨tH.l2,tH.l3,tH.l4,tH.l5,hS8.zB,hS8.lr⟩
 clear tH hS8 hb2 e8
 generalize hd:h10.next=d at m10
 have hl:(Dt h10).nat=d.nat+1:=by unfold Dt;rw[AH.bn,Id.dz,hd]
 have o9:∀q:Sk.Id,q.nat<d.nat->Dt h10≠q:=fun q hq=>by rintro rfl;omega
 have tJ:∀q:Sk.Id,q.nat<d.nat->d≠q:=fun q hq=>by rintro rfl;omega
 have key:∀{g0 g1 g2 g3 g6 g7 g8 g9 aA aC aD aE aF aG aH aI aJ aK aL aM aN aO aP aQ aR aS aT aU aV aW aX aY aZ bA bB bC bD bE bF bG bH bI bJ bK bL bM bN bO bP bQ bR bS bT bU bV bW bX bY bZ cD cE cF cG cH cI cJ cK cM cN cO cP cQ cS cT cU cV cW cX cY cZ dA dB dC dD dE dF dG dH dI dJ dK dL dM dN dO dP dQ dR dS dT dU dV dW dX dZ eD eE eF eG eH:AV},∃h',call (.func 86) ([]++[.fn (.yield (Dt h10)) [] []]++[.ptr b3 0,.ptr b2 0]) (Dm 49 (g0::g1::g2::g3:: .ptr i4 0:: .ptr i5 0::g6::g7::g8::g9::aA:: .ptr i11 0::aC::aD::aE::aF::aG::aH::aI::aJ::aK::aL::aM::aN::aO::aP::aQ::aR::aS::aT::aU::aV::aW::aX::aY::aZ::bA::bB::bC::bD::bE::bF::bG::bH::bI::bJ::bK::bL::bM::bN::bO::bP::bQ::bR::bS::bT::bU::bV::bW::bX::bY::bZ::cD::cE::cF::cG::cH::cI::cJ::cK::cM::cN::cO::cP::cQ::cS::cT::cU::cV::cW::cX::cY::cZ::dA::dB::dC::dD::dE::dF::dG::dH::dI::dJ::dK::dL::dM::dN::dO::dP::dQ::dR::dS::dT::dU::dV::dW::dX::dZ::eD::eE::eF::eG::eH::[]) #[106,107] (Ep (codeOf Tryz.f49) 0) (Ey (codeOf Tryz.f49) 0) h10)=some (.ret (.fD []),h')/\
   ((IJ S (Ae s ⟨cells,f,wires⟩) 0=(0,0)/\o8 i2 i3 i4 i5 i11 r b2 b3 (Dt h10) d x c w f S (g0::g1::g2::g3:: .ptr i4 0:: .ptr i5 0::g6::g7::g8::g9::aA:: .ptr i11 0::aC::aD::aE::aF::aG::aH::aI::aJ::aK::aL::aM::aN::aO::aP::aQ::aR::aS::aT::aU::aV::aW::aX::aY::aZ::bA::bB::bC::bD::bE::bF::bG::bH::bI::bJ::bK::bL::bM::bN::bO::bP::bQ::bR::bS::bT::bU::bV::bW::bX::bY::bZ::cD::cE::cF::cG::cH::cI::cJ::cK::cM::cN::cO::cP::cQ::cS::cT::cU::cV::cW::cX::cY::cZ::dA::dB::dC::dD::dE::dF::dG::dH::dI::dJ::dK::dL::dM::dN::dO::dP::dQ::dR::dS::dT::dU::dV::dW::dX::dZ::eD::eE::eF::eG::eH::[]) h')\/
    ∃k:Nat,IJ S (Ae s ⟨cells,f,wires⟩) 0=(32,(k:Int))/\adM i4 i5 (Dt h10) d (g0::g1::g2::g3:: .ptr i4 0:: .ptr i5 0::g6::g7::g8::g9::aA:: .ptr i11 0::aC::aD::aE::aF::aG::aH::aI::aJ::aK::aL::aM::aN::aO::aP::aQ::aR::aS::aT::aU::aV::aW::aX::aY::aZ::bA::bB::bC::bD::bE::bF::bG::bH::bI::bJ::bK::bL::bM::bN::bO::bP::bQ::bR::bS::bT::bU::bV::bW::bX::bY::bZ::cD::cE::cF::cG::cH::cI::cJ::cK::cM::cN::cO::cP::cQ::cS::cT::cU::cV::cW::cX::cY::cZ::dA::dB::dC::dD::dE::dF::dG::dH::dI::dJ::dK::dL::dM::dN::dO::dP::dQ::dR::dS::dT::dU::dV::dW::dX::dZ::eD::eE::eF::eG::eH::[]) 32 k h'):=by
  intro g0 g1 g2 g3 g6 g7 g8 g9 aA aC aD aE aF aG aH aI aJ aK aL aM aN aO aP aQ aR aS aT aU aV aW aX aY aZ bA bB bC bD bE bF bG bH bI bJ bK bL bM bN bO bP bQ bR bS bT bU bV bW bX bY bZ cD cE cF cG cH cI cJ cK cM cN cO cP cQ cS cT cU cV cW cX cY cZ dA dB dC dD dE dF dG dH dI dJ dK dL dM dN dO dP dQ dR dS dT dU dV dW dX dZ eD eE eF eG eH
  have hk:Kept h10.next.nat h10 (Dm 49 (g0::g1::g2::g3:: .ptr i4 0:: .ptr i5 0::g6::g7::g8::g9::aA:: .ptr i11 0::aC::aD::aE::aF::aG::aH::aI::aJ::aK::aL::aM::aN::aO::aP::aQ::aR::aS::aT::aU::aV::aW::aX::aY::aZ::bA::bB::bC::bD::bE::bF::bG::bH::bI::bJ::bK::bL::bM::bN::bO::bP::bQ::bR::bS::bT::bU::bV::bW::bX::bY::bZ::cD::cE::cF::cG::cH::cI::cJ::cK::cM::cN::cO::cP::cQ::cS::cT::cU::cV::cW::cX::cY::cZ::dA::dB::dC::dD::dE::dF::dG::dH::dI::dJ::dK::dL::dM::dN::dO::dP::dQ::dR::dS::dT::dU::dV::dW::dX::dZ::eD::eE::eF::eG::eH::[]) #[106,107] (Ep (codeOf Tryz.f49) 0) (Ey (codeOf Tryz.f49) 0) h10):=(JI h10 _).alloc _
  have hR:o8 i2 i3 i4 i5 i11 r b2 b3 (Dt h10) d x c w f S (g0::g1::g2::g3:: .ptr i4 0:: .ptr i5 0::g6::g7::g8::g9::aA:: .ptr i11 0::aC::aD::aE::aF::aG::aH::aI::aJ::aK::aL::aM::aN::aO::aP::aQ::aR::aS::aT::aU::aV::aW::aX::aY::aZ::bA::bB::bC::bD::bE::bF::bG::bH::bI::bJ::bK::bL::bM::bN::bO::bP::bQ::bR::bS::bT::bU::bV::bW::bX::bY::bZ::cD::cE::cF::cG::cH::cI::cJ::cK::cM::cN::cO::cP::cQ::cS::cT::cU::cV::cW::cX::cY::cZ::dA::dB::dC::dD::dE::dF::dG::dH::dI::dJ::dK::dL::dM::dN::dO::dP::dQ::dR::dS::dT::dU::dV::dW::dX::dZ::eD::eE::eF::eG::eH::[]) (Dm 49 (g0::g1::g2::g3:: .ptr i4 0:: .ptr i5 0::g6::g7::g8::g9::aA:: .ptr i11 0::aC::aD::aE::aF::aG::aH::aI::aJ::aK::aL::aM::aN::aO::aP::aQ::aR::aS::aT::aU::aV::aW::aX::aY::aZ::bA::bB::bC::bD::bE::bF::bG::bH::bI::bJ::bK::bL::bM::bN::bO::bP::bQ::bR::bS::bT::bU::bV::bW::bX::bY::bZ::cD::cE::cF::cG::cH::cI::cJ::cK::cM::cN::cO::cP::cQ::cS::cT::cU::cV::cW::cX::cY::cZ::dA::dB::dC::dD::dE::dF::dG::dH::dI::dJ::dK::dL::dM::dN::dO::dP::dQ::dR::dS::dT::dU::dV::dW::dX::dZ::eD::eE::eF::eG::eH::[]) #[106,107] (Ep (codeOf Tryz.f49) 0) (Ey (codeOf Tryz.f49) 0) h10):=by
   refine⟨ai8.keep hk,ai9.keep hk,⟨hk.1 _ _ rZ (by rw[hd];omega),hk.1 _ _ zC (by rw[hd];omega)⟩,?_,?_,?_,?_,?_,?_⟩
   ·unfold Dm Dt;rw[AH.au,if_pos rfl,hd]
   ·unfold Dm
    refine kept_alloc (by rw[<-hd,AH.au,if_pos rfl]) ?_
    rw[AH.bn,Id.dz,hd];omega
   all_goals (unfold Dm;rw[AH.bn,Id.dz,AH.bn,Id.dz,hd])
   ·omega
   ·omega
   ·omega
   ·omega
  obtain⟨h',hY,hres⟩:=ad8 (C.cy n45 ⟨o9 _ (by omega),o9 _ (by omega),o9 _ (by omega),o9 _ (by omega),o9 _ (by omega),o9 _ (by omega),o9 _ (by omega),o9 _ (by omega),by rintro e;have:=congrArg Id.nat e;omega⟩ ⟨tJ _ (by omega),tJ _ (by omega)⟩) (Ae s ⟨cells,f,wires⟩) 0 _ hR
  exact⟨h',C.c37 (BG hs0) ai7 hcl hR.pg hY,hres⟩
 refine Sq key ?_
 intro h11 hres
 rcases hres with⟨ho,hR⟩|⟨k,ho,hT⟩
 ·obtain⟨h12,hlv,ks⟩:=Vz hR.gl
  rw[hlv]
  have hl4:Dt h10≠i4:=o9 _ (by omega)
  have hl5:Dt h10≠i5:=o9 _ (by omega)
  have hld:Dt h10≠d:=by rintro e;have:=congrArg Id.nat e;omega
  obtain⟨v4,g4⟩:=hR.env.g4
  obtain⟨v5,g5⟩:=hR.env.g5
  have c4:=ks _ _ g4 hl4
  have c5:=ks _ _ g5 hl5
  have cd:=ks _ _ hR.gd hld
  have s4:iM (Ce Tryz.prog 28 (.ptr i4 0) (.int .i64 0) h12)=some (.ret Aj,h12.set i4 (.cells [.int .i64 0] 28)):=EC (n:=1) c4 (by kernel_rfl) rfl (by simp) rfl
  have c5':(h12.set i4 (.cells [.int .i64 0] 28)).get i5=some (.cells [v5] 3):=by rw[AH.ak,if_neg n45.symm];exact c5
  have s5:iM (Ce Tryz.prog 3 (.ptr i5 0) (.int .i64 0) (h12.set i4 (.cells [.int .i64 0] 28)))=some (.ret Aj,(h12.set i4 (.cells [.int .i64 0] 28)).set i5 (.cells [.int .i64 0] 3)):=EC (n:=1) c5' (by kernel_rfl) rfl (by simp) rfl
  conv=>arg 1;whnf
  refine Aa s4 ?_
  conv=>arg 1;whnf
  refine Aa s5 ?_
  conv=>arg 1;whnf
  refine Ac (Wx (d:=d) (e:=0) (a:=0) ?_ ?_ ?_ (tJ _ (by omega)) (tJ _ (by omega))) (hQ' _ _ _ ?_)
  ·rw[AH.ak,if_neg n45,AH.ak,if_pos rfl]
  ·rw[AH.ak,if_pos rfl]
  ·rw[AH.ak,if_neg (tJ _ (by omega)),AH.ak,if_neg (tJ _ (by omega))];exact cd
  ·rw[mY,ho]
 ·obtain⟨q4,q5,ql,qd⟩:=hT
  rw[TD ql]
  conv=>arg 1;whnf
  refine Ac (Wx (d:=d) (e:=32) (a:=k) ?_ ?_ ?_ (tJ _ (by omega)) (tJ _ (by omega))) (hQ' _ _ _ ?_)
  ·rw[AH.ak,if_neg (o9 _ (by omega)).symm];exact q4
  ·rw[AH.ak,if_neg (o9 _ (by omega)).symm];exact q5
  ·rw[AH.ak,if_neg (by rintro e;have:=congrArg Id.nat e;omega)];exact qd
  ·rw[mY,ho]
def OL:AV->Option Int
 | .int .i64 a=>some a
 |_=>none
def QC:AV->Option Wr
 | .agg [.int .i64 a,.int .i64 b,.int .i64 c,.int .i64 d]=>some (a,b,c,d)
 |_=>none
def En:AV->Option Nt
 | .agg [c,.int .i64 f,w]=>match QA OL Ad c,QA QC Az w with|some cs,some ws=>some ⟨cs,f,ws⟩|_,_=>none
 |_=>none
def Dc(v:AV)(n:Nt):Prop:= ∃c w,v= .agg [c,.int .i64 n.free,w]/\fK c (n.cells.map Ad)/\fK w (n.wires.map Az)
theorem DX{v:AV}{n:Nt}(h:En v=some n):Dc v n:=by
 unfold En at h
 split at h
 ·rename_i c f w
  split at h
  ·rename_i cs ws h1 h2
   simp only[aai]at h;subst h
   exact⟨c,w,rfl,Bn h1,Bn h2⟩
  ·cases h
 ·cases h
theorem EZ{v:AV}{n:Nt}(h:Dc v n):En (Bc v)=some n:=by
 obtain⟨c,w,rfl,h1,h2⟩:=h
 show En (.agg [Bc c,.int .i64 n.free,Bc w])=_
 simp only[En,J7 (dec:=OL) (enc:=Ad) (fun _=>rfl) (fun _=>rfl) h1,J7 (dec:=QC) (enc:=Az) (fun _=>rfl) (fun _=>rfl) h2]
theorem Fb{v:AV}{n:Nt}(h:Dc v n):BN v=true:=by
 obtain⟨c,w,rfl,h1,h2⟩:=h
 simp only[BN,BJ,IK (enc:=Ad) (fun _=>rfl) h1,IK (enc:=Az) (fun _=>rfl) h2,Bool.and_self]
theorem aed:A9 Tryz.prog (eO 49) JE (Ep (codeOf Tryz.f49) 0)=true:=by kernel_rfl
theorem aeb:A9 Tryz.prog (eO 49) JE (Ey (codeOf Tryz.f49) 0)=true:=by kernel_rfl
theorem ag7:Gb (Ep (codeOf Tryz.f49) 0)=true:=by kernel_rfl
theorem afW:A9 Tryz.prog (eO 66) ab8 (codeOf Tryz.f66)=true:=by kernel_rfl
theorem ad5{i4 i5 i11:Sk.Id}{i:Int}{p:Int × Int}{g0 g1 g2 g3 g6 g7 g8 g9 aA aC aD aE aF aG aH aI aJ aK aL aM aN aO aP aQ aR aS aT aU aV aW aX aY aZ bA bB bC bD bE bF bG bH bI bJ bK bL bM bN bO bP bQ bR bS bT bU bV bW bX bY bZ cD cE cF cG cH cI cJ cK cM cN cO cP cQ cS cT cU cV cW cX cY cZ dA dB dC dD dE dF dG dH dI dJ dK dL dM dN dO dP dQ dR dS dT dU dV dW dX dZ eD eE eF eG eH:AV}:BO (g0::g1::g2::g3:: .ptr i4 0:: .ptr i5 0::g6::g7::g8::g9::aA:: .ptr i11 0::aC::aD::aE::aF::aG::aH::aI::aJ::aK::aL::aM::aN::aO::aP::aQ::aR::aS::aT::aU::aV::aW::aX::aY::aZ::bA::bB::bC::bD::bE::bF::bG::bH::bI::bJ::bK::bL::bM::bN::bO::bP::bQ::bR::bS::bT::bU::bV::bW::bX::bY::bZ::cD::cE::cF::cG::cH::cI::cJ::cK::cM::cN::cO::cP::cQ::cS::cT::cU::cV::cW::cX::cY::cZ::dA::dB::dC::dD::dE::dF::dG::dH::dI::dJ::dK::dL::dM::dN::dO::dP::dQ::dR::dS::dT::dU::dV::dW::dX::dZ::eD::eE::eF::eG::eH::[]) [106,107] [.int .i64 i,Am p]=(g0::g1::g2::g3:: .ptr i4 0:: .ptr i5 0::g6::g7::g8::g9::aA:: .ptr i11 0::aC::aD::aE::aF::aG::aH::aI::aJ::aK::aL::aM::aN::aO::aP::aQ::aR::aS::aT::aU::aV::aW::aX::aY::aZ::bA::bB::bC::bD::bE::bF::bG::bH::bI::bJ::bK::bL::bM::bN::bO::bP::bQ::bR::bS::bT::bU::bV::bW::bX::bY::bZ::cD::cE::cF::cG::cH::cI::cJ::cK::cM::cN::cO::cP::cQ::cS::cT::cU::cV::cW::cX::cY::cZ::dA::dB::dC::dD::dE::dF::dG::dH::dI::dJ::dK::dL::dM::dN::dO::dP::dQ::dR::dS::dT::dU::dV::dW:: .int .i64 i::Am p::eD::eE::eF::eG::eH::[]):=by
 simp only[BO]
 rfl
theorem YU{hk:Ar}{n:Nat}(zF:∀args h,hk 67 args h=hk31 67 args h)(hn:0<n):h31 (Ah (Ak Tryz.prog eO hk) n):=fun x s a h hx=>Dr (by
 rw[zF]
 refine CX (by simp[BJ,BN,CZ hx]) ?_
 show(match Dn (Bc x)with|some s=>some (AV.int .i64 (AL s a))|none=>none)=_
 rw[C9 hx]) hn
theorem c16{m:Nat}(hm:5000<m)(x c w:AV)(s:List Ag)(nt:Nt)(hx:AR x s)(hc:fK c (nt.cells.map Ad))(hw:fK w (nt.wires.map Az)) :
  C16 (Ah (Ak Tryz.prog eO MC) (m+1)) (Ah (Ak Tryz.prog eO MC) m) x c w s nt where
 c14:=fun h=>Dr (by
  refine CX (by simp[BJ,CZ hx]) ?_
  show(match Dn (Bc x)with|some s=>some (AV.fD [.int .i64 (AP s).1,.int .i64 (AP s).2])|none=>none)=_
  rw[C9 hx]) (by omega)
 c30:=fun p h E=>AJ ab8 rfl Tryz.func66 rfl afW (b30 (Ah (Ak Tryz.prog eO MC) m) (rg Tryz.prog eO MC m 66) m _ _ x c w s nt.cells nt.free p h hx hc E.g2 E.g3 E.l2 E.l3 (YU (fun _ _=>rfl) (by omega)))
 c32:=fun h=>AJ fO rfl Tryz.func68 rfl (by kernel_rfl) (b32 (Ah (Ak Tryz.prog eO MC) m) (rg Tryz.prog eO MC m 68) m x c w nt.free h (Af hx) (Af hc) (Af hw))
 c37:=fun{l b2 b3 h h'} hP hf hcl hG hY=>AJ fO rfl Tryz.func86 rfl (by kernel_rfl)
  (b37 (Ah (Ak Tryz.prog eO MC) m) (rg Tryz.prog eO MC m 86) m l b2 b3 x c w nt.free s nt.cells hx hc hP (by omega) (by omega) (by omega) (by omega) (by omega) (YU (fun _ _=>rfl) (by omega)) h h' hG hY)
 cy:=by
  intro i2 i3 i4 i5 i11 r b2 b3 l d S g0 g1 g2 g3 g6 g7 g8 g9 aA aC aD aE aF aG aH aI aJ aK aL aM aN aO aP aQ aR aS aT aU aV aW aX aY aZ bA bB bC bD bE bF bG bH bI bJ bK bL bM bN bO bP bQ bR bS bT bU bV bW bX bY bZ cD cE cF cG cH cI cJ cK cM cN cO cP cQ cS cT cU cV cW cX cY cZ dA dB dC dD dE dF dG dH dI dJ dK dL dM dN dO dP dQ dR dS dT dU dV dW dX dZ eD eE eF eG eH n45 nl nd p i h hR
  obtain⟨k,rfl⟩:∃k,m=k+1:=⟨m - 1,by omega⟩
  obtain⟨y1,y2⟩:=y16 (Ah (Ak Tryz.prog eO MC) k) (rg Tryz.prog eO MC k 49) k S p i h _ (g0:=g0) (g1:=g1) (g2:=g2) (g3:=g3) (g6:=g6) (g7:=g7) (g8:=g8) (g9:=g9) (aA:=aA) (aC:=aC) (aD:=aD) (aE:=aE) (aF:=aF) (aG:=aG) (aH:=aH) (aI:=aI) (aJ:=aJ) (aK:=aK) (aL:=aL) (aM:=aM) (aN:=aN) (aO:=aO) (aP:=aP) (aQ:=aQ) (aR:=aR) (aS:=aS) (aT:=aT) (aU:=aU) (aV:=aV) (aW:=aW) (aX:=aX) (aY:=aY) (aZ:=aZ) (bA:=bA) (bB:=bB) (bC:=bC) (bD:=bD) (bE:=bE) (bF:=bF) (bG:=bG) (bH:=bH) (bI:=bI) (bJ:=bJ) (bK:=bK) (bL:=bL) (bM:=bM) (bN:=bN) (bO:=bO) (bP:=bP) (bQ:=bQ) (bR:=bR) (bS:=bS) (bT:=bT) (bU:=bU) (bV:=bV) (bW:=bW) (bX:=bX) (bY:=bY) (bZ:=bZ) (cD:=cD) (cE:=cE) (cF:=cF) (cG:=cG) (cH:=cH) (cI:=cI) (cJ:=cJ) (cK:=cK) (cM:=cM) (cN:=cN) (cO:=cO) (cP:=cP) (cQ:=cQ) (cS:=cS) (cT:=cT) (cU:=cU) (cV:=cV) (cW:=cW) (cX:=cX) (cY:=cY) (cZ:=cZ) (dA:=dA) (dB:=dB) (dC:=dC) (dD:=dD) (dE:=dE) (dF:=dF) (dG:=dG) (dH:=dH) (dI:=dI) (dJ:=dJ) (dK:=dK) (dL:=dL) (dM:=dM) (dN:=dN) (dO:=dO) (dP:=dP) (dQ:=dQ) (dR:=dR) (dS:=dS) (dT:=dT) (dU:=dU) (dV:=dV) (dW:=dW) (eD:=eD) (eE:=eE) (eF:=eF) (eG:=eG) (eH:=eH) (i4:=i4) (i5:=i5) (i11:=i11) hR n45 nl nd
  refine⟨fun hS=>?_,fun hS=>?_⟩
  ·obtain⟨h',h1,h2⟩:=y1 hS
   exact⟨h',NN JE hR.gl rfl aed aeb ag7 ad5 h1,h2⟩
  ·obtain⟨h',h1,h2⟩:=y2 hS
   exact⟨h',NN JE hR.gl rfl aed aeb ag7 ad5 h1,h2⟩
def s16:List AV->Option AV
 |[x,v]=>match Dn x,En v with
  |some s,some n=>if n.wires.length<=1000000000 then some (.fD [.int .i64 (Ao s n).1,.int .i64 (Ao s n).2])else none
  |_,_=>none
 |_=>none
def zG:=Bb MC 49 s16
theorem E16:Bq (Ak Tryz.prog eO zG):=CK E14 fun args v hs=>by
 unfold s16 at hs;split at hs
 ·rename_i x v'
  split at hs
  ·rename_i s n h1 h2
   split at hs
   ·rename_i hl
    cases hs
    obtain⟨c,w,rfl,h3,h4⟩:=DX h2
    obtain⟨h',hb⟩:=b16 (Ah (Ak Tryz.prog eO MC) (n.wires.length+5001+1)) (Ah (Ak Tryz.prog eO MC) (n.wires.length+5001)) (rg Tryz.prog eO MC (n.wires.length+5001+1) 49) (n.wires.length+5001+1) x c w s n (Bn h1) h3 h4 (c16 (by omega) x c w s n (Bn h1) h3 h4) hl (by omega) (by omega) .empty
    exact⟨rfl,Cu JE rfl Tryz.func49 rfl afd hb⟩
   ·cases hs
  ·cases hs
 ·cases hs
def before(p q:Int × Int):Bool:=decide (p.1<q.1)||((p.1==q.1)&&decide (p.2<q.2))
theorem b35(call eu n)(x y:AV)(p q:Int × Int)(hx:x=Am p)(hy:y=Am q)(h:AH):∃h',B fO call eu n 95 Tryz.f95 [x,y] h=some (.ret (.bool (before p q)),h'):=by
 obtain⟨a,b⟩:=p
 obtain⟨c,d⟩:=q
 suffices hq:(fun y:Option (Aq × AH)=> ∃h',y=some (.ret (.bool (before (a,b) (c,d))),h')) (B fO call eu n 95 Tryz.f95 [x,y] h)from hq
 generalize hQ:(fun y:Option (Aq × AH)=> ∃h',y=some (.ret (.bool (before (a,b) (c,d))),h'))=Q
 have hQ':∀e h',before (a,b) (c,d)=e->Q (some (.ret (.bool e),h')):=fun e h' he=>by rw[<-hQ,he];exact⟨h',rfl⟩
 clear hQ
 conv=>arg 1;whnf
 refine Aa (Dq (cs:=[.int .i64 a,.int .i64 b]) (by rw[hx];rfl) rfl) ?_
 conv=>arg 1;whnf
 refine Aa (Dq (cs:=[.int .i64 c,.int .i64 d]) (by rw[hy];rfl) rfl) ?_
 generalize hi2:h.next=i2
 generalize lY:h.alloc (.cells [.int .i64 a,.int .i64 b] 60)=h1
 have n1:h1.next.nat=i2.nat+1:=by rw[<-lY,AH.bn,Id.dz,hi2]
 have a2:h1.get i2=some (.cells [.int .i64 a,.int .i64 b] 60):=by rw[<-lY,<-hi2,AH.au,if_pos rfl]
 generalize hi3:h1.next=i3 at n1
 generalize lU:h1.alloc (.cells [.int .i64 c,.int .i64 d] 60)=h2
 have a3:h2.get i3=some (.cells [.int .i64 c,.int .i64 d] 60):=by rw[<-lU,<-hi3,AH.au,if_pos rfl]
 have a2:h2.get i2=some (.cells [.int .i64 a,.int .i64 b] 60):=by rw[<-lU];exact kept_alloc a2 (by rw[hi3];omega)
 clear lY lU hi2 hi3 n1
 have la:fF h2 (Ay Tryz.prog 3 (.ptr i2 0) h2)=some (.ret (.int .i64 a),h2):=Bj (n:=1) a2 (by kernel_rfl) (by kernel_rfl) rfl
 have lb:fF h2 (Ay Tryz.prog 3 (.ptr i2 1) h2)=some (.ret (.int .i64 b),h2):=Bj (n:=1) a2 (by kernel_rfl) (by kernel_rfl) rfl
 have lc:fF h2 (Ay Tryz.prog 3 (.ptr i3 0) h2)=some (.ret (.int .i64 c),h2):=Bj (n:=1) a3 (by kernel_rfl) (by kernel_rfl) rfl
 have ld:fF h2 (Ay Tryz.prog 3 (.ptr i3 1) h2)=some (.ret (.int .i64 d),h2):=Bj (n:=1) a3 (by kernel_rfl) (by kernel_rfl) rfl
 conv=>arg 1;whnf
 refine Aa la ?_
 conv=>arg 1;whnf
 refine Aa lc ?_
 conv=>arg 1;whnf
 cases e1:decide (a<c)
 ·conv=>arg 1;whnf
  refine Aa la ?_
  conv=>arg 1;whnf
  refine Aa lc ?_
  conv=>arg 1;whnf
  cases e2:(a==c)
  ·conv=>arg 1;whnf
   refine Ac (Ab (.inl rfl) rfl) (hQ' _ _ ?_)
   simp only[before,e1,e2,akh,Bool.or_false]
  ·conv=>arg 1;whnf
   refine Aa lb ?_
   conv=>arg 1;whnf
   refine Aa ld ?_
   conv=>arg 1;whnf
   refine Ac (Ab (.inl rfl) rfl) (hQ' _ _ ?_)
   simp only[before,e1,e2,akT,Bool.false_or]
 ·conv=>arg 1;whnf
  refine Ac (Ab (.inl rfl) rfl) (hQ' _ _ ?_)
  simp only[before,e1,Bool.true_or]
def h16(call:AA):Prop:= ∀x v s n h,AR x s->Dc v n->n.wires.length<=1000000000->call (.func 49) [x,v] h=some (.ret (.fD [.int .i64 (Ao s n).1,.int .i64 (Ao s n).2]),h)
theorem b25(call eu n)(x v:AV)(s:List Ag)(nt:Nt)(hx:AR x s)(hv:Dc v nt)(hl:nt.wires.length<=1000000000)(h16:h16 call)(h:AH) :
  ∃h',B fO call eu n 77 Tryz.f77 [x,v] h=some (.ret (.int .i64 (Ao s nt).1),h'):=by
 obtain⟨c,w,rfl,hc,hw⟩:=hv
 have hcs:=Af hc
 have hws:=Af hw
 suffices hq:(fun y:Option (Aq × AH)=> ∃h',y=some (.ret (.int .i64 (Ao s nt).1),h')) (B fO call eu n 77 Tryz.f77 [x,.agg [c,.int .i64 nt.free,w]] h)from hq
 generalize hQ:(fun y:Option (Aq × AH)=> ∃h',y=some (.ret (.int .i64 (Ao s nt).1),h'))=Q
 have hQ':∀h',Q (some (.ret (.int .i64 (Ao s nt).1),h')):=fun h'=>by rw[<-hQ];exact⟨h',rfl⟩
 clear hQ
 conv=>arg 1;whnf
 refine Aa (Dq (cs:=[c,.int .i64 nt.free,w]) rfl (by simp only[adP,hcs,hws,aku];rfl)) ?_
 have g:(h.alloc (.cells [c,.int .i64 nt.free,w] 26)).get h.next=some (.cells [c,.int .i64 nt.free,w] 26):=by rw[AH.au,if_pos rfl]
 generalize h.alloc (.cells [c,.int .i64 nt.free,w] 26)=h1 at g ⊢
 generalize h.next=q at g ⊢
 have ln:fF h1 (Ay Tryz.prog 26 (.ptr q 0) h1)=some (.ret (.agg [c,.int .i64 nt.free,w]),h1):=Dx (n:=3) g (by kernel_rfl) (by kernel_rfl) (by simp)
 conv=>arg 1;whnf
 refine Aa ln ?_
 conv=>arg 1;whnf
 refine Aa (h16 x _ s nt h1 hx ⟨c,w,rfl,hc,hw⟩ hl) ?_
 conv=>arg 1;whnf
 exact Ac (Ab (.inl rfl) rfl) (hQ' _)
def Ma:AV->Option (Int × Int)
 | .agg [.int .i64 a,.int .i64 b]=>some (a,b)
 |_=>none
theorem KX{v:AV}{p:Int × Int}(h:Ma v=some p):v=Am p:=by
 unfold Ma at h
 split at h
 ·simp only[aai]at h;subst h;rfl
 ·cases h
def s35:List AV->Option AV
 |[a,b]=>match Ma a,Ma b with|some p,some q=>some (.bool (before p q))|_,_=>none
 |_=>none
def s25:List AV->Option AV
 |[x,v]=>match Dn x,En v with
  |some s,some n=>if n.wires.length<=1000000000 then some (.int .i64 (Ao s n).1)else none
  |_,_=>none
 |_=>none
def zH:=Bb zG 95 s35
def Kt:=Bb zH 77 s25
theorem E35:Bq (Ak Tryz.prog eO zH):=CK E16 fun args v hs=>by
 unfold s35 at hs;split at hs
 ·split at hs
  ·rename_i p q h1 h2
   cases hs
   obtain⟨h',hb⟩:=b35 (Ah (Ak Tryz.prog eO zG) 1) (rg Tryz.prog eO zG 1 95) 1 _ _ p q (KX h1) (KX h2) .empty
   exact⟨rfl,Cu fO rfl Tryz.func95 rfl (by kernel_rfl) hb⟩
  ·cases hs
 ·cases hs
theorem XO{hk:Ar}{n:Nat}(zI:∀args h,hk 49 args h=zG 49 args h)(hn:0<n):h16 (Ah (Ak Tryz.prog eO hk) n):=fun x v s nt h hx hv hl=>Dr (by
 rw[zI]
 refine CX (by simp[BJ,CZ hx,Fb hv]) ?_
 show(match Dn (Bc x),En (Bc v)with
  |some s,some n=>if n.wires.length<=1000000000 then some (AV.fD [.int .i64 (Ao s n).1,.int .i64 (Ao s n).2])else none
  |_,_=>none)=_
 rw[C9 hx,EZ hv];simp only[if_pos hl]) hn
theorem E25:Bq (Ak Tryz.prog eO Kt):=CK E35 fun args v hs=>by
 unfold s25 at hs;split at hs
 ·rename_i x v'
  split at hs
  ·rename_i s n h1 h2
   split at hs
   ·rename_i hl
    cases hs
    obtain⟨h',hb⟩:=b25 (Ah (Ak Tryz.prog eO zH) 1) (rg Tryz.prog eO zH 1 77) 1 x v' s n (Bn h1) (DX h2) hl (XO (fun _ _=>rfl) (by omega)) .empty
    exact⟨rfl,Cu fO rfl Tryz.func77 rfl (by kernel_rfl) hb⟩
   ·cases hs
  ·cases hs
 ·cases hs
theorem SX{h:AH}{l:AV}{xs:List AV}(hg:Grow h l xs)(o:AO):Grow (h.alloc o) l xs:=by
 rcases hg with h1|⟨g,e1,e2,e3,e4⟩
 ·exact .inl h1
 ·refine .inr ⟨g,e1,e2,kept_alloc e3 e4,?_⟩
  rw[AH.bn,Id.dz];omega
def KZ(h:AH)(q:Sk.Id):Prop:= ∀n,h.get q≠some (.fM n)
theorem JF{h:AH}{l:AV}{xs:List AV}(hg:Grow h l xs){q:Sk.Id}(o:AO)(hq:KZ h q):Grow (h.set q o) l xs:=by
 rcases hg with h1|⟨g,e1,e2,e3,e4⟩
 ·exact .inl h1
 ·refine .inr ⟨g,e1,e2,?_,by rw[AH.fP];exact e4⟩
  rw[AH.ak,if_neg (by rintro rfl;exact hq _ e3)];exact e3
theorem Rk{h:AH}{l:AV}{xs:List AV}(hg:Grow h l xs){q:Sk.Id}(hq:KZ h q):Gi l≠some q:=by
 rcases hg with⟨rfl,_⟩|⟨g,rfl,e2,e3,e4⟩
 ·simp[Gi]
 ·simp only[Gi,ne_eq,aai];rintro rfl;exact hq _ e3
theorem N8{h:AH}{l:AV}{xs:List AV}(hg:Grow h l xs):fK l xs:=by
 rcases hg with⟨rfl,rfl⟩|⟨g,rfl,_⟩
 ·exact .inl ⟨rfl,rfl⟩
 ·exact .inr ⟨_,rfl⟩
theorem UQ{call:AA}{W:List Wr}{t:Wr}{h:AH}{l:AV}{c:Cap}(hl:Grow h l (W.map Az))(hb:W.length<=1000000000) :
  ∃l' h',Bh ⟨Tryz.prog,eO,call⟩ false .append #[24,24] [l,.fC [Az t] c] h=some (.ret l',h')/\Grow h' l' ((W++[t]).map Az)/\h.next.nat<=h'.next.nat/\(∀q o,h.get q=some o->KZ h q->q.nat<h.next.nat->h'.get q=some o):=by
 have hhw:Ba 4 (W.map Az)=true:=by cases W<;>rfl
 obtain⟨l',h',h1,h2,h3,h4⟩:=Lc (P:=Tryz.prog) (types:= #[24,24]) (t:=24) (tx:=24) (elem:=62) (d:= .slice 62) (n:=4) (z:= .agg [.int .i64 0,.int .i64 0,.int .i64 0,.int .i64 0]) (x:= .fC [Az t] c) (ys:=[Az t]) rfl rfl (by kernel_rfl) (by kernel_rfl)
  (by intro k h;cases h) rfl (by kernel_rfl) (by kernel_rfl) (by omega) rfl rfl (by simp) rfl hhw hl
  (by rw[show Tryz.prog.bytesOf 62=32 by kernel_rfl];simp;omega) (by simp;omega)
 refine⟨l',h',?_,by rw[ajC];exact h2,h3,fun q o hq hn hlt=>h4 q o hq (Rk hl hn) hlt⟩
 show CS (AX Tryz.prog false #[24,24] _ _ h)=_
 rw[h1];rfl
section
variable{n0:Nat}{gg:AH}{i7 i8 i9 r b2 b3 l d:Sk.Id}{x c:AV}{f:Int}
def gJ(n0:Nat)(g:AH)(h:AH):Prop:=(∀q o,g.get q=some o->(∀n,o≠ .fM n)->q.nat<n0->h.get q=some o)/\n0<=h.next.nat
theorem gJ.alloc{n0:Nat}{g h:AH}(hk:gJ n0 g h)(o:AO):gJ n0 g (h.alloc o):=
 ⟨fun q o' hq hn hlt=>kept_alloc (hk.1 q o' hq hn hlt) (ajF hlt hk.2),by rw[AH.bn,Id.dz];have:=hk.2;omega⟩
theorem gJ.set{n0:Nat}{g h:AH}(hk:gJ n0 g h){r:Sk.Id}(o:AO)(hr:n0<=r.nat):gJ n0 g (h.set r o):=
 ⟨fun q o' hq hn hlt=>by rw[AH.ak,if_neg (by rintro rfl;omega)];exact hk.1 q o' hq hn hlt,by rw[AH.fP];exact hk.2⟩
structure KF (n0:Nat) (g0:AH) (i7 i8 i9 r b2 b3 l d:Sk.Id) (x c:AV) (f:Int) (N:Int × Int->Option (Int × Int)) (tm:List AV) (W:List Wr) (h:AH):Prop where
 kp:gJ n0 g0 h
 g7:h.get i7=some (.cells [.map r] 89)
 g8:∃cs,h.get i8=some (.cells cs 26)/\cs.length=3
 g9:∃wl,h.get i9=some (.cells [c,.int .i64 f,wl] 26)/\Grow h wl (W.map Az)
 gm:MapAt h r fun p=>(N p).map Am
 pg:Es b2 b3 x c .aj f h
 gl:h.get l=some (.loop .ready none 78 tm #[21,22] (Ep (codeOf Tryz.f78) 0) (Ey (codeOf Tryz.f78) 0) d)
 gd:h.get d=some (.defs true)
 lr:l.nat<h.next.nat
def AZ(N:Int × Int->Option (Int × Int))(p:Int × Int):Int × Int:=(N p).getD (0,0)
def OO(N:Int × Int->Option (Int × Int))(W:List Wr)(p:Int × Int):List Wr:=if before p (AZ N p)then W++[(p.1,p.2,(AZ N p).1,(AZ N p).2)]else W
def h35(call:AA):Prop:= ∀a b p q h,a=Am p->b=Am q->call (.func 95) [a,b] h=some (.ret (.bool (before p q)),h)
theorem y26(call eu n)(N:Int × Int->Option (Int × Int))(W:List Wr)(uy:W.length<=100000000)(p:Int × Int)(pv:AV)(hpv:pv=Am p)(i:AV)(h:AH)(gY:List AV)(h35:h35 call){g0 g1 g2 g3 g4 g5 g6 g8 aA aB aC aD aE aF aG aH aI aJ aK aN aO aP aQ aR aS aT aU aV aW aX aY aZ bA bB:AV}(hR:KF n0 gg i7 i8 i9 r b2 b3 l d x c f N gY W h)
  (o0:n0<=i7.nat) (o1:r.nat<i7.nat) (o2:i7.nat<i8.nat) (o3:i8.nat<i9.nat) (o4:i9.nat<b2.nat) (o5:b2.nat<b3.nat) (o6:b3.nat<d.nat) (o7:d.nat<l.nat) :
  ∃h',cR Tryz.prog eO call eu fO n l 78 (Ep (codeOf Tryz.f78) 0) (Ey (codeOf Tryz.f78) 0) (g0::g1::g2::g3::g4::g5::g6:: .ptr i7 0::g8:: .ptr i9 0::aA::aB::aC::aD::aE::aF::aG::aH::aI::aJ::aK::i::pv::aN::aO::aP::aQ::aR::aS::aT::aU::aV::aW::aX::aY::aZ::bA::bB::[]) h=some (.ret (.bool true),h')/\KF n0 gg i7 i8 i9 r b2 b3 l d x c f N gY (OO N W p) h':=by
 have um:Tryz.prog.underlying 89=some (.map 60 60):=by kernel_rfl
 suffices hq:∀Q:Option (Aq × AH)->Prop,(∀h',KF n0 gg i7 i8 i9 r b2 b3 l d x c f N gY (OO N W p) h'->Q (some (.ret (.bool true),h')))->Q (cR Tryz.prog eO call eu fO n l 78 (Ep (codeOf Tryz.f78) 0) (Ey (codeOf Tryz.f78) 0) (g0::g1::g2::g3::g4::g5::g6:: .ptr i7 0::g8:: .ptr i9 0::aA::aB::aC::aD::aE::aF::aG::aH::aI::aJ::aK::i::pv::aN::aO::aP::aQ::aR::aS::aT::aU::aV::aW::aX::aY::aZ::bA::bB::[]) h)from
  hq (fun y=> ∃h',y=some (.ret (.bool true),h')/\KF n0 gg i7 i8 i9 r b2 b3 l d x c f N gY (OO N W p) h') fun h' h1=>⟨h',rfl,h1⟩
 intro Q hT
 conv=>arg 1;whnf
 refine Aa (Cb (z:= .agg [.int .i64 0,.int .i64 0]) (cs:=[.int .i64 0,.int .i64 0]) (by kernel_rfl) rfl rfl) ?_
 conv=>arg 1;whnf
 have hst:=Lv (h:=h) (cs0:=[.int .i64 0,.int .i64 0]) (v:=pv) (cs:=[.int .i64 p.1,.int .i64 p.2]) (T:=60) (n:=2) (P:=Tryz.prog) (by kernel_rfl) (by rw[hpv];rfl) rfl rfl rfl
 refine Aa hst ?_
 obtain⟨hget,hnx,hkeep⟩:=Jd h [.int .i64 0,.int .i64 0] [.int .i64 p.1,.int .i64 p.2] 60
 obtain⟨wG,g8,l8⟩:=hR.g8
 obtain⟨wl,g9,gw⟩:=hR.g9
 obtain⟨Lm,ck,gmr,gmv⟩:=hR.gm
 have lr:=hR.lr
 have kp:=hR.kp
 have oQ:=(kp.alloc (.cells [.int .i64 0,.int .i64 0] 60)).set (r:=h.next) (.cells [.int .i64 p.1,.int .i64 p.2] 60) kp.2
 have aja:=kp.2
 have hk2:Kept h.next.nat h ((h.alloc (.cells [.int .i64 0,.int .i64 0] 60)).set h.next (.cells [.int .i64 p.1,.int .i64 p.2] 60)):=((Kept.refl h).alloc _).set _ (acu _)
 have zJ:KZ (h.alloc (.cells [.int .i64 0,.int .i64 0] 60)) h.next:=fun n=>by rw[AH.au,if_pos rfl];simp
 have sW:=JF (SX gw (.cells [.int .i64 0,.int .i64 0] 60)) (.cells [.int .i64 p.1,.int .i64 p.2] 60) zJ
 generalize ((h.alloc (.cells [.int .i64 0,.int .i64 0] 60)).set h.next (.cells [.int .i64 p.1,.int .i64 p.2] 60))=h2 at hget hnx hk2 sW oQ ⊢
 have a7:=hk2.1 _ _ hR.g7 (by omega)
 have a8:=hk2.1 _ _ g8 (by omega)
 have a9:=hk2.1 _ _ g9 (by omega)
 have ar:=hk2.1 _ _ gmr (by omega)
 have ab2:=hk2.1 _ _ hR.pg.g2 (by omega)
 have ab3:=hk2.1 _ _ hR.pg.g3 (by omega)
 have al:=hk2.1 _ _ hR.gl (by omega)
 have ad:=hk2.1 _ _ hR.gd (by omega)
 have hql:l.nat<h.next.nat:=lr
 clear hst hkeep hk2 zJ gw hR g8 g9 gmr kp
 generalize h.next=q at hget hnx hql aja ⊢
 conv=>arg 1;whnf
 refine SF (Ki (st':= .busy) (oh:=none) al rfl) ?_
 have ngl:KZ h2 l:=fun n=>by rw[al];simp
 have gw3:=JF sW (.loop .busy none 78 gY #[21,22] (Ep (codeOf Tryz.f78) 0) (Ey (codeOf Tryz.f78) 0) d) ngl
 have k3:∀q' o,h2.get q'=some o->q'.nat≠l.nat->(h2.set l (.loop .busy none 78 gY #[21,22] (Ep (codeOf Tryz.f78) 0) (Ey (codeOf Tryz.f78) 0) d)).get q'=some o:=fun q' o hq hne=>by rw[AH.ak,if_neg (by rintro rfl;exact hne rfl)];exact hq
 have bl:(h2.set l (.loop .busy none 78 gY #[21,22] (Ep (codeOf Tryz.f78) 0) (Ey (codeOf Tryz.f78) 0) d)).get l=some (.loop .busy none 78 gY #[21,22] (Ep (codeOf Tryz.f78) 0) (Ey (codeOf Tryz.f78) 0) d):=by rw[AH.ak,if_pos rfl]
 have vG:=oQ.set (r:=l) (.loop .busy none 78 gY #[21,22] (Ep (codeOf Tryz.f78) 0) (Ey (codeOf Tryz.f78) 0) d) (by omega)
 have n3:(h2.set l (.loop .busy none 78 gY #[21,22] (Ep (codeOf Tryz.f78) 0) (Ey (codeOf Tryz.f78) 0) d)).next=h2.next:=rfl
 generalize (h2.set l (.loop .busy none 78 gY #[21,22] (Ep (codeOf Tryz.f78) 0) (Ey (codeOf Tryz.f78) 0) d))=h3 at gw3 k3 bl n3 vG ⊢
 have b7:=k3 _ _ a7 (by omega)
 have b8:=k3 _ _ a8 (by omega)
 have b9:=k3 _ _ a9 (by omega)
 have br:=k3 _ _ ar (by omega)
 have bb2:=k3 _ _ ab2 (by omega)
 have bb3:=k3 _ _ ab3 (by omega)
 have bd:=k3 _ _ ad (by omega)
 have bq:=k3 _ _ hget (by omega)
 clear sW k3 a7 a8 a9 ar ab2 ab3 al ad hget ngl
 have hn3:q.nat+1=h3.next.nat:=by rw[n3];exact hnx
 clear hnx n3
 have lm:fF h3 (Ay Tryz.prog 89 (.ptr i7 0) h3)=some (.ret (.map r),h3):=Bj (n:=1) b7 (by kernel_rfl) (by kernel_rfl) rfl
 have lp:fF h3 (Ay Tryz.prog 60 (.ptr q 0) h3)=some (.ret (Am p),h3):=Dx (n:=2) bq (by kernel_rfl) (by kernel_rfl) (by simp)
 have lk:=OG (h:=h3) um (z:=Am (0,0)) (by kernel_rfl) ⟨Lm,ck,br,gmv⟩ p
 have hval:((N p).map Am).getD (Am (0,0))=Am (AZ N p):=by unfold AZ;cases N p<;>rfl
 rw[hval]at lk
 generalize hvq:AZ N p=vq at lk
 conv=>arg 1;whnf
 refine Aa lm ?_
 conv=>arg 1;whnf
 refine Aa lp ?_
 conv=>arg 1;whnf
 refine Aa lk ?_
 generalize hpp:Am p=pp
 generalize hqq:Am vq=qq
 conv=>arg 1;whnf
 refine Aa (Cb (z:= .agg [.int .i64 0,.int .i64 0]) (cs:=[.int .i64 0,.int .i64 0]) (by kernel_rfl) rfl rfl) ?_
 have hst:=Lv (h:=h3) (cs0:=[.int .i64 0,.int .i64 0]) (v:=qq) (cs:=[.int .i64 vq.1,.int .i64 vq.2]) (T:=60) (n:=2) (P:=Tryz.prog) (by kernel_rfl) (by rw[<-hqq];rfl) rfl rfl rfl
 refine Aa hst ?_
 obtain⟨hget,hnx,hkeep⟩:=Jd h3 [.int .i64 0,.int .i64 0] [.int .i64 vq.1,.int .i64 vq.2] 60
 have hk2:Kept h3.next.nat h3 ((h3.alloc (.cells [.int .i64 0,.int .i64 0] 60)).set h3.next (.cells [.int .i64 vq.1,.int .i64 vq.2] 60)):=((Kept.refl h3).alloc _).set _ (acu _)
 have zJ:KZ (h3.alloc (.cells [.int .i64 0,.int .i64 0] 60)) h3.next:=fun n=>by rw[AH.au,if_pos rfl];simp
 have qN:=(vG.alloc (.cells [.int .i64 0,.int .i64 0] 60)).set (r:=h3.next) (.cells [.int .i64 vq.1,.int .i64 vq.2] 60) vG.2
 have gw4:=JF (SX gw3 (.cells [.int .i64 0,.int .i64 0] 60)) (.cells [.int .i64 vq.1,.int .i64 vq.2] 60) zJ
 generalize ((h3.alloc (.cells [.int .i64 0,.int .i64 0] 60)).set h3.next (.cells [.int .i64 vq.1,.int .i64 vq.2] 60))=h4 at hget hnx hk2 gw4 qN ⊢
 have c7:=hk2.1 _ _ b7 (by omega)
 have c8:=hk2.1 _ _ b8 (by omega)
 have c9:=hk2.1 _ _ b9 (by omega)
 have cr:=hk2.1 _ _ br (by omega)
 have cb2:=hk2.1 _ _ bb2 (by omega)
 have cb3:=hk2.1 _ _ bb3 (by omega)
 have cd:=hk2.1 _ _ bd (by omega)
 have cl:=hk2.1 _ _ bl (by omega)
 have cq:=hk2.1 _ _ bq (by omega)
 clear hst hkeep hk2 zJ gw3 b7 b8 b9 br bb2 bb3 bd bl bq lm lp lk
 generalize hq2:h3.next=q2 at hget hnx hn3 ⊢
 clear hq2
 have lp:fF h4 (Ay Tryz.prog 60 (.ptr q 0) h4)=some (.ret pp,h4):=by rw[<-hpp];exact Dx (n:=2) cq (by kernel_rfl) (by kernel_rfl) (by simp)
 have lq:fF h4 (Ay Tryz.prog 60 (.ptr q2 0) h4)=some (.ret qq,h4):=by rw[<-hqq];exact Dx (n:=2) hget (by kernel_rfl) (by kernel_rfl) (by simp)
 have lw:fF h4 (Ay Tryz.prog 24 (.ptr i9 2) h4)=some (.ret wl,h4):=Bj (n:=1) c9 (by kernel_rfl) (by kernel_rfl) rfl
 have done:∀(h5:AH) (oD:AV) (W':List Wr),gJ n0 gg h5->OO N W p=W'->h5.get i7=some (.cells [.map r] 89)->(∃cs,h5.get i8=some (.cells cs 26)/\cs.length=3)->h5.get i9=some (.cells [c,.int .i64 f,oD] 26)->Grow h5 oD (W'.map Az)->h5.get r=some (.map (Lm.map OQ) ck)->h5.get b2=some (.cells [x] 22)->h5.get b3=some (.cells [c,.int .i64 f,.aj] 26)->
   h5.get d=some (.defs true)->h5.get l=some (.loop .busy none 78 gY #[21,22] (Ep (codeOf Tryz.f78) 0) (Ey (codeOf Tryz.f78) 0) d)->l.nat<h5.next.nat->∀{tm:List AV},Q (jm l .normal ⟨tm,[],h5⟩):=by
  intro h5 oD W' ek hW e7 e8 e9 eg er eb2 eb3 ed el en tm
  refine LQ (y:=some (.ret (.bool true),h5.set l (.loop .ready none 78 gY #[21,22] (Ep (codeOf Tryz.f78) 0) (Ey (codeOf Tryz.f78) 0) d))) ?_ ?_
  ·simp only[Ei]
   rw[Ki (st':= .ready) (oh:=none) el rfl]
  ·have k:∀q' o,h5.get q'=some o->q'.nat≠l.nat->(h5.set l (.loop .ready none 78 gY #[21,22] (Ep (codeOf Tryz.f78) 0) (Ey (codeOf Tryz.f78) 0) d)).get q'=some o:=fun q' o hq hne=>by rw[AH.ak,if_neg (by rintro rfl;exact hne rfl)];exact hq
   obtain⟨cs,e8,e8l⟩:=e8
   refine hT _ ⟨ek.set _ (by omega),k _ _ e7 (by omega),⟨cs,k _ _ e8 (by omega),e8l⟩,⟨oD,k _ _ e9 (by omega),?_⟩,⟨Lm,ck,k _ _ er (by omega),gmv⟩,⟨k _ _ eb2 (by omega),k _ _ eb3 (by omega)⟩,by rw[AH.ak,if_pos rfl],k _ _ ed (by omega),en⟩
   rw[hW]
   exact JF eg _ (fun n=>by rw[el];simp)
 conv=>arg 1;whnf
 refine Aa lp ?_
 conv=>arg 1;whnf
 refine Aa lq ?_
 conv=>arg 1;whnf
 refine Aa (h35 pp qq p vq h4 hpp.symm hqq.symm) ?_
 conv=>arg 1;whnf
 cases e1:before p vq
 ·conv=>arg 1;whnf
  exact done h4 wl W qN (by unfold OO;rw[hvq,e1];rfl) c7 ⟨wG,c8,l8⟩ c9 gw4 cr cb2 cb3 cd cl (by omega)
 ·conv=>arg 1;whnf
  refine Aa lw ?_
  conv=>arg 1;whnf
  refine Aa lp ?_
  conv=>arg 1;whnf
  refine Aa lq ?_
  subst hpp
  subst hqq
  obtain⟨oD,h5,r1,r2,r3,r4⟩:=UQ (call:=call) (t:=(p.1,p.2,vq.1,vq.2)) (c:= .lit) gw4 (by omega)
  have ng:∀q' o,h4.get q'=some o->(∀n,o≠ .fM n)->KZ h4 q':=fun q' o hq hne n hg=>by rw[hq]at hg;exact hne n (aap hg)
  have f7:=r4 _ _ c7 (ng _ _ c7 (by simp)) (by omega)
  have f8:=r4 _ _ c8 (ng _ _ c8 (by simp)) (by omega)
  have f9:=r4 _ _ c9 (ng _ _ c9 (by simp)) (by omega)
  have fr:=r4 _ _ cr (ng _ _ cr (by simp)) (by omega)
  have fb2:=r4 _ _ cb2 (ng _ _ cb2 (by simp)) (by omega)
  have fb3:=r4 _ _ cb3 (ng _ _ cb3 (by simp)) (by omega)
  have fd:=r4 _ _ cd (ng _ _ cd (by simp)) (by omega)
  have fl:=r4 _ _ cl (ng _ _ cl (by simp)) (by omega)
  have hws:oD.scalar=true:=Af (N8 r2)
  have hwc:oD.cells=[oD]:=Dp (N8 r2)
  have s9:iM (Ce Tryz.prog 24 (.ptr i9 2) oD h5)=some (.ret Aj,h5.set i9 (.cells [c,.int .i64 f,oD] 26)):=by
   have:=EC (P:=Tryz.prog) (t:=24) (n:=1) (off:=2) (v:=oD) f9 (by kernel_rfl) (by rw[hwc];rfl) (by simp) (by rw[hwc];simp[hws])
   rw[this,hwc];rfl
  conv=>arg 1;whnf
  refine Aa r1 ?_
  conv=>arg 1;whnf
  refine Aa s9 ?_
  conv=>arg 1;whnf
  have k:∀q' o,h5.get q'=some o->q'.nat≠i9.nat->(h5.set i9 (.cells [c,.int .i64 f,oD] 26)).get q'=some o:=fun q' o hq hne=>by rw[AH.ak,if_neg (by rintro rfl;exact hne rfl)];exact hq
  exact done (h5.set i9 (.cells [c,.int .i64 f,oD] 26)) oD (W++[(p.1,p.2,vq.1,vq.2)]) (gJ.set ⟨fun q' o hq hn hlt=>r4 _ _ (qN.1 _ _ hq hn hlt) (ng _ _ (qN.1 _ _ hq hn hlt) hn) (ajF hlt qN.2),aj3 qN.2 r3⟩ _ (by omega)) (by unfold OO;rw[hvq,e1];rfl) (k _ _ f7 (by omega)) ⟨wG,k _ _ f8 (by omega),l8⟩ (by rw[AH.ak,if_pos rfl]) (JF r2 _ (fun n=>by rw[f9];simp)) (k _ _ fr (by omega)) (k _ _ fb2 (by omega)) (k _ _ fb3 (by omega)) (k _ _ fd (by omega)) (k _ _ fl (by omega)) (by rw[AH.fP];omega)
end
theorem YL{call:AA}{x:AV}{cells:List Int}{h:AH}(hx:fK x (cells.map Ad))(hb:cells.length<=1000000000) :
  ∃c' h',Bh ⟨Tryz.prog,eO,call⟩ false .append #[23,23] [.fC [] .lit,x] h=some (.ret (.fC (cells.map Ad) c'),h')/\Kept h.next.nat h h'/\IE c'= .unk:=by
 have e1:Tryz.prog.underlying 23=some (.slice 3):=by kernel_rfl
 have e2:sizeT Tryz.prog 3=some 1:=by kernel_rfl
 have e3:BL Tryz.prog 3=some (.int .i64 0):=by kernel_rfl
 have e4:Tryz.prog.bytesOf 3=8:=by kernel_rfl
 have hel:CQ Tryz.prog 3 x h=some (cells.map Ad):=by rcases hx with⟨rfl,h1⟩|⟨c,rfl⟩<;>simp_all [CQ]
 have hh:Ba 1 (cells.map Ad)=true:=by cases cells<;>rfl
 have hex:∃c' h',AX Tryz.prog false #[23,23] (.fC [] .lit) x h=some (.fC (cells.map Ad) c',h')/\Kept h.next.nat h h'/\IE c'= .unk:=by
  by_cases hn:cells=[]
  ·subst hn
   refine⟨.lit,h,?_,Kept.refl h,rfl⟩
   unfold AX
   simp[e1,e2,e3,e4,hel,Ba,AV.cells,AV.scalar]
  ·refine⟨.own h.next (cells.map Ad).length,h.alloc (.fM (cells.map Ad).length),?_,JI h _,rfl⟩
   have hl:¬(cells.map Ad).length=0:=by simp[hn]
   unfold AX
   simp only[show(#[23,23]:Array TypeId)[0]?=some 23 from rfl,show(#[23,23]:Array TypeId)[1]?=some 23 from rfl,e1,e2,e3,e4,hel,hh]
   rw[if_neg (by simp[AV.cells,AV.scalar]),if_neg hl,if_neg (by simp[Ba];omega)]
   simp
 obtain⟨c',h',q1,q2⟩:=hex
 refine⟨c',h',?_,q2⟩
 show CS (AX Tryz.prog false #[23,23] _ _ h)=_
 rw[q1];rfl
section
variable{n0:Nat}{gg:AH}{i7 i8 i9 r b2 b3 l d:Sk.Id}{x c:AV}{f:Int}
def He(N:Int × Int->Option (Int × Int)):List (Int × Int)->List Wr->List Wr
 |[],W=>W
 |p::ps,W=>He N ps (OO N W p)
theorem abU(N:Int × Int->Option (Int × Int))(W:List Wr)(p:Int × Int):(OO N W p).length<=W.length+1:=by
 unfold OO;split<;>simp
theorem aeh{iR:AA}{N:Int × Int->Option (Int × Int)}{gY:List AV}
  (Hy:∀(p:Int × Int) (i:Nat) (W:List Wr) (h:AH),W.length<=100000000->KF n0 gg i7 i8 i9 r b2 b3 l d x c f N gY W h->∃h',iR (.yield l) [.int .i64 i,Am p] h=some (.ret (.bool true),h')/\KF n0 gg i7 i8 i9 r b2 b3 l d x c f N gY (OO N W p) h') :
  ∀(ps:List (Int × Int)) (i:Nat) (W:List Wr) (h:AH),W.length+ps.length<=100000000->KF n0 gg i7 i8 i9 r b2 b3 l d x c f N gY W h->∃h',NY iR l (Es b2 b3 x c .aj f) i ps h h'/\KF n0 gg i7 i8 i9 r b2 b3 l d x c f N gY (He N ps W) h'
 |[],i,W,h,_,hR=>⟨h,.nil _ _,hR⟩
 |p::ps,i,W,h,hl,hR=>by
  simp only[ajz]at hl
  obtain⟨h',hc,hR'⟩:=Hy p i W h (by omega) hR
  have:=abU N W p
  obtain⟨h'',hY,ajb⟩:=aeh Hy ps (i+1) (OO N W p) h' (by omega) hR'
  exact⟨h'',.cons hc hR'.pg hY,ajb⟩
end
theorem Tt{l d:Sk.Id}{fn:FuncId}{tm:List AV}{ps:Array Tmp}{a b:Code}{h:AH}(hg:h.get l=some (.loop .ready none fn tm ps a b d)) :
  ∃h2,(∀tm' df,Cq l ⟨tm',df,h⟩=some (.normal,⟨tm',df,h2⟩))/\(∀q o,h.get q=some o->l≠q->h2.get q=some o)/\h2.next=h.next/\∀wl xs,Grow h wl xs->Grow h2 wl xs:=
 ⟨_,fun _ _=>KN hg,fun q o hq hne=>by rw[AH.ak,if_neg hne.symm];exact hq,rfl,fun wl xs hw=>JF hw _ (fun n=>by rw[hg];simp)⟩
theorem adL{d:Sk.Id}{tm:List AV}{h:AH}{v:AV}(rd:h.get d=some (.defs true))(hr:Cc Tryz.prog tm (h.set d (.defs false)) Tryz.f78.results.toList=some [v]):Er Tryz.prog Tryz.f78 (some (.ret,⟨tm,[d],h⟩))=some (.ret v,h.set d (.defs false)):=by
 simp only[Er,CJ,rd,hr];rfl
def KV(u:AV)(n:Nt):Prop:= ∃cc w,u= .agg [.fC (n.cells.map Ad) cc,.int .i64 n.free,w]/\((w= .aj/\n.wires=[])\/∃c,w= .fC (n.wires.map Az) c/\n.wires≠[]/\IE c= .unk)/\IE cc= .unk
theorem aau{h:AH}{l:AV}{W:List Wr}(hg:Grow h l (W.map Az)):(l= .aj/\W=[])\/∃c,l= .fC (W.map Az) c/\W≠[]/\IE c= .unk:=by
 rcases hg with⟨h1,h2⟩|⟨g,h1,h2,_⟩
 ·exact .inl ⟨h1,by simpa using h2⟩
 ·exact .inr ⟨_,h1,by simpa using h2,rfl⟩
structure C26 (call iR:AA) (x:AV) (s:List Ag):Prop where
 c32:∀{c w f} h,c.scalar=true->w.scalar=true->call (.func 68) [x,.agg [c,.int .i64 f,w]] h=some (.ret (.fn (.func 86) [] [.ptr (h.alloc (.cells [x] 22)).next 0,.ptr h.next 0]),(h.alloc (.cells [x] 22)).alloc (.cells [c,.int .i64 f,w] 26))
 c37:∀{c f cells l b2 b3 h h'},fK c (cells.map Ad)->f<=64->cells.length<=4096->Es b2 b3 x c .aj f h->NY iR l (Es b2 b3 x c .aj f) 0 (freePorts f++Au s cells 0) h h'->
  call (.func 86) [.fn (.yield l) [] [],.ptr b3 0,.ptr b2 0] h=some (.ret (.fD []),h')
 cy:∀{n0:Nat} {gg:AH} {i7 i8 i9 r b2 b3 l d:Sk.Id} {c:AV} {f:Int} {N:Int × Int->Option (Int × Int)} {g0 g1 g2 g3 g4 g5 g6 g8 aA aB aC aD aE aF aG aH aI aJ aK aL aM aN aO aP aQ aR aS aT aU aV aW aX aY aZ bA bB:AV},n0<=i7.nat->r.nat<i7.nat->i7.nat<i8.nat->i8.nat<i9.nat->i9.nat<b2.nat->b2.nat<b3.nat->b3.nat<d.nat->d.nat<l.nat->
  ∀(p:Int × Int) (i:Nat) (W:List Wr) (h:AH),W.length<=100000000->KF n0 gg i7 i8 i9 r b2 b3 l d x c f N (g0::g1::g2::g3::g4::g5::g6:: .ptr i7 0::g8:: .ptr i9 0::aA::aB::aC::aD::aE::aF::aG::aH::aI::aJ::aK::aL::aM::aN::aO::aP::aQ::aR::aS::aT::aU::aV::aW::aX::aY::aZ::bA::bB::[]) W h->
   ∃h',iR (.yield l) [.int .i64 i,Am p] h=some (.ret (.bool true),h')/\KF n0 gg i7 i8 i9 r b2 b3 l d x c f N (g0::g1::g2::g3::g4::g5::g6:: .ptr i7 0::g8:: .ptr i9 0::aA::aB::aC::aD::aE::aF::aG::aH::aI::aJ::aK::aL::aM::aN::aO::aP::aQ::aR::aS::aT::aU::aV::aW::aX::aY::aZ::bA::bB::[]) (OO N W p) h'
theorem b26(call iR eu n)(x c m:AV)(s:List Ag)(cells:List Int)(f:Int)(r:Sk.Id)(N:Int × Int->Option (Int × Int))(hm:m= .map r)(hx:AR x s)(hc:fK c (cells.map Ad))(C:C26 call iR x s)(hcl:cells.length<=4096)(hf:f<=64)(hpl:(freePorts f++Au s cells 0).length<=100000000)(h:AH)
  (hM:MapAt h r fun p=>(N p).map Am) (hr:r.nat<h.next.nat) :
  ∃u h',B fO call eu n 78 Tryz.f78 [x,c,.int .i64 f,m] h=some (.ret u,h')/\KV u ⟨cells,f,He N (freePorts f++Au s cells 0) []⟩/\gJ h.next.nat h h':=by
 suffices hq:∀Q:Option (Aq × AH)->Prop,(∀u h',KV u ⟨cells,f,He N (freePorts f++Au s cells 0) []⟩->gJ h.next.nat h h'->Q (some (.ret u,h')))->Q (B fO call eu n 78 Tryz.f78 [x,c,.int .i64 f,m] h)from
  hq (fun y=> ∃u h',y=some (.ret u,h')/\KV u ⟨cells,f,He N (freePorts f++Au s cells 0) []⟩/\gJ h.next.nat h h') fun u h' h1 h2=>⟨u,h',rfl,h1,h2⟩
 intro Q hT
 have hxs:=Af hx
 conv=>arg 1;whnf
 refine Aa (Dq (cs:=[.map r]) (by rw[hm];rfl) rfl) ?_
 conv=>arg 1;whnf
 refine Aa (Cb (z:= .agg [.aj,.int .i64 0,.aj]) (cs:=[.aj,.int .i64 0,.aj]) (by kernel_rfl) rfl rfl) ?_
 have kp0:gJ h.next.nat h h:=⟨fun q o hq _ _=>hq,acu _⟩
 have kp1:=kp0.alloc (.cells [.map r] 89)
 have oQ:=kp1.alloc (.cells [.aj,.int .i64 0,.aj] 26)
 obtain⟨Lm,ck,gr,gmv⟩:=hM
 generalize hi7:h.next=i7 at hr kp0 kp1 oQ hT ⊢
 generalize lY:h.alloc (.cells [.map r] 89)=h1 at kp1 oQ ⊢
 have n1:h1.next.nat=i7.nat+1:=by rw[<-lY,AH.bn,Id.dz,hi7]
 have a7:h1.get i7=some (.cells [.map r] 89):=by rw[<-lY,<-hi7,AH.au,if_pos rfl]
 generalize hi8:h1.next=i8 at n1 ⊢
 generalize lU:h1.alloc (.cells [.aj,.int .i64 0,.aj] 26)=h2 at oQ ⊢
 have n2:h2.next.nat=i8.nat+1:=by rw[<-lU,AH.bn,Id.dz,hi8]
 have a8:h2.get i8=some (.cells [.aj,.int .i64 0,.aj] 26):=by rw[<-lU,<-hi8,AH.au,if_pos rfl]
 have a7:h2.get i7=some (.cells [.map r] 89):=by rw[<-lU];exact kept_alloc a7 (by rw[hi8];omega)
 have ar:h2.get r=some (.map (Lm.map OQ) ck):=oQ.1 _ _ gr (by simp) hr
 clear lY lU hi7 hi8
 obtain⟨cc,h3,q1,q2,qc⟩:=YL (call:=call) (h:=h2) hc (by omega)
 conv=>arg 1;whnf
 refine Aa q1 ?_
 have vG:gJ i7.nat h h3:=⟨fun q o hq hn hlt=>q2.1 _ _ (oQ.1 _ _ hq hn hlt) (ajF hlt oQ.2),aj3 oQ.2 q2.2⟩
 have a7:=q2.1 _ _ a7 (by omega)
 have a8:=q2.1 _ _ a8 (by omega)
 have ar:=q2.1 _ _ ar (by omega)
 have n3:i8.nat+1<=h3.next.nat:=by have:=q2.2;omega
 clear q1 q2
 conv=>arg 1;whnf
 refine Aa (Cb (z:= .agg [.aj,.int .i64 0,.aj]) (cs:=[.aj,.int .i64 0,.aj]) (by kernel_rfl) rfl rfl) ?_
 conv=>arg 1;whnf
 have hst:=Lv (h:=h3) (cs0:=[.aj,.int .i64 0,.aj]) (v:= .agg [.fC (cells.map Ad) cc,.int .i64 f,.aj]) (cs:=[.fC (cells.map Ad) cc,.int .i64 f,.aj]) (T:=26) (n:=3) (P:=Tryz.prog) (by kernel_rfl) rfl rfl rfl rfl
 refine Aa hst ?_
 obtain⟨hget,hnx,hkeep⟩:=Jd h3 [.aj,.int .i64 0,.aj] [.fC (cells.map Ad) cc,.int .i64 f,.aj] 26
 have qN:=(vG.alloc (.cells [.aj,.int .i64 0,.aj] 26)).set (r:=h3.next) (.cells [.fC (cells.map Ad) cc,.int .i64 f,.aj] 26) vG.2
 generalize ((h3.alloc (.cells [.aj,.int .i64 0,.aj] 26)).set h3.next (.cells [.fC (cells.map Ad) cc,.int .i64 f,.aj] 26))=h4 at hget hnx hkeep qN ⊢
 have a7:=hkeep _ _ a7 (by omega)
 have a8:=hkeep _ _ a8 (by omega)
 have ar:=hkeep _ _ ar (by omega)
 clear hst hkeep kp0 kp1 oQ vG
 generalize hi9:h3.next=i9 at hget hnx n3 ⊢
 clear hi9
 have ln:fF h4 (Ay Tryz.prog 26 (.ptr i9 0) h4)=some (.ret (.agg [.fC (cells.map Ad) cc,.int .i64 f,.aj]),h4):=Dx (n:=3) hget (by kernel_rfl) (by kernel_rfl) (by simp)
 conv=>arg 1;whnf
 refine Aa ln ?_
 conv=>arg 1;whnf
 refine Aa (C.c32 h4 rfl rfl) ?_
 generalize hb2:h4.next=b2
 generalize qM:h4.alloc (.cells [x] 22)=h9
 have m9:h9.next.nat=b2.nat+1:=by rw[<-qM,AH.bn,Id.dz,hb2]
 have rZ:h9.get b2=some (.cells [x] 22):=by rw[<-qM,<-hb2,AH.au,if_pos rfl]
 have kp9:gJ i7.nat h h9:=by rw[<-qM];exact qN.alloc _
 generalize hb3:h9.next=b3 at m9
 generalize kK:h9.alloc (.cells [.fC (cells.map Ad) cc,.int .i64 f,.aj] 26)=h10
 have m10:h10.next.nat=b3.nat+1:=by rw[<-kK,AH.bn,Id.dz,hb3]
 have zC:h10.get b3=some (.cells [.fC (cells.map Ad) cc,.int .i64 f,.aj] 26):=by rw[<-kK,<-hb3,AH.au,if_pos rfl]
 have rZ:h10.get b2=some (.cells [x] 22):=by rw[<-kK];exact kept_alloc rZ (by rw[hb3];omega)
 have ajc:gJ i7.nat h h10:=by rw[<-kK];exact kp9.alloc _
 have up:∀q o,h4.get q=some o->q.nat<h4.next.nat->h10.get q=some o:=fun q o hq hlt=>by
  rw[<-kK,<-qM]
  refine kept_alloc (kept_alloc hq hlt) ?_
  rw[AH.bn,Id.dz];omega
 rw[hb2]at up
 have e4:h4.next.nat=b2.nat:=by rw[hb2]
 have a7:=up _ _ a7 (by omega)
 have a8:=up _ _ a8 (by omega)
 have ar:=up _ _ ar (by omega)
 have a9:=up _ _ hget (by omega)
 clear qM kK hb3 hb2 up kp9 qN hget ln
 generalize hd:h10.next=d at m10
 have hl:(Dt h10).nat=d.nat+1:=by unfold Dt;rw[AH.bn,Id.dz,hd]
 have key:∀{g0 g1 g2 g3 g4 g5 g6 g8 aA aB aC aD aE aF aG aH aI aJ aK aL aM aN aO aP aQ aR aS aT aU aV aW aX aY aZ bA bB:AV},∃h',call (.func 86) ([]++[.fn (.yield (Dt h10)) [] []]++[.ptr b3 0,.ptr b2 0]) (Dm 78 (g0::g1::g2::g3::g4::g5::g6:: .ptr i7 0::g8:: .ptr i9 0::aA::aB::aC::aD::aE::aF::aG::aH::aI::aJ::aK::aL::aM::aN::aO::aP::aQ::aR::aS::aT::aU::aV::aW::aX::aY::aZ::bA::bB::[]) #[21,22] (Ep (codeOf Tryz.f78) 0) (Ey (codeOf Tryz.f78) 0) h10)=some (.ret (.fD []),h')/\
   KF i7.nat h i7 i8 i9 r b2 b3 (Dt h10) d x (.fC (cells.map Ad) cc) f N (g0::g1::g2::g3::g4::g5::g6:: .ptr i7 0::g8:: .ptr i9 0::aA::aB::aC::aD::aE::aF::aG::aH::aI::aJ::aK::aL::aM::aN::aO::aP::aQ::aR::aS::aT::aU::aV::aW::aX::aY::aZ::bA::bB::[]) (He N (freePorts f++Au s cells 0) []) h':=by
  intro g0 g1 g2 g3 g4 g5 g6 g8 aA aB aC aD aE aF aG aH aI aJ aK aL aM aN aO aP aQ aR aS aT aU aV aW aX aY aZ bA bB
  have hk:Kept h10.next.nat h10 (Dm 78 (g0::g1::g2::g3::g4::g5::g6:: .ptr i7 0::g8:: .ptr i9 0::aA::aB::aC::aD::aE::aF::aG::aH::aI::aJ::aK::aL::aM::aN::aO::aP::aQ::aR::aS::aT::aU::aV::aW::aX::aY::aZ::bA::bB::[]) #[21,22] (Ep (codeOf Tryz.f78) 0) (Ey (codeOf Tryz.f78) 0) h10):=(JI h10 _).alloc _
  have hR:KF i7.nat h i7 i8 i9 r b2 b3 (Dt h10) d x (.fC (cells.map Ad) cc) f N (g0::g1::g2::g3::g4::g5::g6:: .ptr i7 0::g8:: .ptr i9 0::aA::aB::aC::aD::aE::aF::aG::aH::aI::aJ::aK::aL::aM::aN::aO::aP::aQ::aR::aS::aT::aU::aV::aW::aX::aY::aZ::bA::bB::[]) [] (Dm 78 (g0::g1::g2::g3::g4::g5::g6:: .ptr i7 0::g8:: .ptr i9 0::aA::aB::aC::aD::aE::aF::aG::aH::aI::aJ::aK::aL::aM::aN::aO::aP::aQ::aR::aS::aT::aU::aV::aW::aX::aY::aZ::bA::bB::[]) #[21,22] (Ep (codeOf Tryz.f78) 0) (Ey (codeOf Tryz.f78) 0) h10):=by
   refine⟨(ajc.alloc _).alloc _,hk.1 _ _ a7 (by rw[hd];omega),⟨_,hk.1 _ _ a8 (by rw[hd];omega),rfl⟩,⟨.aj,hk.1 _ _ a9 (by rw[hd];omega),.inl ⟨rfl,rfl⟩⟩,⟨Lm,ck,hk.1 _ _ ar (by rw[hd];omega),gmv⟩,
    ⟨hk.1 _ _ rZ (by rw[hd];omega),hk.1 _ _ zC (by rw[hd];omega)⟩,?_,?_,?_⟩
   ·unfold Dm Dt;rw[AH.au,if_pos rfl,hd]
   ·unfold Dm
    refine kept_alloc (by rw[<-hd,AH.au,if_pos rfl]) ?_
    rw[AH.bn,Id.dz,hd];omega
   ·unfold Dm;rw[AH.bn,Id.dz,AH.bn,Id.dz,hd];omega
  obtain⟨h',hY,hres⟩:=aeh (C.cy (acu _) (by omega) (by omega) (by omega) (by omega) (by omega) (by omega) (by omega)) (freePorts f++Au s cells 0) 0 [] _ (by simpa using hpl) hR
  exact⟨h',C.c37 (.inr ⟨_,rfl⟩) hf hcl hR.pg hY,hres⟩
 conv=>arg 1;whnf
 refine Sq key ?_
 intro h11 hR
 have hld:d.nat<(Dt h10).nat:=by omega
 obtain⟨wl,g9,gw⟩:=hR.g9
 obtain⟨wG,g8,l8⟩:=hR.g8
 obtain⟨h12,hlv,ks,kn,kg⟩:=Tt hR.gl
 have ajd:gJ i7.nat h h12:=⟨fun q o hq hn hlt=>ks _ _ (hR.kp.1 _ _ hq hn hlt) (by rintro rfl;omega),by rw[kn];exact hR.kp.2⟩
 rw[hlv]
 have d8:=ks _ _ g8 (by rintro rfl;omega)
 have d9:=ks _ _ g9 (by rintro rfl;omega)
 have dd:=ks _ _ hR.gd (by rintro rfl;omega)
 have lnn:fF h12 (Ay Tryz.prog 26 (.ptr i9 0) h12)=some (.ret (.agg [.fC (cells.map Ad) cc,.int .i64 f,wl]),h12):=Dx (n:=3) d9 (by kernel_rfl) (by kernel_rfl) (by simp)
 have hws:wl.scalar=true:=Af (N8 gw)
 have st8:iM (Ce Tryz.prog 26 (.ptr i8 0) (.agg [.fC (cells.map Ad) cc,.int .i64 f,wl]) h12)=some (.ret Aj,h12.set i8 (.cells (setCells wG 0 [.fC (cells.map Ad) cc,.int .i64 f,wl]) 26)):=
  EC (n:=3) d8 (by kernel_rfl) rfl (by omega) (by show(_&&(_&&(wl.scalar&&true)))=true;rw[hws];rfl)
 have hsc:setCells wG 0 [.fC (cells.map Ad) cc,.int .i64 f,wl]=[.fC (cells.map Ad) cc,.int .i64 f,wl]:=by
  match wG,l8 with
  |[a,b,c],_=>rfl
 rw[hsc]at st8
 conv=>arg 1;whnf
 refine Aa lnn ?_
 conv=>arg 1;whnf
 refine Aa st8 ?_
 conv=>arg 1;whnf
 have zK:d≠i8:=by rintro rfl;omega
 have r8:((h12.set i8 (.cells [.fC (cells.map Ad) cc,.int .i64 f,wl] 26)).set d (.defs false)).get i8=some (.cells [.fC (cells.map Ad) cc,.int .i64 f,wl] 26):=by
  rw[AH.ak,if_neg zK.symm,AH.ak,if_pos rfl]
 have rd:(h12.set i8 (.cells [.fC (cells.map Ad) cc,.int .i64 f,wl] 26)).get d=some (.defs true):=by rw[AH.ak,if_neg zK];exact dd
 have h8:Ay Tryz.prog 26 (.ptr i8 0) ((h12.set i8 (.cells [.fC (cells.map Ad) cc,.int .i64 f,wl] 26)).set d (.defs false))=some (.agg [.fC (cells.map Ad) cc,.int .i64 f,wl]):=by
  have:=Dx (P:=Tryz.prog) (t:=26) (n:=3) (off:=0) r8 (by kernel_rfl) (by kernel_rfl) (by simp)
  cases hv:Ay Tryz.prog 26 (.ptr i8 0) ((h12.set i8 (.cells [.fC (cells.map Ad) cc,.int .i64 f,wl] 26)).set d (.defs false))with
  |none=>rw[hv]at this;cases this
  |some v=>rw[hv]at this;simp only[fF,aai,abW,Aq.ret.injEq]at this;rw[this.1];rfl
 subst hd
 refine Ac (adL rd (v:= .agg [.fC (cells.map Ad) cc,.int .i64 f,wl]) ?_) (hT _ _ ⟨cc,wl,rfl,aau gw,qc⟩ ((ajd.set _ (by omega)).set _ (by omega)))
 show(match Ay Tryz.prog 26 (.ptr i8 0) ((h12.set i8 (.cells [.fC (cells.map Ad) cc,.int .i64 f,wl] 26)).set h10.next (.defs false)),some ([]:List AV)with|some v,some l=>some (v::l)|_,_=>none)=_
 rw[h8]
theorem adu:A9 Tryz.prog (eO 78) fO (Ep (codeOf Tryz.f78) 0)=true:=by kernel_rfl
theorem adi:A9 Tryz.prog (eO 78) fO (Ey (codeOf Tryz.f78) 0)=true:=by kernel_rfl
theorem af2:Gb (Ep (codeOf Tryz.f78) 0)=true:=by kernel_rfl
theorem agQ{i7 i9:Sk.Id}{i:Int}{p:Int × Int}{g0 g1 g2 g3 g4 g5 g6 g8 aA aB aC aD aE aF aG aH aI aJ aK aL aM aN aO aP aQ aR aS aT aU aV aW aX aY aZ bA bB:AV}:BO (g0::g1::g2::g3::g4::g5::g6:: .ptr i7 0::g8:: .ptr i9 0::aA::aB::aC::aD::aE::aF::aG::aH::aI::aJ::aK::aL::aM::aN::aO::aP::aQ::aR::aS::aT::aU::aV::aW::aX::aY::aZ::bA::bB::[]) [21,22] [.int .i64 i,Am p]=(g0::g1::g2::g3::g4::g5::g6:: .ptr i7 0::g8:: .ptr i9 0::aA::aB::aC::aD::aE::aF::aG::aH::aI::aJ::aK:: .int .i64 i::Am p::aN::aO::aP::aQ::aR::aS::aT::aU::aV::aW::aX::aY::aZ::bA::bB::[]):=by
 simp only[BO]
 rfl
theorem ae7{hk:Ar}{n:Nat}(zL:∀args h,hk 95 args h=zH 95 args h)(hn:0<n):h35 (Ah (Ak Tryz.prog eO hk) n):=fun a b p q h ha hb=>Dr (by
 rw[zL,ha,hb]
 exact CX rfl rfl) hn
theorem vN{m:Nat}(hm:5000<m)(x:AV)(s:List Ag)(hx:AR x s)(hP:∀a,0<=AL s a/\AL s a<=7) :
  C26 (Ah (Ak Tryz.prog eO Kt) (m+1)) (Ah (Ak Tryz.prog eO Kt) m) x s where
 c32:=fun{c w f} h hc hw=>AJ fO rfl Tryz.func68 rfl (by kernel_rfl) (b32 (Ah (Ak Tryz.prog eO Kt) m) (rg Tryz.prog eO Kt m 68) m x c w f h (Af hx) hc hw)
 c37:=fun{c f cells l b2 b3 h h'} hc hf hcl hG hY=>AJ fO rfl Tryz.func86 rfl (by kernel_rfl)
  (b37 (Ah (Ak Tryz.prog eO Kt) m) (rg Tryz.prog eO Kt m 86) m l b2 b3 x c .aj f s cells hx hc hP (by omega) (by omega) (by omega) (by omega) (by omega) (YU (fun _ _=>rfl) (by omega)) h h' hG hY)
 cy:=by
  intro n0 gg i7 i8 i9 r b2 b3 l d c f N g0 g1 g2 g3 g4 g5 g6 g8 aA aB aC aD aE aF aG aH aI aJ aK aL aM aN aO aP aQ aR aS aT aU aV aW aX aY aZ bA bB o0 o1 o2 o3 o4 o5 o6 o7 p i W h hW hR
  obtain⟨k,rfl⟩:∃k,m=k+1:=⟨m - 1,by omega⟩
  obtain⟨h',h1,h2⟩:=y26 (Ah (Ak Tryz.prog eO Kt) k) (rg Tryz.prog eO Kt k 78) k N W hW p (Am p) rfl (.int .i64 i) h _ (ae7 (fun _ _=>rfl) (by omega)) (g0:=g0) (g1:=g1) (g2:=g2) (g3:=g3) (g4:=g4) (g5:=g5) (g6:=g6) (g8:=g8) (aA:=aA) (aB:=aB) (aC:=aC) (aD:=aD) (aE:=aE) (aF:=aF) (aG:=aG) (aH:=aH) (aI:=aI) (aJ:=aJ) (aK:=aK) (aN:=aN) (aO:=aO) (aP:=aP) (aQ:=aQ) (aR:=aR) (aS:=aS) (aT:=aT) (aU:=aU) (aV:=aV) (aW:=aW) (aX:=aX) (aY:=aY) (aZ:=aZ) (bA:=bA) (bB:=bB) hR o0 o1 o2 o3 o4 o5 o6 o7
  exact⟨h',NN fO hR.gl rfl adu adi af2 agQ h1,h2⟩
theorem BQ{h h1:AH}{o:AO}(hh:h.alloc o=h1):h1.get h.next=some o/\h1.next.nat=h.next.nat+1/\∀q o',h.get q=some o'->q.nat<h.next.nat->h1.get q=some o':=by
 subst hh
 exact⟨by rw[AH.au,if_pos rfl],by rw[AH.bn,Id.dz],fun q o' hq hlt=>kept_alloc hq hlt⟩
abbrev Lk:=Int × Int->Option (Int × Int)
def Jm(M:Lk)(p q:Int × Int):Lk:=fun x=>if x=p then some q else M x
def Fw:List Wr->Lk->Lk
 |[],M=>M
 |w::r,M=>Fw r (Jm (Jm M (wA w) (wB w)) (wB w) (wA w))
theorem ZA:∀(W:List Wr) (M:Lk),KE W (fun p=>(M p).map Am)=fun p=>(Fw W M p).map Am
 |[],M=>rfl
 |w::r,M=>by
  have key:∀(M:Lk) p q,wE (fun p=>(M p).map Am) p (Am q)=fun x=>(Jm M p q x).map Am:=by
   intro M p q;funext x;unfold wE Jm;split<;>rfl
  simp only[KE,Fw,key]
  exact ZA r _
def Ai(W:List Wr):Lk:=Fw W fun _=>none
theorem abg(W:List Wr):KE W (fun _=>none)=fun p=>(Ai W p).map Am:=ZA W fun _=>none
theorem Tc{P:Program}{t:TypeId}{p v:AV}{h:AH}(hl:fF h (Ay P t p h)=some (.ret v,h)):Ay P t p h=some v:=by
 cases hv:Ay P t p h with
 |none=>rw[hv]at hl;cases hl
 |some u=>rw[hv]at hl;simp only[fF,aai,abW,Aq.ret.injEq]at hl;rw[hl.1]
def BA(s:List Ag)(n:Nt):Nt:=⟨n.cells,n.free,He (Ai n.wires) (Ae s n) []⟩
structure C13 (call:AA) (x:AV) (s:List Ag) (W:List Wr):Prop where
 c25:∀{v n} h,Dc v n->n.wires.length<=1000000000->call (.func 77) [x,v] h=some (.ret (.int .i64 (Ao s n).1),h)
 c27:∀{c w f} h,fK w (W.map Az)->W.length<=1000000000->c.scalar=true->∃r h',call (.func 79) [.agg [c,.int .i64 f,w]] h=some (.ret (.map r),h')/\MapAt h' r (KE W fun _=>none)/\h.next.nat<=r.nat/\r.nat<h'.next.nat/\Kept h.next.nat h h'
 vN:∀{c f cells r N} h,(∀a,0<=AL s a/\AL s a<=7)->fK c (cells.map Ad)->cells.length<=4096->f<=64->MapAt h r (fun p=>(N p).map Am)->r.nat<h.next.nat->
  ∃u h',call (.func 78) [x,c,.int .i64 f,.map r] h=some (.ret u,h')/\KV u ⟨cells,f,He N (freePorts f++Au s cells 0) []⟩/\gJ h.next.nat h h'
theorem abA{s:List Ag}{n:Nt}(h:(Ao s n).1=0):(AP s).1=0/\n.cells.length<=4096/\n.free<=64/\0<=n.free:=by
 unfold Ao at h
 split at h
 ·rename_i h0;exact absurd h h0
 ·rename_i h0
  split at h
  ·simp at h
  ·rename_i h1
   split at h
   ·simp at h
   ·rename_i h2
    refine⟨by simpa using h0,by omega,by omega,by omega⟩
theorem b13(call eu n)(x v:AV)(s:List Ag)(nt:Nt)(hx:AR x s)(hv:Dc v nt)(hl:nt.wires.length<=1000000000)(C:C13 call x s nt.wires)(hrg:∀id ops st,eu id ops st=drawn ⟨Tryz.prog,eO,call⟩ 54 ops st)(h:AH) :
  ((Ao s nt).1=0->∃u h',B fO call eu n 54 Tryz.f54 [x,v] h=some (.ret (.fD [u,.int .i64 0]),h')/\KV u (BA s nt))/\
  ((Ao s nt).1≠0->∃h',B fO call eu n 54 Tryz.f54 [x,v] h=some (.ret (.fD [.agg [.aj,.int .i64 0,.aj],.int .i64 (Ao s nt).1]),h')):=by
 suffices hq:∀Q:Option (Aq × AH)->Prop,¬Q none->((Ao s nt).1=0->∀u h',KV u (BA s nt)->Q (some (.ret (.fD [u,.int .i64 0]),h')))->
   ((Ao s nt).1≠0->∀h',Q (some (.ret (.fD [.agg [.aj,.int .i64 0,.aj],.int .i64 (Ao s nt).1]),h')))->Q (B fO call eu n 54 Tryz.f54 [x,v] h)by
  refine⟨fun h0=>hq (fun y=> ∃u h',y=some (.ret (.fD [u,.int .i64 0]),h')/\KV u (BA s nt)) (by rintro⟨_,_,h,_⟩;cases h) (fun _ u h' h1=>⟨u,h',rfl,h1⟩) (fun h1=>absurd h0 h1),
   fun h0=>hq (fun y=> ∃h',y=some (.ret (.fD [.agg [.aj,.int .i64 0,.aj],.int .i64 (Ao s nt).1]),h')) (by rintro⟨_,h⟩;cases h) (fun h1=>absurd h1 h0) (fun _ h'=>⟨h',rfl⟩)⟩
 intro Q hN hT hF
 obtain⟨c,w,rfl,hc,hw⟩:=hv
 have hcs:=Af hc
 have hws:=Af hw
 conv=>arg 1;whnf
 refine Aa (Dq (cs:=[c,.int .i64 nt.free,w]) rfl (by simp only[adP,hcs,hws,aku];rfl)) ?_
 generalize iy:h.alloc (.cells [c,.int .i64 nt.free,w] 26)=h1 at *
 obtain⟨jE,uU,kD⟩:=BQ iy
 clear iy kD
 generalize lD:h.next=i3 at *
 clear lD
 conv=>arg 1;whnf
 refine Aa (Cb (z:= .agg [.aj,.int .i64 0,.aj]) (cs:=[.aj,.int .i64 0,.aj]) (by kernel_rfl) rfl rfl) ?_
 generalize jv:h1.alloc (.cells [.aj,.int .i64 0,.aj] 26)=h2 at *
 obtain⟨zM,ajs,lu⟩:=BQ jv
 replace jE:=lu _ _ jE (by omega)
 clear jv lu
 generalize zN:h1.next=i4 at *
 clear zN
 have l3:∀h2,h2.get i3=some (.cells [c,.int .i64 nt.free,w] 26)->fF h2 (Ay Tryz.prog 26 (.ptr i3 0) h2)=some (.ret (.agg [c,.int .i64 nt.free,w]),h2):=fun h2 g=>Dx (n:=3) g (by kernel_rfl) (by kernel_rfl) (by simp)
 conv=>arg 1;whnf
 refine Aa (l3 h2 jE) ?_
 conv=>arg 1;whnf
 refine Aa (C.c25 h2 ⟨c,w,rfl,hc,hw⟩ hl) ?_
 conv=>arg 1;whnf
 cases e0:((Ao s nt).1 != 0)
 ·have e1:(Ao s nt).1=0:=by simpa using e0
  obtain⟨p1,p2,p3,p4⟩:=abA e1
  conv=>arg 1;whnf
  refine QD true (fun hh=>hh.get i3=some (.cells [c,.int .i64 nt.free,w] 26)) (T:=[0,0,2,0,8,0,32,127,255,511]) (ord:=[0,1,2,3,4,5,6,7,8,9]) (by kernel_rfl) (hrg _ _ _) hN ?_
  have lc:∀h2,h2.get i3=some (.cells [c,.int .i64 nt.free,w] 26)->fF h2 (Ay Tryz.prog 23 (.ptr i3 0) h2)=some (.ret c,h2):=fun h2 g=>Bj (n:=1) g (by kernel_rfl) (by kernel_rfl) rfl
  have lf:∀h2,h2.get i3=some (.cells [c,.int .i64 nt.free,w] 26)->fF h2 (Ay Tryz.prog 3 (.ptr i3 1) h2)=some (.ret (.int .i64 nt.free),h2):=fun h2 g=>Bj (n:=1) g (by kernel_rfl) (by kernel_rfl) rfl
  obtain⟨r,h3,q1,q2,q3,q4,q5⟩:=C.c27 (c:=c) (f:=nt.free) h2 hw hl hcs
  rw[abg]at q2
  obtain⟨u,h4,u1,u2,u3⟩:=C.vN h3 (BG p1) hc p2 p3 q2 q4
  have k3:=q5.1 _ _ jE (by omega)
  have m3:=q5.1 _ _ zM (by omega)
  have k4:=u3.1 _ _ k3 (by simp) (by have:=q5.2;omega)
  have m4:=u3.1 _ _ m3 (by simp) (by have:=q5.2;omega)
  conv=>arg 1;whnf
  refine Aa (lc h2 jE) ?_
  conv=>arg 1;whnf
  refine Aa (lf h2 jE) ?_
  conv=>arg 1;whnf
  refine Aa (l3 h2 jE) ?_
  conv=>arg 1;whnf
  refine Aa (q1) ?_
  conv=>arg 1;whnf
  refine Aa (u1) ?_
  obtain⟨cc,wl,rfl,hwl,hcc⟩:=u2
  have aje:wl.scalar=true:=by rcases hwl with⟨rfl,_⟩|⟨_,rfl,_⟩<;>rfl
  have st:iM (Ce Tryz.prog 26 (.ptr i4 0) (.agg [.fC (nt.cells.map Ad) cc,.int .i64 nt.free,wl]) h4)=some (.ret Aj,h4.set i4 (.cells [.fC (nt.cells.map Ad) cc,.int .i64 nt.free,wl] 26)):=
   EC (n:=3) m4 (by kernel_rfl) rfl (by simp) (by show(_&&(_&&(wl.scalar&&true)))=true;rw[aje];rfl)
  conv=>arg 1;whnf
  refine Aa (st) ?_
  have i34:i3≠i4:=by rintro rfl;omega
  have k5:(h4.set i4 (.cells [.fC (nt.cells.map Ad) cc,.int .i64 nt.free,wl] 26)).get i3=some (.cells [c,.int .i64 nt.free,w] 26):=by rw[AH.ak,if_neg i34];exact k4
  have ld:Ay Tryz.prog 26 (.ptr i4 0) (h4.set i4 (.cells [.fC (nt.cells.map Ad) cc,.int .i64 nt.free,wl] 26))=some (.agg [.fC (nt.cells.map Ad) cc,.int .i64 nt.free,wl]):=
   Tc (Dx (r:=i4) (off:=0) (cs:=[.fC (nt.cells.map Ad) cc,.int .i64 nt.free,wl]) (T:=26) (n:=3) (by rw[AH.ak,if_pos rfl]) (by kernel_rfl) (by kernel_rfl) (by simp))
  conv=>arg 1;whnf
  refine Wl ⟨?_,(fun k hk hp=>match k,hk,hp with|0,_,_=>jE|1,_,_=>k3|2,_,_=>k4|k+3,_,_=>k5),(fun a ha=>by cases ha),rfl⟩ ?_
  ·refine⟨trivial,trivial,fun _ hh g=>⟨hh,lc hh g⟩,trivial,fun _ hh g=>⟨hh,lf hh g⟩,fun _ hh g=>⟨hh,l3 hh g⟩,trivial,trivial,trivial,trivial,trivial⟩
  conv=>arg 1;whnf
  refine Ac (Ab (.inl rfl) (l:=[.agg [.fC (nt.cells.map Ad) cc,.int .i64 nt.free,wl],.int .i64 0]) ?_) (hT e1 _ _ ⟨cc,wl,rfl,hwl,hcc⟩)
  show(match Ay Tryz.prog 26 (.ptr i4 0) (h4.set i4 (.cells [.fC (nt.cells.map Ad) cc,.int .i64 nt.free,wl] 26)),some [AV.int .i64 0]with|some v,some l=>some (v::l)|_,_=>none)=_
  rw[ld]
 ·have e1:(Ao s nt).1≠0:=by simpa using e0
  conv=>arg 1;whnf
  have st:iM (Ce Tryz.prog 26 (.ptr i4 0) (.agg [.aj,.int .i64 0,.aj]) h2)=some (.ret Aj,h2.set i4 (.cells [.aj,.int .i64 0,.aj] 26)):=EC (n:=3) zM (by kernel_rfl) rfl (by simp) rfl
  refine Aa st ?_
  conv=>arg 1;whnf
  have ld:Ay Tryz.prog 26 (.ptr i4 0) (h2.set i4 (.cells [.aj,.int .i64 0,.aj] 26))=some (.agg [.aj,.int .i64 0,.aj]):=Tc (Dx (r:=i4) (off:=0) (cs:=[.aj,.int .i64 0,.aj]) (T:=26) (n:=3) (by rw[AH.ak,if_pos rfl]) (by kernel_rfl) (by kernel_rfl) (by simp))
  refine Ac (Ab (.inl rfl) (l:=[.agg [.aj,.int .i64 0,.aj],.int .i64 (Ao s nt).1]) ?_) (hF e1 _)
  show(match Ay Tryz.prog 26 (.ptr i4 0) (h2.set i4 (.cells [.aj,.int .i64 0,.aj] 26)),some [AV.int .i64 (Ao s nt).1]with|some v,some l=>some (v::l)|_,_=>none)=_
  rw[ld]
theorem agh{hk:Ar}{n:Nat}(zO:∀args h,hk 77 args h=Kt 77 args h)(hn:0<n){x v:AV}{s:List Ag}{nt:Nt}(h:AH)(hx:AR x s)(hv:Dc v nt)(hl:nt.wires.length<=1000000000) :
  Ah (Ak Tryz.prog eO hk) n (.func 77) [x,v] h=some (.ret (.int .i64 (Ao s nt).1),h):=Dr (by
 rw[zO]
 refine CX (by simp[BJ,CZ hx,Fb hv]) ?_
 show(match Dn (Bc x),En (Bc v)with
  |some s,some n=>if n.wires.length<=1000000000 then some (AV.int .i64 (Ao s n).1)else none
  |_,_=>none)=_
 rw[C9 hx,EZ hv];simp only[if_pos hl]) hn
theorem c13{m:Nat}(x:AV)(s:List Ag)(W:List Wr)(hx:AR x s)(hm:W.length+5010<m):C13 (Ah (Ak Tryz.prog eO Kt) m) x s W where
 c25:=fun h hv hl=>agh (fun _ _=>rfl) (by omega) h hx hv hl
 c27:=fun{c w f} h hw hl hc=>by
  obtain⟨k,rfl⟩:∃k,m=k+1:=⟨m - 1,by omega⟩
  obtain⟨r,h',q1,q2⟩:=b27 (Ah (Ak Tryz.prog eO Kt) k) (rg Tryz.prog eO Kt k 79) k c w f W hw hl (by omega) h hc
  exact⟨r,h',AJ Wz rfl Tryz.func79 rfl af8 q1,q2⟩
 vN:=fun{c f cells r N} h hP hc hcl hf hM hr=>by
  obtain⟨k,rfl⟩:∃k,m=k+1+1:=⟨m - 2,by omega⟩
  have hpl:(freePorts f++Au s cells 0).length<=100000000:=by
   have h1:(freePorts f).length<=64:=by unfold freePorts;rw[aaq,akJ];omega
   have h2:∀(cells:List Int) (i:Nat),(Au s cells i).length<=7*cells.length:=by
    intro cells
    induction cells with
    |nil=>intro i;simp[Au]
    |cons a r ih=>
     intro i
     have:=ih (i+1)
     have:=hP a
     simp only[Au,Ct,abO,aaq,akJ,ajz]
     omega
   have:=h2 cells 0
   rw[abO];omega
  obtain⟨u,h',q1,q2⟩:=b26 (Ah (Ak Tryz.prog eO Kt) (k+1)) (Ah (Ak Tryz.prog eO Kt) k) (rg Tryz.prog eO Kt (k+1) 78) (k+1) x c (.map r) s cells f r N rfl hx hc (vN (by omega) x s hx hP) hcl hf hpl h hM hr
  exact⟨u,h',AJ fO rfl Tryz.func78 rfl (by kernel_rfl) q1,q2⟩
def U7(n:Nt):AV:= .agg [.fC (n.cells.map Ad) .unk,.int .i64 n.free,match n.wires with|[]=> .aj|w::r=> .fC ((w::r).map Az) .unk]
theorem adR(n:Nt):Dc (U7 n) n:=by
 refine⟨_,_,rfl,.inr ⟨_,rfl⟩,?_⟩
 cases n.wires with
 |nil=>exact .inl ⟨rfl,rfl⟩
 |cons w r=>exact .inr ⟨_,rfl⟩
theorem XB{u:AV}{n:Nt}(h:KV u n):Bc u=U7 n/\BN u=true:=by
 obtain⟨cc,w,rfl,hw,hcc⟩:=h
 have e1:CB (n.cells.map Ad)=n.cells.map Ad:=Jw (fun _=>rfl) _
 have e2:CB (n.wires.map Az)=n.wires.map Az:=Jw (fun _=>rfl) _
 have f1:BJ (n.cells.map Ad)=true:=JL (fun _=>rfl) _
 have f2:BJ (n.wires.map Az)=true:=JL (fun _=>rfl) _
 rcases hw with⟨rfl,h1⟩|⟨c,rfl,h1,hc⟩
 ·constructor
  ·show AV.agg [.fC (CB (n.cells.map Ad)) (IE cc),.int .i64 n.free,.aj]=_
   rw[e1,hcc];unfold U7;rw[h1]
  ·show(BJ (n.cells.map Ad)&&_)=true
   rw[f1];rfl
 ·constructor
  ·show AV.agg [.fC (CB (n.cells.map Ad)) (IE cc),.int .i64 n.free,.fC (CB (n.wires.map Az)) (IE c)]=_
   rw[e1,e2,hcc,hc];unfold U7
   cases hw:n.wires with
   |nil=>exact absurd hw h1
   |cons w r=>rfl
  ·show(BJ (n.cells.map Ad)&&(true&&(BJ (n.wires.map Az)&&true)))=true
   rw[f1,f2];rfl
def ag8:AV:= .agg [.aj,.int .i64 0,.aj]
def NI(s:List Ag)(n:Nt):AV:=if(Ao s n).1=0 then .fD [U7 (BA s n),.int .i64 0]else .fD [ag8,.int .i64 (Ao s n).1]
def s13:List AV->Option AV
 |[x,v]=>match Dn x,En v with
  |some s,some n=>if n.wires.length<=1000000000 then some (NI s n)else none
  |_,_=>none
 |_=>none
def zP:=Bb Kt 54 s13
theorem E13:Bq (Ak Tryz.prog eO zP):=Fj E25 fun args v hs=>by
 unfold s13 at hs;split at hs
 ·rename_i x v'
  split at hs
  ·rename_i s n h1 h2
   split at hs
   ·rename_i hl
    cases hs
    have hx:=Bn h1
    obtain⟨b1,b2⟩:=b13 (Ah (Ak Tryz.prog eO Kt) (n.wires.length+6000)) (rg Tryz.prog eO Kt (n.wires.length+6000) 54) (n.wires.length+6000) x v' s n hx (DX h2) hl (c13 x s n.wires hx (by omega)) (fun _ _ _=>rfl) .empty
    by_cases h0:(Ao s n).1=0
    ·obtain⟨u,h',q1,q2⟩:=b1 h0
     obtain⟨w1,w2⟩:=XB q2
     refine⟨.fD [u,.int .i64 0],by show(BN u&&true)=true;rw[w2];rfl,?_,Cu fO rfl Tryz.func54 rfl (by kernel_rfl) q1⟩
     unfold NI;rw[if_pos h0]
     show _=AV.fD [Bc u,.int .i64 0]
     rw[w1]
    ·obtain⟨h',q1⟩:=b2 h0
     refine⟨.fD [ag8,.int .i64 (Ao s n).1],rfl,?_,Cu fO rfl Tryz.func54 rfl (by kernel_rfl) q1⟩
     unfold NI;rw[if_neg h0];rfl
   ·cases hs
  ·cases hs
 ·cases hs
def lT(call:AA):Prop:= ∀x v s n h,AR x s->Dc v n->n.wires.length<=1000000000->call (.func 54) [x,v] h=some (.ret (NI s n),h)
theorem acX{hk:Ar}{n:Nat}(zQ:∀args h,hk 54 args h=zP 54 args h)(hn:0<n):lT (Ah (Ak Tryz.prog eO hk) n):=fun x v s nt h hx hv hl=>Dr (by
 rw[zQ]
 refine CX (by simp[BJ,CZ hx,Fb hv]) ?_
 show(match Dn (Bc x),En (Bc v)with
  |some s,some n=>if n.wires.length<=1000000000 then some (NI s n)else none
  |_,_=>none)=_
 rw[C9 hx,EZ hv];simp only[if_pos hl]) hn
theorem JB{h h1:AH}{i:Sk.Id}{o:AO}(hh:h.set i o=h1):h1.get i=some o/\h1.next=h.next/\∀q o',h.get q=some o'->q≠i->h1.get q=some o':=by
 subst hh
 exact⟨by rw[AH.ak,if_pos rfl],AH.fP ..,fun q o' hq hne=>by rw[AH.ak,if_neg hne];exact hq⟩
theorem wrap_small{a:Int}(h1: -1000000000<=a)(h2:a<=1000000000):IntKind.i64.wrap a=a:=by
 simp[IntKind.wrap,IntKind.bits,IntKind.signed];omega
abbrev Pt:=Int × Int
def ou(p q:Pt):Wr:=(p.1,p.2,q.1,q.2)
theorem ahr(p q:Pt):wA (ou p q)=p:=rfl
theorem aeg(p q:Pt):wB (ou p q)=q:=rfl
def ends:List Wr->List Pt
 |[]=>[]
 |w::r=>wA w::wB w::ends r
theorem UM{s:List Ag}{cells:List Int}{f:Int}:∀{W:List Wr} {i:Nat} {S S':Sn},FB s cells f W i S= .inr S'->
  (∀p∈ends W,Bw s cells f p=true)/\(ends W).Nodup/\(∀p∈ends W,S p=false)/\∀p,S' p=true ↔ S p=true\/p∈ends W
 |[],i,S,S',h=>by
  simp only[FB,Sum.inr.injEq]at h;subst h
  simp[ends]
 |w::r,i,S,S',h=>by
  simp only[FB]at h
  cases e1:(!Bw s cells f (wA w)||!Bw s cells f (wB w))with
  |true=>rw[e1]at h;cases h
  |false=>
   rw[e1]at h
   simp only[cond_false]at h
   cases e2:(S (wA w)||S (wB w)||(wA w==wB w))with
   |true=>rw[e2]at h;cases h
   |false=>
    rw[e2]at h
    simp only[cond_false]at h
    obtain⟨h1,h2,h3,h4⟩:=UM h
    simp only[alf,Bool.not_eq_false',beq_eq_false_iff_ne,ne_eq]at e1 e2
    obtain⟨p1,p2⟩:=e1
    obtain⟨⟨q1,q2⟩,q3⟩:=e2
    have k:∀p∈ends r,p≠wA w/\p≠wB w/\S p=false:=fun p hp=>by
     have:=h3 p hp
     unfold MH at this
     split at this
     ·cases this
     ·rename_i n1
      split at this
      ·cases this
      ·rename_i n2;exact⟨n2,n1,this⟩
    refine⟨fun p hp=>?_,?_,fun p hp=>?_,fun p=>?_⟩
    ·simp only[ends,adf]at hp
     rcases hp with rfl|rfl|hp
     ·exact p1
     ·exact p2
     ·exact h1 p hp
    ·simp only[ends,akC,adf,not_or]
     exact⟨⟨q3,fun hm=>(k _ hm).1 rfl⟩,fun hm=>(k _ hm).2.1 rfl,h2⟩
    ·simp only[ends,adf]at hp
     rcases hp with rfl|rfl|hp
     ·exact q1
     ·exact q2
     ·exact(k p hp).2.2
    ·rw[h4]
     simp only[ends,adf,MH]
     by_cases n1:p=wB w
     ·simp[n1]
     ·by_cases n2:p=wA w
      ·simp[n1,n2]
      ·simp[n1,n2]
theorem TN{s:List Ag}{cells:List Int}{f:Int}:∀{W:List Wr} {i:Nat} {S:Sn},(∀p∈ends W,Bw s cells f p=true)->(ends W).Nodup->(∀p∈ends W,S p=false)->
  ∃S',FB s cells f W i S= .inr S'/\∀p,S' p=true ↔ S p=true\/p∈ends W
 |[],i,S,_,_,_=>⟨S,rfl,by simp[ends]⟩
 |w::r,i,S,h1,h2,h3=>by
  simp only[ends,akC,adf,not_or]at h2
  obtain⟨⟨n1,n2⟩,n3,n4⟩:=h2
  have a1:=h1 (wA w) (by simp[ends])
  have a2:=h1 (wB w) (by simp[ends])
  have b1:=h3 (wA w) (by simp[ends])
  have b2:=h3 (wB w) (by simp[ends])
  obtain⟨S',e1,e2⟩:=TN (i:=i+1) (S:=MH (MH S (wA w)) (wB w)) (fun p hp=>h1 p (by simp[ends,hp])) n4 (fun p hp=>by
   have hA:p≠wA w:=by rintro rfl;exact n2 hp
   have hB:p≠wB w:=by rintro rfl;exact n3 hp
   simp only[MH,if_neg hA,if_neg hB]
   exact h3 p (by simp[ends,hp]))
  refine⟨S',?_,fun p=>?_⟩
  ·have:(wA w==wB w)=false:=by simpa using n1
   simp only[FB,a1,a2,b1,b2,this,alh,Bool.or_self,cond_false]
   exact e1
  ·rw[e2]
   simp only[ends,adf,MH]
   by_cases n1:p=wB w
   ·simp[n1]
   ·by_cases n2:p=wA w
    ·simp[n1,n2]
    ·simp[n1,n2]
theorem WU{S:Sn}:∀{ps:List Pt} {i:Nat},(IJ S ps i).1=0->∀p∈ps,S p=true
 |[],_,_=>by simp
 |p::r,i,h=>by
  simp only[IJ]at h
  split at h
  ·simp at h
  ·rename_i hp
   intro q hq
   rcases adf.1 hq with rfl|hq
   ·simpa using hp
   ·exact WU h q hq
theorem Xb{S:Sn}:∀{ps:List Pt} {i:Nat},(∀p∈ps,S p=true)->IJ S ps i=(0,0)
 |[],_,_=>rfl
 |p::r,i,h=>by
  simp only[IJ]
  rw[if_neg (by simp[h p])]
  exact Xb fun q hq=>h q (akr _ hq)
structure fQ (s:List Ag) (n:Nt):Prop where
 sg:(AP s).1=0
 cl:n.cells.length<=4096
 f1:n.free<=64
 f0:0<=n.free
 bc:CR s.length n.cells 0=none
 ip:∀p∈ends n.wires,Bw s n.cells n.free p=true
 nd:(ends n.wires).Nodup
 al:∀p∈Ae s n,p∈ends n.wires
theorem Cn{s:List Ag}{n:Nt}(h:(Ao s n).1=0):fQ s n:=by
 obtain⟨p1,p2,p3,p4⟩:=abA h
 unfold Ao at h
 rw[if_neg (by simpa using p1),if_neg (by omega),if_neg (by omega)]at h
 split at h
 ·simp at h
 ·rename_i hb
  split at h
  ·rename_i e he
   have:∀{W:List Wr} {i:Nat} {S:Sn} {e:Int × Int},FB s n.cells n.free W i S= .inl e->e.1≠0:=by
    intro W
    induction W with
    |nil=>intro i S e h;cases h
    |cons w r ih=>
     intro i S e h
     simp only[FB]at h
     cases e1:(!Bw s n.cells n.free (wA w)||!Bw s n.cells n.free (wB w))with
     |true=>rw[e1]at h;simp only[cond_true,Sum.inl.injEq]at h;subst h;simp
     |false=>
      rw[e1]at h
      simp only[cond_false]at h
      cases e2:(S (wA w)||S (wB w)||(wA w==wB w))with
      |true=>rw[e2]at h;simp only[cond_true,Sum.inl.injEq]at h;subst h;simp
      |false=>rw[e2]at h;exact ih h
   exact absurd h (this he)
  ·rename_i S hS
   obtain⟨h1,h2,h3,h4⟩:=UM hS
   refine⟨p1,p2,p3,p4,hb,h1,h2,fun p hp=>?_⟩
   have:=(h4 p).1 (WU h p hp)
   simpa using this
theorem fQ.nN{s:List Ag}{n:Nt}(g:fQ s n):Ao s n=(0,0):=by
 unfold Ao
 rw[if_neg (by simpa using g.sg),if_neg (by have:=g.cl;have:=g.f1;omega),if_neg (by have:=g.f0;omega),g.bc]
 obtain⟨S',e1,e2⟩:=TN (i:=0) (S:=fun _=>false) g.ip g.nd (fun _ _=>rfl)
 simp only[e1]
 exact Xb fun p hp=>(e2 p).2 (.inr (g.al p hp))
theorem DT{f:Int}{p:Pt}:p∈freePorts f ↔ p.1= -1/\0<=p.2/\p.2<f:=by
 unfold freePorts
 simp only[ajA,List.mem_range'_1]
 constructor
 ·rintro⟨k,hk,rfl⟩
  refine⟨rfl,?_,?_⟩<;>simp only<;>omega
 ·rintro⟨h1,h2,h3⟩
  exact⟨p.2.toNat,by omega,by ext<;>simp[h1]<;>omega⟩
theorem MP{s:List Ag}{c:Nat}{a:Int}{p:Pt}:p∈Ct s c a ↔ p.1=c/\0<=p.2/\p.2<AL s a:=by
 unfold Ct
 simp only[ajA,List.mem_range'_1]
 constructor
 ·rintro⟨k,hk,rfl⟩
  refine⟨rfl,?_,?_⟩<;>simp only<;>omega
 ·rintro⟨h1,h2,h3⟩
  exact⟨p.2.toNat,by omega,by ext<;>simp[h1]<;>omega⟩
theorem EL{s:List Ag}{p:Pt}:∀{cells:List Int} {c:Nat},p∈Au s cells c ↔ ∃i a,cells[i]?=some a/\p.1=((c+i:Nat):Int)/\0<=p.2/\p.2<AL s a
 |[],c=>by simp[Au]
 |a::r,c=>by
  simp only[Au,acS,MP,EL (cells:=r) (c:=c+1)]
  constructor
  ·rintro(⟨h1,h2⟩|⟨i,b,h1,h2,h3⟩)
   ·exact⟨0,a,rfl,by simpa using h1,h2⟩
   ·exact⟨i+1,b,by simpa using h1,by rw[h2];congr 1;omega,h3⟩
  ·rintro⟨i,b,h1,h2,h3⟩
   cases i with
   |zero=>
    simp only[ajv,aai]at h1
    subst h1
    exact .inl ⟨by simpa using h2,h3⟩
   |succ i=>exact .inr ⟨i,b,by simpa using h1,by rw[h2];congr 1;omega,h3⟩
theorem BH{s:List Ag}{n:Nt}{p:Pt}:Bw s n.cells n.free p=true ↔ p∈Ae s n:=by
 unfold Ae
 rw[acS,DT,EL]
 unfold Bw
 by_cases h:p.1= -1
 ·simp only[h,beq_self_eq_true,if_true,aci,decide_eq_true_eq,true_and]
  constructor
  ·intro h1;exact .inl ⟨by omega,h1.2⟩
  ·rintro(h1|⟨i,a,_,h1,_⟩)
   ·exact⟨by omega,h1.2⟩
   ·omega
 ·have hb:(p.1== -1)=false:=by simpa using h
  simp only[hb,ajI,if_false,aci,decide_eq_true_eq,h,false_and,false_or]
  constructor
  ·rintro⟨⟨⟨h1,h2⟩,h3⟩,h4⟩
   split at h4
   ·rename_i a ha
    exact⟨p.1.toNat,a,ha,by simp;omega,by omega,by simpa using h4⟩
   ·cases h4
  ·rintro⟨i,a,h1,h2,h3,h4⟩
   have e:p.1.toNat=i:=by rw[h2];simp
   have hi:=(abo.1 h1).1
   rw[e,h1]
   refine⟨⟨⟨by omega,by rw[h2];simp;omega⟩,by omega⟩,by simpa using h4⟩
theorem Pw{α β:Type}{f:α->β}(hf:∀a b,f a=f b->a=b):∀{l:List α},l.Nodup->(l.map f).Nodup
 |[],_=>by simp
 |a::r,h=>by
  simp only[akC,aju]at h ⊢
  refine⟨fun hm=>?_,Pw hf h.2⟩
  obtain⟨b,hb,he⟩:=ajA.1 hm
  exact h.1 (hf _ _ he▸hb)
theorem P8(s:List Ag)(n:Nt):(Ae s n).Nodup:=by
 have r:∀m:Nat,(List.range' 0 m).Nodup:=fun m=>List.nodup_range'
 have hc:∀(cells:List Int) (c:Nat),(Au s cells c).Nodup:=by
  intro cells
  induction cells with
  |nil=>intro c;simp[Au]
  |cons a t ih=>
   intro c
   simp only[Au]
   rw[ak0]
   refine⟨Pw (fun a b h=>by have h2:=congrArg Prod.snd h;simp only at h2;omega) (r _),ih _,fun x hx y hy=>?_⟩
   obtain⟨h1,_⟩:=MP.1 hx
   obtain⟨i,b,_,h2,_⟩:=EL.1 hy
   rintro rfl
   omega
 unfold Ae
 rw[ak0]
 refine⟨Pw (fun a b h=>by have h2:=congrArg Prod.snd h;simp only at h2;omega) (r _),hc _ _,fun x hx y hy=>?_⟩
 obtain⟨h1,_⟩:=DT.1 hx
 obtain⟨i,b,_,h2,_⟩:=EL.1 hy
 rintro rfl
 omega
theorem K5:∀{W:List Wr} {M:Lk} {p:Pt},p ∉ ends W->Fw W M p=M p
 |[],M,p,_=>rfl
 |w::r,M,p,h=>by
  simp only[ends,adf,not_or]at h
  simp only[Fw]
  rw[K5 h.2.2]
  unfold Jm
  rw[if_neg h.2.1,if_neg h.1]
theorem F4:∀{W:List Wr} {M:Lk},(ends W).Nodup->∀w∈W,Fw W M (wA w)=some (wB w)/\Fw W M (wB w)=some (wA w)
 |[],M,_,w,h=>by cases h
 |v::r,M,hn,w,h=>by
  simp only[ends,akC,adf,not_or]at hn
  obtain⟨⟨n1,n2⟩,n3,n4⟩:=hn
  simp only[Fw]
  rcases adf.1 h with rfl|h
  ·rw[K5 n2,K5 n3]
   unfold Jm
   exact⟨by rw[if_neg n1,if_pos rfl],by rw[if_pos rfl]⟩
  ·exact F4 n4 w h
theorem Iu{W:List Wr}{p:Pt}(h:p∈ends W):∃w∈W,p=wA w\/p=wB w:=by
 induction W with
 |nil=>cases h
 |cons v r ih=>
  simp only[ends,adf]at h
  rcases h with rfl|rfl|h
  ·exact⟨v,by simp,.inl rfl⟩
  ·exact⟨v,by simp,.inr rfl⟩
  ·obtain⟨w,hw,hp⟩:=ih h
   exact⟨w,by simp[hw],hp⟩
theorem gP{W:List Wr}{w:Wr}(h:w∈W):wA w∈ends W/\wB w∈ends W:=by
 induction W with
 |nil=>cases h
 |cons v r ih=>
  rcases adf.1 h with rfl|h
  ·simp[ends]
  ·have:=ih h
   simp[ends,this]
theorem WH:∀{W:List Wr},(ends W).Nodup->∀w∈W,wA w≠wB w
 |[],_,w,h=>by cases h
 |v::r,hn,w,h=>by
  simp only[ends,akC,adf,not_or]at hn
  rcases adf.1 h with rfl|h
  ·exact hn.1.1
  ·exact WH hn.2.2 w h
structure Inv (M:Lk) (ps:List Pt):Prop where
 nd:ps.Nodup
 of:∀p∈ps,∃q∈ps,M p=some q/\M q=some p/\q≠p
theorem fQ.inv{s:List Ag}{n:Nt}(g:fQ s n):Inv (Ai n.wires) (Ae s n) where
 nd:=P8 s n
 of:=fun p hp=>by
  obtain⟨w,hw,h⟩:=Iu (g.al p hp)
  obtain⟨m1,m2⟩:=F4 (M:=fun _=>none) g.nd w hw
  obtain⟨e1,e2⟩:=gP hw
  have hne:wA w≠wB w:=WH g.nd w hw
  rcases h with rfl|rfl
  ·exact⟨wB w,BH.1 (g.ip _ e2),m1,m2,hne.symm⟩
  ·exact⟨wA w,BH.1 (g.ip _ e1),m2,m1,hne⟩
theorem Z7{p q:Pt}(h:q≠p):before p q=true\/before q p=true:=by
 unfold before
 simp only[ajM,aci,decide_eq_true_eq,beq_iff_eq]
 have:¬(p.1=q.1/\p.2=q.2):=fun⟨a,b⟩=>h (Prod.ext a.symm b.symm)
 omega
theorem Ry{p q:Pt}(h:before p q=true):before q p=false:=by
 unfold before at h ⊢
 simp only[ajM,aci,decide_eq_true_eq,beq_iff_eq]at h
 rw[Bool.eq_false_iff]
 simp only[ne_eq,ajM,aci,decide_eq_true_eq,beq_iff_eq]
 omega
def tw(M:Lk):List Pt->List Wr
 |[]=>[]
 |p::r=>if before p (AZ M p)then ou p (AZ M p)::tw M r else tw M r
theorem OT(M:Lk):∀(ps:List Pt) (W:List Wr),He M ps W=W++tw M ps
 |[],W=>by simp[He,tw]
 |p::r,W=>by
  simp only[He,tw,OO]
  rw[OT M r]
  split
  ·simp[ou]
  ·rfl
theorem MS{M:Lk}{w:Wr}:∀{ps:List Pt},w∈tw M ps ↔ ∃p∈ps,before p (AZ M p)=true/\w=ou p (AZ M p)
 |[]=>by simp[tw]
 |p::r=>by
  simp only[tw]
  by_cases h:before p (AZ M p)=true
  ·rw[if_pos h,adf,MS (ps:=r)]
   constructor
   ·rintro(rfl|⟨q,h1,h2⟩)
    ·exact⟨p,by simp,h,rfl⟩
    ·exact⟨q,by simp[h1],h2⟩
   ·rintro⟨q,h1,h2⟩
    rcases adf.1 h1 with rfl|h1
    ·exact .inl h2.2
    ·exact .inr ⟨q,h1,h2⟩
  ·rw[if_neg h,MS (ps:=r)]
   constructor
   ·rintro⟨q,h1,h2⟩;exact⟨q,by simp[h1],h2⟩
   ·rintro⟨q,h1,h2⟩
    rcases adf.1 h1 with rfl|h1
    ·exact absurd h2.1 h
    ·exact⟨q,h1,h2⟩
theorem NW{M N:Lk}:∀{ps:List Pt},(∀p∈ps,AZ M p=AZ N p)->tw M ps=tw N ps
 |[],_=>rfl
 |p::r,h=>by
  simp only[tw]
  rw[h p (by simp),NW (ps:=r) fun q hq=>h q (by simp[hq])]
theorem Inv.val{M:Lk}{ps:List Pt}(i:Inv M ps){p:Pt}(hp:p∈ps):AZ M p∈ps/\M p=some (AZ M p)/\AZ M (AZ M p)=p/\AZ M p≠p:=by
 obtain⟨q,h1,h2,h3,h4⟩:=i.of p hp
 have e:AZ M p=q:=by unfold AZ;rw[h2];rfl
 have e2:AZ M q=p:=by unfold AZ;rw[h3];rfl
 rw[e]
 exact⟨h1,h2,e2,h4⟩
theorem Inv.gP{M:Lk}{ps:List Pt}(i:Inv M ps)(p:Pt):p∈ends (tw M ps) ↔ p∈ps:=by
 constructor
 ·intro h
  obtain⟨w,hw,hp⟩:=Iu h
  obtain⟨q,hq,_,rfl⟩:=MS.1 hw
  rcases hp with rfl|rfl
  ·exact hq
  ·exact(i.val hq).1
 ·intro h
  obtain⟨v1,v2,v3,v4⟩:=i.val h
  rcases Z7 v4 with hb|hb
  ·exact(Nt.gP (MS.2 ⟨p,h,hb,rfl⟩)).1
  ·have:=(Nt.gP (MS.2 ⟨AZ M p,v1,by rw[v3];exact hb,rfl⟩)).2
   rw[aeg,v3]at this;exact this
theorem Inv.nodup{M:Lk}{full:List Pt}(i:Inv M full):∀{ps:List Pt},(∀p∈ps,p∈full)->ps.Nodup->(ends (tw M ps)).Nodup
 |[],_,_=>by simp[tw,ends]
 |p::r,hs,hn=>by
  simp only[akC]at hn
  have ih:=i.nodup (ps:=r) (fun q hq=>hs q (by simp[hq])) hn.2
  simp only[tw]
  split
  ·rename_i hb
   obtain⟨v1,v2,v3,v4⟩:=i.val (hs p (by simp))
   have key:∀x∈ends (tw M r),x≠p/\x≠AZ M p:=fun x hx=>by
    obtain⟨w,hw,hx⟩:=Iu hx
    obtain⟨q,hq,hqb,rfl⟩:=MS.1 hw
    obtain⟨u1,u2,u3,u4⟩:=i.val (hs q (by simp[hq]))
    have hqp:q≠p:=by rintro rfl;exact hn.1 hq
    have n1:AZ M q≠p:=fun e=>by
     rw[e]at u3 hqb
     rw[u3]at hb
     have h1:=Ry hb
     rw[hqb]at h1;cases h1
    rcases hx with rfl|rfl
    ·exact⟨hqp,fun e=>n1 (by have:q=AZ M p:=e;rw[this];exact v3)⟩
    ·refine⟨n1,fun e=>hqp ?_⟩
     have e:AZ M q=AZ M p:=e
     rw[<-u3,e,v3]
   simp only[ends,akC,adf,not_or]
   exact⟨⟨fun e=>v4 e.symm,fun hm=>(key _ hm).1 rfl⟩,fun hm=>(key _ hm).2 rfl,ih⟩
  ·exact ih
theorem Inv.links{M:Lk}{ps:List Pt}(i:Inv M ps){p:Pt}(hp:p∈ps):Ai (tw M ps) p=M p:=by
 have hn:=i.nodup (fun _ h=>h) i.nd
 obtain⟨w,hw,h⟩:=Iu ((i.gP p).2 hp)
 obtain⟨m1,m2⟩:=F4 (M:=fun _=>none) hn w hw
 obtain⟨q,hq,hqb,rfl⟩:=MS.1 hw
 obtain⟨u1,u2,u3,u4⟩:=i.val hq
 obtain⟨v1,v2,v3,v4⟩:=i.val hp
 rcases h with rfl|rfl
 ·rw[v2];exact m1
 ·rw[v2]
  have e:AZ M (wB (ou q (AZ M q)))=q:=u3
  rw[e];exact m2
theorem F7(s:List Ag)(n:Nt):BA s n=⟨n.cells,n.free,tw (Ai n.wires) (Ae s n)⟩:=by
 unfold BA;rw[OT];rfl
theorem fQ.tidy{s:List Ag}{n:Nt}(g:fQ s n):fQ s (BA s n)/\(∀p∈Ae s n,Ai (BA s n).wires p=Ai n.wires p)/\BA s (BA s n)=BA s n:=by
 have i:=g.inv
 have hl:∀p∈Ae s n,Ai (BA s n).wires p=Ai n.wires p:=fun p hp=>by
  rw[F7];exact i.links hp
 refine⟨?_,hl,?_⟩
 ·rw[F7]
  exact⟨g.sg,g.cl,g.f1,g.f0,g.bc,fun p hp=>BH (n:=⟨n.cells,n.free,_⟩).2 ((i.gP p).1 hp),i.nodup (fun _ h=>h) i.nd,fun p hp=>(i.gP p).2 hp⟩
 ·rw[F7 s (BA s n)]
  have e1:(BA s n).cells=n.cells:=rfl
  have e2:(BA s n).free=n.free:=rfl
  have e3:Ae s (BA s n)=Ae s n:=rfl
  rw[e1,e2,e3,NW (N:=Ai n.wires) (fun p hp=>by unfold AZ;rw[hl p hp]),<-F7]
def Cz(s:List Ag):List Int->Int->List Int
 |[],_=>[]
 |a::r,wH=>wH::Cz s r (wH+AL s a)
def GV(s:List Ag):List Int->Int->Int
 |[],wH=>wH
 |a::r,wH=>GV s r (wH+AL s a)
def Br(s:List Ag)(n:Nt)(p:Pt):Int:=
 if p.1= -1 then(if p.2<0\/p.2>=n.free then -1 else p.2)
 else if Bw s n.cells n.free p=false then -1
 else(Cz s n.cells n.free).getD p.1.toNat 0+p.2
theorem QX(s:List Ag):∀(cells:List Int) (a:Int),(Cz s cells a).length=cells.length
 |[],_=>rfl
 |x::r,a=>by simp[Cz,QX s r]
theorem SN{s:List Ag}(hP:∀a,0<=AL s a):∀(cells:List Int) (c:Nat) (X:List Pt),GV s cells X.length=((X++Au s cells c).length:Nat)
 |[],c,X=>by simp[GV,Au]
 |a::r,c,X=>by
  have h:=SN hP r (c+1) (X++Ct s c a)
  have hl:((X++Ct s c a).length:Nat)=(X.length:Int)+AL s a:=by
   have:=hP a
   simp[Ct];omega
  simp only[GV,Au]
  rw[<-hl,h,ab7]
theorem WL{s:List Ag}(hP:∀a,0<=AL s a):∀(cells:List Int) (c:Nat) (X:List Pt) (i:Nat) (a:Int) (k:Nat),cells[i]?=some a->(k:Int)<AL s a->
  ∃v:Nat,(Cz s cells X.length)[i]?=some (v:Int)/\(X++Au s cells c)[v+k]?=some (((c+i:Nat):Int),(k:Int))
 |[],c,X,i,a,k,h,_=>by simp at h
 |x::r,c,X,0,a,k,h,hk=>by
  simp only[ajv,aai]at h
  subst h
  refine⟨X.length,rfl,?_⟩
  rw[adU (by omega)]
  simp only[Au]
  rw[ajB (by simp[Ct];omega)]
  unfold Ct
  rw[abG,List.getElem?_range' (by omega)]
  simp
 |x::r,c,X,i+1,a,k,h,hk=>by
  simp only[ajT]at h
  obtain⟨v,h1,h2⟩:=WL hP r (c+1) (X++Ct s c x) i a k h hk
  have hl:((X++Ct s c x).length:Nat)=(X.length:Int)+AL s x:=by
   have:=hP x
   simp[Ct];omega
  rw[hl]at h1
  refine⟨v,by simpa[Cz]using h1,?_⟩
  simp only[Au]
  rw[<-ab7,h2]
  congr 2
  omega
theorem El{s:List Ag}{n:Nt}(hP:∀a,0<=AL s a)(hf:0<=n.free){p:Pt}(h:Bw s n.cells n.free p=true):∃v:Nat,Br s n p=v/\(Ae s n)[v]?=some p:=by
 have hm:=BH.1 h
 unfold Br
 by_cases h1:p.1= -1
 ·rw[if_pos h1]
  have hp:p∈freePorts n.free:=by
   unfold Ae at hm
   rcases acS.1 hm with h|h
   ·exact h
   ·obtain⟨i,a,_,hc,_⟩:=EL.1 h;omega
  obtain⟨_,m2,m3⟩:=DT.1 hp
  rw[if_neg (by omega)]
  refine⟨p.2.toNat,by omega,?_⟩
  unfold Ae
  have hlt:p.2.toNat<(freePorts n.free).length:=by unfold freePorts;simp;omega
  rw[ajB hlt]
  unfold freePorts
  rw[abG,List.getElem?_range' (by omega)]
  simp only[ajL,aai]
  ext
  ·simp[h1]
  ·simp;omega
 ·rw[if_neg h1,if_neg (by rw[h];simp)]
  have hp:p∈Au s n.cells 0:=by
   unfold Ae at hm
   rcases acS.1 hm with h|h
   ·exact absurd (DT.1 h).1 h1
   ·exact h
  obtain⟨i,a,hi,hc,m2,m3⟩:=EL.1 hp
  have hfl:(freePorts n.free).length=n.free.toNat:=by unfold freePorts;simp
  obtain⟨v,e1,e2⟩:=WL hP n.cells 0 (freePorts n.free) i a p.2.toNat hi (by omega)
  rw[hfl,show((n.free.toNat:Nat):Int)=n.free by omega]at e1
  have e3:p.1.toNat=i:=by omega
  refine⟨v+p.2.toNat,?_,?_⟩
  ·rw[e3,aal,e1]
   simp;omega
  ·unfold Ae
   rw[e2]
   congr 1
   ext
   ·simp;omega
   ·simp;omega
theorem RA{s:List Ag}{n:Nt}{p:Pt}(h:Bw s n.cells n.free p=false):Br s n p= -1:=by
 unfold Br
 by_cases h1:p.1= -1
 ·rw[if_pos h1]
  unfold Bw at h
  rw[if_pos (by simp[h1])]at h
  simp only[Bool.and_eq_false_iff,decide_eq_false_iff_not]at h
  rw[if_pos (by omega)]
 ·rw[if_neg h1,if_pos h]
theorem aad{s:List Ag}{n:Nt}(hP:∀a,0<=AL s a)(hf:0<=n.free){p q:Pt}(hp:Bw s n.cells n.free p=true)(hq:Bw s n.cells n.free q=true)(h:Br s n p=Br s n q):p=q:=by
 obtain⟨v,a1,a2⟩:=El hP hf hp
 obtain⟨u,b1,b2⟩:=El hP hf hq
 have:v=u:=by rw[a1,b1]at h;omega
 subst this
 rw[a2]at b2
 simpa using b2
section
variable{α:Type}{enc:α->AV}
def fJ(enc:α->AV)(W:List α):AV:=match W with|[]=> .aj|w::r=> .fC ((w::r).map enc) .unk
theorem CV(W:List α):fK (fJ enc W) (W.map enc):=by
 cases W with
 |nil=>exact .inl ⟨rfl,rfl⟩
 |cons w r=>exact .inr ⟨_,rfl⟩
def iI(enc:α->AV)(l:AV)(W:List α):Prop:=(l= .aj/\W=[])\/∃c,l= .fC (W.map enc) c/\W≠[]/\IE c= .unk
theorem iI.lQ{l:AV}{W:List α}(h:iI enc l W):fK l (W.map enc):=by
 rcases h with⟨rfl,rfl⟩|⟨c,rfl,_⟩
 ·exact .inl ⟨rfl,rfl⟩
 ·exact .inr ⟨_,rfl⟩
theorem iI.mH{h:AH}{l:AV}{W:List α}(hg:Grow h l (W.map enc)):iI enc l W:=by
 rcases hg with⟨h1,h2⟩|⟨g,h1,h2,_⟩
 ·exact .inl ⟨h1,by simpa using h2⟩
 ·exact .inr ⟨_,h1,by simpa using h2,rfl⟩
theorem iI.weak(hw:∀a,Bc (enc a)=enc a)(hf:∀a,BN (enc a)=true){l:AV}{W:List α}(h:iI enc l W):Bc l=fJ enc W/\BN l=true:=by
 rcases h with⟨rfl,rfl⟩|⟨c,rfl,hne,hc⟩
 ·exact⟨rfl,rfl⟩
 ·cases W with
  |nil=>exact absurd rfl hne
  |cons w r=>
   refine⟨?_,JL hf (w::r)⟩
   show AV.fC (CB ((w::r).map enc)) (IE c)=_
   rw[Jw hw,hc];rfl
theorem iI.fJ(W:List α):iI enc (fJ enc W) W:=by
 cases W with
 |nil=>exact .inl ⟨rfl,rfl⟩
 |cons w r=>exact .inr ⟨_,rfl,by simp,rfl⟩
end
theorem LC{call:AA}{α:Type}{enc:α->AV}{t e:TypeId}{sz:Nat}{z:AV}{W:List α}{h:AH}{x:AV}(ht:Tryz.prog.underlying t=some (.slice e))(hn:sizeT Tryz.prog e=some sz)(hz:BL Tryz.prog e=some z)(hn0:sz≠0)(hzn:z.cells.length=sz)(hzs:z.cells.all AV.scalar=true)
  (hh:Ba sz (W.map enc)=true) (hx:fK x (W.map enc)) (hb:W.length*Tryz.prog.bytesOf e<=140737488355328) (hb2:W.length<=140737488355328) :
  ∃l' h',Bh ⟨Tryz.prog,eO,call⟩ false .append #[t,t] [.aj,x] h=some (.ret l',h')/\iI enc l' W:=by
 have hel:CQ Tryz.prog e x h=some (W.map enc):=by rcases hx with⟨rfl,h1⟩|⟨c,rfl⟩<;>simp_all [CQ]
 by_cases hW:W=[]
 ·subst hW
  refine⟨.aj,h,?_,.inl ⟨rfl,rfl⟩⟩
  show CS (AX Tryz.prog false #[t,t] .aj x h)=_
  have:AX Tryz.prog false #[t,t] .aj x h=some (.aj,h):=by
   unfold AX
   simp only[show(#[t,t]:Array TypeId)[0]?=some t from rfl,show(#[t,t]:Array TypeId)[1]?=some t from rfl,ht,hel,hn,hz]
   rw[if_neg (by simp only[hh,hzn,hzs];simp[hn0])]
   simp
  rw[this];rfl
 ·obtain⟨l',h',h1,h2,h3,h4⟩:=Lc (P:=Tryz.prog) (types:= #[t,t]) (t:=t) (tx:=t) (elem:=e) (d:= .slice e) (n:=sz) (z:=z) (l:= .aj) (xs:=[]) (x:=x) (ys:=W.map enc) (h:=h) rfl rfl ht ht
   (by intro k h;cases h) hel hn hz hn0 hzn hzs (by simpa using hW) hh rfl (.inl ⟨rfl,rfl⟩)
   (by simpa using hb) (by simpa using hb2)
  refine⟨l',h',?_,iI.mH h2⟩
  show CS (AX Tryz.prog false #[t,t] _ _ h)=_
  rw[h1];rfl
theorem bCI(call eu n)(x:AV)(xs:List Int)(hx:fK x (xs.map Ad))(hl:xs.length<=1000000000)(h:AH):∃l h',B fO call eu n 12 Tryz.f12 [x] h=some (.ret l,h')/\iI Ad l xs:=by
 suffices hq:∀Q:Option (Aq × AH)->Prop,(∀l h',iI Ad l xs->Q (some (.ret l,h')))->Q (B fO call eu n 12 Tryz.f12 [x] h)from hq (fun y=> ∃l h',y=some (.ret l,h')/\iI Ad l xs) (fun l h' hl=>⟨l,h',rfl,hl⟩)
 intro Q hQ
 obtain⟨l',h',a1,a2⟩:=LC (call:=call) (h:=h) (enc:=Ad) (t:=23) (e:=3) (sz:=1) (z:= .int .i64 0) (by kernel_rfl) (by kernel_rfl) (by kernel_rfl) (by omega) rfl rfl (by cases xs<;>rfl) hx (by rw[show Tryz.prog.bytesOf 3=8 by kernel_rfl];omega) (by omega)
 conv=>arg 1;whnf
 refine Aa (a1) ?_
 conv=>arg 1;whnf
 exact Ac (Ab (.inl rfl) rfl) (hQ _ _ a2)
theorem bCW(call eu n)(x:AV)(xs:List Wr)(hx:fK x (xs.map Az))(hl:xs.length<=1000000000)(h:AH):∃l h',B fO call eu n 34 Tryz.f34 [x] h=some (.ret l,h')/\iI Az l xs:=by
 suffices hq:∀Q:Option (Aq × AH)->Prop,(∀l h',iI Az l xs->Q (some (.ret l,h')))->Q (B fO call eu n 34 Tryz.f34 [x] h)from hq (fun y=> ∃l h',y=some (.ret l,h')/\iI Az l xs) (fun l h' hl=>⟨l,h',rfl,hl⟩)
 intro Q hQ
 obtain⟨l',h',a1,a2⟩:=LC (call:=call) (h:=h) (enc:=Az) (t:=24) (e:=62) (sz:=4) (z:= .agg [.int .i64 0,.int .i64 0,.int .i64 0,.int .i64 0]) (by kernel_rfl) (by kernel_rfl) (by kernel_rfl) (by omega) rfl rfl (by cases xs<;>rfl) hx (by rw[show Tryz.prog.bytesOf 62=32 by kernel_rfl];omega) (by omega)
 conv=>arg 1;whnf
 refine Aa (a1) ?_
 conv=>arg 1;whnf
 exact Ac (Ab (.inl rfl) rfl) (hQ _ _ a2)
def Rq:AV->Option (List Int):=QA OL Ad
def Vn:AV->Option (List Wr):=QA QC Az
theorem Mr{x:AV}{l:List Int}(h:fK x (l.map Ad)):Rq (Bc x)=some l/\BN x=true:=⟨J7 (dec:=OL) (enc:=Ad) (fun _=>rfl) (fun _=>rfl) h,IK (enc:=Ad) (fun _=>rfl) h⟩
theorem QY{x:AV}{l:List Wr}(h:fK x (l.map Az)):Vn (Bc x)=some l/\BN x=true:=⟨J7 (dec:=QC) (enc:=Az) (fun _=>rfl) (fun _=>rfl) h,IK (enc:=Az) (fun _=>rfl) h⟩
def sCI:List AV->Option AV|[x]=>(match Rq x with|some l=>if l.length<=1000000000 then some (fJ Ad l)else none|none=>none)|_=>none
def sCW:List AV->Option AV|[x]=>(match Vn x with|some l=>if l.length<=1000000000 then some (fJ Az l)else none|none=>none)|_=>none
def zR:=Bb zP 12 sCI
def zS:=Bb zR 34 sCW
theorem ECI:Bq (Ak Tryz.prog eO zR):=Fj E13 fun args v hs=>by
 unfold sCI at hs;split at hs
 ·split at hs
  ·rename_i x l h1
   split at hs
   ·rename_i hl
    cases hs
    obtain⟨u,h',q1,q2⟩:=bCI (Ah (Ak Tryz.prog eO zP) 1) (rg Tryz.prog eO zP 1 12) 1 _ l (Bn h1) hl .empty
    obtain⟨w1,w2⟩:=q2.weak (fun _=>rfl) (fun _=>rfl)
    exact⟨u,w2,w1.symm,Cu fO rfl Tryz.func12 rfl (by kernel_rfl) q1⟩
   ·cases hs
  ·cases hs
 ·cases hs
theorem ECW:Bq (Ak Tryz.prog eO zS):=Fj ECI fun args v hs=>by
 unfold sCW at hs;split at hs
 ·split at hs
  ·rename_i x l h1
   split at hs
   ·rename_i hl
    cases hs
    obtain⟨u,h',q1,q2⟩:=bCW (Ah (Ak Tryz.prog eO zR) 1) (rg Tryz.prog eO zR 1 34) 1 _ l (Bn h1) hl .empty
    obtain⟨w1,w2⟩:=q2.weak (fun _=>rfl) (fun _=>rfl)
    exact⟨u,w2,w1.symm,Cu fO rfl Tryz.func34 rfl (by kernel_rfl) q1⟩
   ·cases hs
  ·cases hs
 ·cases hs
def hCI(call:AA):Prop:= ∀x (l:List Int) h,fK x (l.map Ad)->l.length<=1000000000->call (.func 12) [x] h=some (.ret (fJ Ad l),h)
def hCW(call:AA):Prop:= ∀x (l:List Wr) h,fK x (l.map Az)->l.length<=1000000000->call (.func 34) [x] h=some (.ret (fJ Az l),h)
theorem agE{hk:Ar}{n:Nat}(hk':∀args h,hk 12 args h=zR 12 args h)(hn:0<n):hCI (Ah (Ak Tryz.prog eO hk) n):=fun x l h hx hl=>Dr (by
 rw[hk']
 refine CX (by simp[BJ,(Mr hx).2]) ?_
 show(match Rq (Bc x)with|some l=>if l.length<=1000000000 then some (fJ Ad l)else none|none=>none)=_
 rw[(Mr hx).1];simp only[if_pos hl]) hn
theorem agy{hk:Ar}{n:Nat}(hk':∀args h,hk 34 args h=zS 34 args h)(hn:0<n):hCW (Ah (Ak Tryz.prog eO hk) n):=fun x l h hx hl=>Dr (by
 rw[hk']
 refine CX (by simp[BJ,(QY hx).2]) ?_
 show(match Vn (Bc x)with|some l=>if l.length<=1000000000 then some (fJ Az l)else none|none=>none)=_
 rw[(QY hx).1];simp only[if_pos hl]) hn
def I5(n:Nt):AV:= .agg [fJ Ad n.cells,.int .i64 n.free,fJ Az n.wires]
theorem bCN(call eu n)(v:AV)(nt:Nt)(hv:Dc v nt)(l1:nt.cells.length<=1000000000)(l2:nt.wires.length<=1000000000)(hCI:hCI call)(hCW:hCW call)(h:AH):∃h',B fO call eu n 11 Tryz.f11 [v] h=some (.ret (I5 nt),h'):=by
 suffices hq:∀Q:Option (Aq × AH)->Prop,(∀h',Q (some (.ret (I5 nt),h')))->Q (B fO call eu n 11 Tryz.f11 [v] h)from hq (fun y=> ∃h',y=some (.ret (I5 nt),h')) (fun h'=>⟨h',rfl⟩)
 intro Q hQ
 obtain⟨c,w,rfl,hc,hw⟩:=hv
 have hcs:=Af hc
 have hws:=Af hw
 have kc:=Dp (CV (enc:=Ad) nt.cells)
 have kw:=Dp (CV (enc:=Az) nt.wires)
 have sc:=Af (CV (enc:=Ad) nt.cells)
 have sw:=Af (CV (enc:=Az) nt.wires)
 conv=>arg 1;whnf
 refine Aa (Dq (cs:=[c,.int .i64 nt.free,w]) rfl (by simp only[adP,hcs,hws,aku];rfl)) ?_
 generalize iy:h.alloc (.cells [c,.int .i64 nt.free,w] 26)=h1 at *
 obtain⟨nR,aiO,kD⟩:=BQ iy
 clear iy kD
 generalize qp:h.next=i1 at *
 clear qp
 conv=>arg 1;whnf
 refine Aa (Cb (z:= .agg [.aj,.int .i64 0,.aj]) (cs:=[.aj,.int .i64 0,.aj]) (by kernel_rfl) rfl rfl) ?_
 generalize jv:h1.alloc (.cells [.aj,.int .i64 0,.aj] 26)=h2 at *
 obtain⟨qB,ajt,lu⟩:=BQ jv
 replace nR:=lu _ _ nR (by omega)
 clear jv lu
 generalize zT:h1.next=i2 at *
 clear zT
 have e1:fF h2 (Ay Tryz.prog 23 (.ptr i1 0) h2)=some (.ret c,h2):=Bj (n:=1) nR (by kernel_rfl) (by kernel_rfl) rfl
 conv=>arg 1;whnf
 refine Aa (e1) ?_
 conv=>arg 1;whnf
 refine Aa (hCI c nt.cells h2 hc l1) ?_
 have s1:iM (Ce Tryz.prog 23 (.ptr i1 0) (fJ Ad nt.cells) h2)=some (.ret Aj,h2.set i1 (.cells [fJ Ad nt.cells,.int .i64 nt.free,w] 26)):=by
  rw[EC (n:=1) nR (by kernel_rfl) (by rw[kc];rfl) (by simp) (by rw[kc];simp only[adP,sc,aku];rfl),kc];rfl
 conv=>arg 1;whnf
 refine Aa (s1) ?_
 generalize lZ:h2.set i1 (.cells [fJ Ad nt.cells,.int .i64 nt.free,w] 26)=h3 at *
 obtain⟨oV,qw,rO⟩:=JB lZ
 replace qB:=rO _ _ qB (by rintro rfl;omega)
 clear lZ rO
 replace qw:h3.next.nat=h2.next.nat:=congrArg Id.nat qw
 have e2:fF h3 (Ay Tryz.prog 24 (.ptr i1 2) h3)=some (.ret w,h3):=Bj (n:=1) oV (by kernel_rfl) (by kernel_rfl) rfl
 conv=>arg 1;whnf
 refine Aa (e2) ?_
 conv=>arg 1;whnf
 refine Aa (hCW w nt.wires h3 hw l2) ?_
 have s2:iM (Ce Tryz.prog 24 (.ptr i1 2) (fJ Az nt.wires) h3)=some (.ret Aj,h3.set i1 (.cells [fJ Ad nt.cells,.int .i64 nt.free,fJ Az nt.wires] 26)):=by
  rw[EC (n:=1) oV (by kernel_rfl) (by rw[kw];rfl) (by simp) (by rw[kw];simp only[adP,sw,aku];rfl),kw];rfl
 conv=>arg 1;whnf
 refine Aa (s2) ?_
 replace ajf:=oV
 clear oV
 generalize l6:h3.set i1 (.cells [fJ Ad nt.cells,.int .i64 nt.free,fJ Az nt.wires] 26)=h4 at *
 obtain⟨oV,uV,qx⟩:=JB l6
 replace qB:=qx _ _ qB (by rintro rfl;omega)
 clear l6 qx
 replace uV:h4.next.nat=h3.next.nat:=congrArg Id.nat uV
 have e3:fF h4 (Ay Tryz.prog 26 (.ptr i1 0) h4)=some (.ret (I5 nt),h4):=Dx (n:=3) oV (by kernel_rfl) (by kernel_rfl) (by simp)
 conv=>arg 1;whnf
 refine Aa (e3) ?_
 have s3:iM (Ce Tryz.prog 26 (.ptr i2 0) (I5 nt) h4)=some (.ret Aj,h4.set i2 (.cells [fJ Ad nt.cells,.int .i64 nt.free,fJ Az nt.wires] 26)):=
  EC (n:=3) qB (by kernel_rfl) rfl (by simp) (by show((fJ Ad nt.cells).scalar&&(_&&((fJ Az nt.wires).scalar&&true)))=true;rw[sc,sw];rfl)
 conv=>arg 1;whnf
 refine Aa (s3) ?_
 conv=>arg 1;whnf
 have ld:Ay Tryz.prog 26 (.ptr i2 0) (h4.set i2 (.cells [fJ Ad nt.cells,.int .i64 nt.free,fJ Az nt.wires] 26))=some (I5 nt):=
  Tc (Dx (r:=i2) (off:=0) (cs:=[fJ Ad nt.cells,.int .i64 nt.free,fJ Az nt.wires]) (T:=26) (n:=3) (by rw[AH.ak,if_pos rfl]) (by kernel_rfl) (by kernel_rfl) (by simp))
 refine Ac (Ab (.inl rfl) (l:=[I5 nt]) ?_) (hQ _)
 show(match Ay Tryz.prog 26 (.ptr i2 0) (h4.set i2 (.cells [fJ Ad nt.cells,.int .i64 nt.free,fJ Az nt.wires] 26)),some ([]:List AV)with|some v,some l=>some (v::l)|_,_=>none)=_
 rw[ld]
theorem Ue(n:Nt):Bc (I5 n)=I5 n/\BN (I5 n)=true:=by
 obtain⟨e1,f1⟩:=(iI.fJ (enc:=Ad) n.cells).weak (fun _=>rfl) (fun _=>rfl)
 obtain⟨e2,f2⟩:=(iI.fJ (enc:=Az) n.wires).weak (fun _=>rfl) (fun _=>rfl)
 constructor
 ·show AV.agg [Bc (fJ Ad n.cells),.int .i64 n.free,Bc (fJ Az n.wires)]=_
  rw[e1,e2];rfl
 ·show(BN (fJ Ad n.cells)&&(true&&(BN (fJ Az n.wires)&&true)))=true
  rw[f1,f2];rfl
def sCN:List AV->Option AV|[x]=>(match En x with|some n=>if n.cells.length<=1000000000/\n.wires.length<=1000000000 then some (I5 n)else none|none=>none)|_=>none
def af0:=Bb zS 11 sCN
theorem ECN:Bq (Ak Tryz.prog eO af0):=Fj ECW fun args v hs=>by
 unfold sCN at hs;split at hs
 ·split at hs
  ·rename_i x n h1
   split at hs
   ·rename_i hl
    cases hs
    obtain⟨h',q1⟩:=bCN (Ah (Ak Tryz.prog eO zS) 1) (rg Tryz.prog eO zS 1 11) 1 _ n (DX h1) hl.1 hl.2 (agE (fun _ _=>rfl) (by omega)) (agy (fun _ _=>rfl) (by omega)) .empty
    exact⟨_,(Ue n).2,(Ue n).1.symm,Cu fO rfl Tryz.func11 rfl (by kernel_rfl) q1⟩
   ·cases hs
  ·cases hs
 ·cases hs
def wM(call:AA):Prop:= ∀x n h,Dc x n->n.cells.length<=1000000000->n.wires.length<=1000000000->call (.func 11) [x] h=some (.ret (I5 n),h)
theorem agt{hk:Ar}{n:Nat}(hk':∀args h,hk 11 args h=af0 11 args h)(hn:0<n):wM (Ah (Ak Tryz.prog eO hk) n):=fun x nt h hx l1 l2=>Dr (by
 rw[hk']
 refine CX (by simp[BJ,Fb hx]) ?_
 show(match En (Bc x)with|some n=>if n.cells.length<=1000000000/\n.wires.length<=1000000000 then some (I5 n)else none|none=>none)=_
 rw[EZ hx];simp only[if_pos (And.intro l1 l2)]) hn
def ag4:=af0
def ahe:=ag4
theorem ESU:Bq (Ak Tryz.prog eO ag4):=ECN
theorem ESR:Bq (Ak Tryz.prog eO ahe):=ESU
end Go.Proofs.Nt
