/- The reference's signatures: begins, Word, Of, Check. -/
import Derived.Test.YtfpmanknbjakfaaGreatDoorPd
import Derived.Test.YtfpmanknbjakfaaGreatDoorPa
import Derived.Test.YtfpmanknbjakfaaGreatDoorSkMc
import Derived.Test.YtfpmanknbjakfaaGreatDoorPb
import Derived.Test.YtfpmanknbjakfaaGreatDoorPc
import Derived.Test.YtfpmanknbjakfaaGreatDoorCards
import Derived.Test.YtfpmanknbjakfaaGreatDoorTie
import Derived.WalkKit
import Derived.ProofKit
import Derived.OpenShut
import Derived.KernelRfl
import Derived.Deep.DeepHandedRow
import Derived.Lib.LaidTab
set_option linter.unusedVariables false
set_option linter.unusedSimpArgs false
set_option linter.unusedSectionVars false
set_option maxRecDepth 10000
set_option maxHeartbeats 16000000
namespace Go.Proofs.Nt
open Go.Sk
theorem ah9(call dw n)(s:List UInt8)(hs:s.length<=16){h:AH}{K:KC (Ar × AH)}{y:Option (Ar × AH)}{b:Bool}
  (hR:b=false->∀{g0 g1 g2 g3 g4 g5 g7 g8 g9 aA aB aC aD aE aF aG aH aI aJ aK aL aM aN aO aP aQ aR aS aT aU aV aW aX aY aZ bA bB bC bD bE bF bG bH bI bJ bK bL bM bN bO bP bQ bR bS bT bU bV bW bX bY bZ cA cB cC:AV},K .ret ⟨(g0::g1::g2::g3::g4::g5:: .bool false::g7::g8::g9::aA::aB::aC::aD::aE::aF::aG::aH::aI::aJ::aK::aL::aM::aN::aO::aP::aQ::aR::aS::aT::aU::aV::aW::aX::aY::aZ::bA::bB::bC::bD::bE::bF::bG::bH::bI::bJ::bK::bL::bM::bN::bO::bP::bQ::bR::bS::bT::bU::bV::bW::bX::bY::bZ::cA::cB::cC::[]),[],h⟩=y)
  (hK:b=true->∀{g0 g1 g2 g3 g4 g5 g6 g7 g8 g9 aA aB aC aD aE aF aG aH aI aJ aK aL aM aN aO aP aQ aR aS aT aU aV aW aX aY aZ bA bB bC bD bE bF bG bH bI bJ bK bL bM bN bO bP bQ bR bS bT bU bV bW bX bY bZ cA cB cC:AV},K (.exit 0) ⟨(g0::g1::g2::g3::g4::g5::g6::g7::g8::g9::aA::aB::aC::aD::aE::aF::aG::aH::aI::aJ::aK::aL::aM::aN::aO::aP::aQ::aR::aS::aT::aU::aV::aW::aX::aY::aZ::bA::bB::bC::bD::bE::bF::bG::bH::bI::bJ::bK::bL::bM::bN::bO::bP::bQ::bR::bS::bT::bU::bV::bW::bX::bY::bZ::cA::cB::cC::[]),[],h⟩=y) :
  ∀(m i:Nat) {x:Int} {g1 g2 g3 g4 g5 g6 g8 g9 aA aB aC aD aE aF aG aH aI aJ aK aL aM aN aO aP aQ aR aS aT aU aV aW aX aY aZ bA bB bC bD bE bF bG bH bI bJ bK bL bM bN bO bP bQ bR bS bT bU bV bW bX bY bZ cA cB cC:AV},x=i->i<=s.length->s.length - i<m->b=(s.drop i).all mh->
  Dw (LB K8 call dw n 65 Tryz.f65 0) m ⟨(.str s::g1::g2::g3::g4::g5::g6:: .int .i64 x::g8::g9::aA::aB::aC::aD::aE::aF::aG::aH::aI::aJ::aK::aL::aM::aN::aO::aP::aQ::aR::aS::aT::aU::aV::aW::aX::aY::aZ::bA::bB::bC::bD::bE::bF::bG::bH::bI::bJ::bK::bL::bM::bN::bO::bP::bQ::bR::bS::bT::bU::bV::bW::bX::bY::bZ::cA::cB::cC::[]),[],h⟩ K=y:=by
 intro m
 induction m with
 |zero=>intros;omega
 |succ m ih=>
  intro i x g1 g2 g3 g4 g5 g6 g8 g9 aA aB aC aD aE aF aG aH aI aJ aK aL aM aN aO aP aQ aR aS aT aU aV aW aX aY aZ bA bB bC bD bE bF bG bH bI bJ bK bL bM bN bO bP bQ bR bS bT bU bV bW bX bY bZ cA cB cC hx hi hm hb
  rw[Bc]
  conv=>lhs;whnf
  split
  ·rename_i hd
   have hlt:i<s.length:=by simp at hd;omega
   have h0:decide (0<=x)=true:=by simp;omega
   have hdrop:s.drop i=s[i]::s.drop (i+1):=acP hlt
   have w1:IntKind.i64.wrap (x+1)=((i+1:Nat):Int):=by rw[hx];exact BN (by omega)
   conv=>lhs;whnf
   rw[h0]
   conv=>lhs;whnf
   rw[NM hx,aae hlt]
   rw[hdrop,acy]at hb
   generalize hc:s[i]=c at hb
   have hb1:mh c=true->b=(s.drop (i+1)).all mh:=fun h=>by rw[hb,h];rfl
   have hb0:mh c=false->b=false:=fun h=>by rw[hb,h];rfl
   clear hb hc hdrop
   repeat' ((conv=>lhs;whnf);split)
   all_goals (conv=>lhs;whnf)
   all_goals first
    |(refine ih (i+1) w1 (by omega) (by omega) (hb1 ?_);clear ih hK hR hb1 hb0 hm;simp_all [mh,Md,OY,Pv];done)
    |exact hR (hb0 (by clear ih hK hR hb1 hm;simp_all [mh,Md,OY,Pv]<;>omega))
  ·rename_i hd
   have hlt:¬i<s.length:=by simp at hd;omega
   exact hK (by rw[hb,ajC (by omega)];rfl)
theorem aij(call dw n)(s:List UInt8)(lo hi:Int)(h:AH)(hn:16<n):B K8 call dw n 65 Tryz.f65 [.str s,.int .u8 lo,.int .u8 hi] h=some (.ret (.bool (Di s lo hi)),h):=by
 cases s with
 |nil=>
  conv=>lhs;whnf
  have:decide (((([]:List UInt8).length:Nat):Int)<1)=true:=by simp
  rw[this]
  conv=>lhs;whnf
  exact CB (.inl rfl) rfl rfl
 |cons c r=>
  have e0:decide ((((c::r).length:Nat):Int)<1)=false:=by simp;omega
  have fin:∀b,b=Di (c::r) lo hi->∀{g0 g1 g2 g3 g4 g5 g7 g8 g9 aA aB aC aD aE aF aG aH aI aJ aK aL aM aN aO aP aQ aR aS aT aU aV aW aX aY aZ bA bB bC bD bE bF bG bH bI bJ bK bL bM bN bO bP bQ bR bS bT bU bV bW bX bY bZ cA cB cC:AV},gY Tryz.prog Tryz.f65 .ret ⟨(g0::g1::g2::g3::g4::g5:: .bool b::g7::g8::g9::aA::aB::aC::aD::aE::aF::aG::aH::aI::aJ::aK::aL::aM::aN::aO::aP::aQ::aR::aS::aT::aU::aV::aW::aX::aY::aZ::bA::bB::bC::bD::bE::bF::bG::bH::bI::bJ::bK::bL::bM::bN::bO::bP::bQ::bR::bS::bT::bU::bV::bW::bX::bY::bZ::cA::cB::cC::[]),[],h⟩=some (.ret (.bool (Di (c::r) lo hi)),h):=by
   intro b hb
   intros
   exact CB (.inl rfl) rfl (by rw[hb];rfl)
  conv=>lhs;whnf
  rw[e0]
  conv=>lhs;whnf
  split
  ·rename_i e2
   conv=>lhs;whnf
   exact fin _ (by simp only[Di,show decide ((c::r).length<=16)=false by simp at e2 ⊢;omega,aj6])
  rename_i e2
  conv=>lhs;whnf
  split
  ·rename_i e3
   conv=>lhs;whnf
   exact fin _ (by simp only[Di,show decide ((c.toNat:Int)>=lo)=false by simp at e3 ⊢;omega,akN,aj6])
  rename_i e3
  conv=>lhs;whnf
  split
  ·rename_i e4
   conv=>lhs;whnf
   exact fin _ (by simp only[Di,show decide ((c.toNat:Int)<=hi)=false by simp at e4 ⊢;omega,akN,aj6])
  rename_i e4
  have hb:Di (c::r) lo hi=r.all mh:=by
   simp only[Di,show decide ((c::r).length<=16)=true by simp at e2 ⊢;omega,show decide ((c.toNat:Int)>=lo)=true by simp at e3 ⊢;omega,show decide ((c.toNat:Int)<=hi)=true by simp at e4 ⊢;omega,akK]
  conv=>lhs;whnf
  refine ah9 call dw n (c::r) (by simp at e2 ⊢;omega) (b:=r.all mh) ?_ ?_ n 1 rfl (by simp) (by simp at e2 ⊢;omega) rfl
  ·intro h0
   intros
   exact fin _ (by rw[hb,h0])
  ·intro h0
   intros
   conv=>lhs;whnf
   exact fin _ (by rw[hb,h0])
def hB2(call:Az):Prop:= ∀s lo hi h,call (.func 65) [.str s,.int .u8 lo,.int .u8 hi] h=some (.ret (.bool (Di s lo hi)),h)
theorem b79(call dw n)(s:List UInt8)(h:AH)(hB2:hB2 call):B K8 call dw n 46 Tryz.f46 [.str s] h=some (.ret (.bool (KI s)),h):=by
 refine AQ (hB2 _ _ _ _) ?_
 conv=>lhs;whnf
 exact CB (.inl rfl) rfl rfl
theorem lO2(call dw n)(x0:AV)(s:List Ag)(hx0:AR x0 s)(hs:s.length<=3000000000)(nm:List UInt8)(R:Int){Q:Option (Ar × AH)->Prop}{K:KC (Ar × AH)}
  (hR:∀{h} {g0 g1 g2 g3 g5 g6 g7 g8 g9 aA aB aC aD aE aF aG aH aI aJ:AV},Q (K .ret ⟨(g0::g1::g2::g3:: .int .i64 R::g5::g6::g7::g8::g9::aA::aB::aC::aD::aE::aF::aG::aH::aI::aJ::[]),[],h⟩))
  (hK:R= -1->∀{h} {g0 g1 g2 g3 g4 g5 g6 g7 g8 g9 aA aB aC aD aE aF aG aH aI aJ:AV},Q (K (.exit 0) ⟨(g0::g1::g2::g3::g4::g5::g6::g7::g8::g9::aA::aB::aC::aD::aE::aF::aG::aH::aI::aJ::[]),[],h⟩)) :
  ∀(m i:Nat) {x:Int} {h:AH} {g2 g3 g4 g6 g7 g8 g9 aA aB aC aD aE aF aG aH aI aJ:AV},x=i->i<=s.length->s.length - i<m->R=jD (s.drop i) nm i->
  Q (Dw (LB fC call dw n 47 Tryz.f47 0) m ⟨(x0:: .str nm::g2::g3::g4:: .int .i64 x::g6::g7::g8::g9::aA::aB::aC::aD::aE::aF::aG::aH::aI::aJ::[]),[],h⟩ K):=by
 have u:Tryz.prog.underlying 22=some (.slice 85):=by kernel_rfl
 have hlen:=fun h=>DL (X:=⟨Tryz.prog,eu,call⟩) (mu:=false) (h:=h) u hx0
 rw[aah]at hlen
 intro m
 induction m with
 |zero=>intros;omega
 |succ m ih=>
  intro i x h g2 g3 g4 g6 g7 g8 g9 aA aB aC aD aE aF aG aH aI aJ hx hi hm hF
  rw[Bc]
  conv=>arg 1;whnf
  refine Aa (hlen _) ?_
  conv=>arg 1;whnf
  split
  ·rename_i hd
   have hlt:i<s.length:=by simp at hd;omega
   have hdrop:s.drop i=s[i]::s.drop (i+1):=acP hlt
   have hg:(s.map iK)[i]?=some (iK s[i]):=by rw[aaR,aae hlt];rfl
   have hidx:=fun h=>Gl (P:=Tryz.prog) (t:=22) (e:=85) (n:=2) (h:=h) (k:= .i64) u (by kernel_rfl) hx0 hx hg rfl
   rw[hdrop]at hF
   generalize s[i]=g at hidx hF
   obtain⟨gn,ga⟩:=g
   conv=>arg 1;whnf
   refine Aa (hidx _) ?_
   conv=>arg 1;whnf
   cases e1:(gn==nm)
   ·conv=>arg 1;whnf
    refine ih (i+1) (by rw[hx];exact BN (by omega)) (by omega) (by omega) ?_
    rw[hF];simp only[jD,e1,ajB,if_false]
   ·conv=>arg 1;whnf
    have:R=x:=by rw[hF,hx];simp only[jD,e1,if_true]
    subst this
    exact hR
  ·rename_i hd
   have hlt:¬i<s.length:=by simp at hd;omega
   refine hK ?_
   rw[hF,ajC (by omega)];rfl
theorem bO2(call dw n)(x:AV)(s:List Ag)(hx:AR x s)(hs:s.length<=3000000000)(nm:List UInt8)(h:AH)(hn:s.length<n) :
  ∃h',B fC call dw n 47 Tryz.f47 [x,.str nm] h=some (.ret (.int .i64 (jD s nm 0)),h'):=by
 suffices hq:∀Q:Option (Ar × AH)->Prop,(∀R h',R=jD s nm 0->Q (some (.ret (.int .i64 R),h')))->Q (B fC call dw n 47 Tryz.f47 [x,.str nm] h)from hq (fun y=> ∃h',y=some (.ret (.int .i64 (jD s nm 0)),h')) (fun R h' e=>⟨h',by rw[e]⟩)
 intro Q hQ
 conv=>arg 1;whnf
 refine lO2 call dw n x s hx hs nm (jD s nm 0) ?_ ?_ n 0 rfl (adM _) (by omega) (by rw[ajX])
 ·intro h
  intros
  conv=>arg 1;whnf
  exact Ac (Ab (.inl rfl) rfl) (hQ _ _ rfl)
 ·intro hR h
  intros
  conv=>arg 1;whnf
  exact Ac (Ab (.inl rfl) rfl) (hQ _ _ hR.symm)
def hW2(call:Az):Prop:= ∀s h,call (.func 46) [.str s] h=some (.ret (.bool (KI s)),h)
def hO2(call:Az):Prop:= ∀x s nm h,AR x s->s.length<=3000000000->call (.func 47) [x,.str nm] h=some (.ret (.int .i64 (jD s nm 0)),h)
def V8:Nat->Option (List Nat):=fun id=>match Nat.beq id 999999 with|true=>some []|false=>match Nat.beq id 10 with|true=>some [0,1,2,3,4,5,6,7,8,9]|false=>none
theorem agd:A9 Tryz.prog (eu 23) V8 (codeOf Tryz.f23)=true:=by kernel_rfl
theorem lK2(call dw n)(x0:AV)(s:List Ag)(hx0:AR x0 s)(hs:s.length<=32)(hW2:hW2 call)(hO2:hO2 call){Q:Option (Ar × AH)->Prop}{K:KC (Ar × AH)}
  (hR:∀{h} {g0 g1 g4 g5 g6 g7 g8 g9 aA aB aC aD aE aF aG aH aI aJ aK aL aM aN aO aP aQ aR aS aT aU aV aW aX aY aZ bA bB bC bD bE bF bG bH bI bJ bK bL bM bN bO:AV},Q (K .ret ⟨(g0::g1:: .int .i64 (Fb s s 0).1:: .int .i64 (Fb s s 0).2::g4::g5::g6::g7::g8::g9::aA::aB::aC::aD::aE::aF::aG::aH::aI::aJ::aK::aL::aM::aN::aO::aP::aQ::aR::aS::aT::aU::aV::aW::aX::aY::aZ::bA::bB::bC::bD::bE::bF::bG::bH::bI::bJ::bK::bL::bM::bN::bO::[]),[],h⟩))
  (hK:Fb s s 0=(0,0)->∀{h} {g0 g1 g2 g3 g4 g5 g6 g7 g8 g9 aA aB aC aD aE aF aG aH aI aJ aK aL aM aN aO aP aQ aR aS aT aU aV aW aX aY aZ bA bB bC bD bE bF bG bH bI bJ bK bL bM bN bO:AV},Q (K (.exit 0) ⟨(g0::g1::g2::g3::g4::g5::g6::g7::g8::g9::aA::aB::aC::aD::aE::aF::aG::aH::aI::aJ::aK::aL::aM::aN::aO::aP::aQ::aR::aS::aT::aU::aV::aW::aX::aY::aZ::bA::bB::bC::bD::bE::bF::bG::bH::bI::bJ::bK::bL::bM::bN::bO::[]),[],h⟩)) :
  ∀(m i:Nat) {x:Int} {h:AH} {g1 g2 g3 g5 g6 g7 g8 g9 aA aB aC aD aE aF aG aH aI aJ aK aL aM aN aO aP aQ aR aS aT aU aV aW aX aY aZ bA bB bC bD bE bF bG bH bI bJ bK bL bM bN bO:AV},x=i->i<=s.length->s.length - i<m->Fb s s 0=Fb s (s.drop i) i->
  Q (Dw (LB V8 call dw n 23 Tryz.f23 0) m ⟨(x0::g1::g2::g3:: .int .i64 x::g5::g6::g7::g8::g9::aA::aB::aC::aD::aE::aF::aG::aH::aI::aJ::aK::aL::aM::aN::aO::aP::aQ::aR::aS::aT::aU::aV::aW::aX::aY::aZ::bA::bB::bC::bD::bE::bF::bG::bH::bI::bJ::bK::bL::bM::bN::bO::[]),[],h⟩ K):=by
 have u:Tryz.prog.underlying 22=some (.slice 85):=by kernel_rfl
 have hlen:=fun h=>DL (X:=⟨Tryz.prog,eu,call⟩) (mu:=false) (h:=h) u hx0
 rw[aah]at hlen
 intro m
 induction m with
 |zero=>intros;omega
 |succ m ih=>
  intro i x h g1 g2 g3 g5 g6 g7 g8 g9 aA aB aC aD aE aF aG aH aI aJ aK aL aM aN aO aP aQ aR aS aT aU aV aW aX aY aZ bA bB bC bD bE bF bG bH bI bJ bK bL bM bN bO hx hi hm hF
  rw[Bc]
  conv=>arg 1;whnf
  refine Aa (hlen _) ?_
  conv=>arg 1;whnf
  split
  ·rename_i hd
   have hlt:i<s.length:=by simp at hd;omega
   have hdrop:s.drop i=s[i]::s.drop (i+1):=acP hlt
   have hg:(s.map iK)[i]?=some (iK s[i]):=by rw[aaR,aae hlt];rfl
   have hidx:=fun h=>Gl (P:=Tryz.prog) (t:=22) (e:=85) (n:=2) (h:=h) (k:= .i64) u (by kernel_rfl) hx0 hx hg rfl
   rw[hdrop]at hF
   generalize s[i]=g at hidx hF
   obtain⟨gn,ga⟩:=g
   conv=>arg 1;whnf
   refine Aa (hidx _) ?_
   conv=>arg 1;whnf
   refine Aa (hW2 _ _) ?_
   conv=>arg 1;whnf
   cases e1:KI gn
   ·conv=>arg 1;whnf
    rw[hF]at hR
    simp only[Fb,e1,if_true,<-hx]at hR
    exact hR
   conv=>arg 1;whnf
   obtain⟨x',hsl,hx'⟩:=ahk (P:=Tryz.prog) (t:=22) (e:=85) (n:=2) (k:= .i64) (h:=h) u (by kernel_rfl) hx0 hx (by rw[aah];omega) Nn
   rw[<-List.map_take]at hx'
   refine Aa hsl ?_
   conv=>arg 1;whnf
   refine Aa (hidx _) ?_
   conv=>arg 1;whnf
   refine Gz (hO2 x' (s.take i) gn h hx' (by rw[aju];omega)) ?_
   conv=>arg 1;whnf
   cases e2:decide (jD (s.take i) gn 0>=0)
   ·have e2':¬jD (s.take i) gn 0>=0:=by simpa using e2
    have hF2:Fb s s 0=if ga<0\/ga>6 then(22,(i:Int))else Fb s (s.drop (i+1)) (i+1):=by
     rw[hF];simp only[Fb,e1,if_neg (show ¬(true=false)by simp),if_neg e2']
    conv=>arg 1;whnf
    refine Aa (hidx _) ?_
    conv=>arg 1;whnf
    cases e3:decide (ga<0)
    ·conv=>arg 1;whnf
     refine Aa (hidx _) ?_
     conv=>arg 1;whnf
     cases e4:decide (ga>6)
     ·conv=>arg 1;whnf
      refine ih (i+1) (by rw[hx];exact BN (by omega)) (by omega) (by omega) ?_
      rw[hF2,if_neg (by simp at e3 e4;omega)]
     ·conv=>arg 1;whnf
      rw[hF2,if_pos (.inr (by simpa using e4)),<-hx]at hR
      exact hR
    ·conv=>arg 1;whnf
     rw[hF2,if_pos (.inl (by simpa using e3)),<-hx]at hR
     exact hR
   ·conv=>arg 1;whnf
    rw[hF]at hR
    simp only[Fb,e1,if_neg (show ¬(true=false)by simp),if_pos (show jD (s.take i) gn 0>=0 by simpa using e2),<-hx]at hR
    exact hR
  ·rename_i hd
   have hlt:¬i<s.length:=by simp at hd;omega
   refine hK ?_
   rw[hF,ajC (by omega)];rfl
theorem bK2(call dw n)(x:AV)(s:List Ag)(hx:AR x s)(hW2:hW2 call)(hO2:hO2 call)(h:AH)(hn:33<n) :
  ∃h',B V8 call dw n 23 Tryz.f23 [x] h=some (.ret (.eU [.int .i64 (AA s).1,.int .i64 (AA s).2]),h'):=by
 have u:Tryz.prog.underlying 22=some (.slice 85):=by kernel_rfl
 have hlen:=fun h=>DL (X:=⟨Tryz.prog,eu,call⟩) (mu:=false) (h:=h) u hx
 rw[aah]at hlen
 suffices hq:∀Q:Option (Ar × AH)->Prop,(∀a b h',(a,b)=AA s->Q (some (.ret (.eU [.int .i64 a,.int .i64 b]),h')))->Q (B V8 call dw n 23 Tryz.f23 [x] h)from
  hq (fun r=> ∃h',r=some (.ret (.eU [.int .i64 (AA s).1,.int .i64 (AA s).2]),h')) (fun a b h' e=>⟨h',by rw[<-e]⟩)
 intro Q hQ'
 conv=>arg 1;whnf
 refine Aa (hlen _) ?_
 conv=>arg 1;whnf
 split
 ·rename_i e1
  conv=>arg 1;whnf
  refine Ac (Ab (.inl rfl) rfl) (hQ' 20 0 _ ?_)
  unfold AA;rw[if_pos (by simpa using e1)]
 rename_i e1
 conv=>arg 1;whnf
 refine Aa (hlen _) ?_
 conv=>arg 1;whnf
 split
 ·rename_i e2
  conv=>arg 1;whnf
  refine Ac (Ab (.inl rfl) rfl) (hQ' 15 32 _ ?_)
  unfold AA;rw[if_neg (by simpa using e1),if_pos (by simp at e2;omega)]
 rename_i e2
 have hs:s.length<=32:=by simp at e2;omega
 have hc:AA s=Fb s s 0:=by unfold AA;rw[if_neg (by simpa using e1),if_neg (by omega)]
 conv=>arg 1;whnf
 refine lK2 call dw n x s hx hs hW2 hO2 ?_ ?_ n 0 rfl (adM _) (by omega) (by rw[ajX])
 ·intro h
  intros
  conv=>arg 1;whnf
  exact Ac (Ab (.inl rfl) rfl) (hQ' _ _ _ hc.symm)
 ·intro h0 h
  intros
  conv=>arg 1;whnf
  exact Ac (Ab (.inl rfl) rfl) (hQ' _ _ _ (by rw[hc,h0]))
def ag9:=AP af7 65 s36
def adl:=AP ag9 46 s28
def yM:=AP adl 47 s29
def adn:=AP yM 23 s14
theorem EB2:Bh (Aj Tryz.prog eu ag9):=BP EAl fun args v hs=>by
 unfold s36 at hs;split at hs<;>cases hs
 exact⟨rfl,BU K8 (n:=17) rfl Tryz.func65 rfl (by kernel_rfl) (aij _ _ _ _ _ _ _ (by omega))⟩
theorem EW2:Bh (Aj Tryz.prog eu adl):=BP EB2 fun args v hs=>by
 unfold s28 at hs;split at hs<;>cases hs
 exact⟨rfl,BU K8 (n:=1) rfl Tryz.func46 rfl (by kernel_rfl) (b79 _ _ _ _ _ (fun s lo hi h=>CU rfl (by omega)))⟩
theorem EO2:Bh (Aj Tryz.prog eu yM):=BP EW2 fun args v hs=>by
 unfold s29 at hs;split at hs
 ·split at hs
  ·rename_i x nm _ s hb
   split at hs
   ·rename_i hl
    cases hs
    obtain⟨h',hb'⟩:=bO2 (Af (Aj Tryz.prog eu adl) (s.length+1)) (rg Tryz.prog eu adl (s.length+1) 47) (s.length+1) x s (Ba hb) hl nm .empty (by omega)
    exact⟨rfl,BU fC rfl Tryz.func47 rfl (by kernel_rfl) hb'⟩
   ·cases hs
  ·cases hs
 ·cases hs
theorem afN{hk:Am}{n:Nat}(hk':∀args h,hk 47 args h=yM 47 args h)(hn:0<n):hO2 (Af (Aj Tryz.prog eu hk) n):=fun x s nm h hx hl=>CU (by
 rw[hk']
 refine Ca (by simp[Bz,BK,Cz hx]) ?_
 show(match CZ (AU x)with|some s=>if s.length<=3000000000 then some (AV.int .i64 (jD s nm 0))else none|none=>none)=_
 rw[CK hx];simp only[if_pos hl]) hn
theorem EK2:Bh (Aj Tryz.prog eu adn):=BP EO2 fun args v hs=>by
 unfold s14 at hs;split at hs
 ·split at hs
  ·rename_i x _ s hb
   cases hs
   obtain⟨h',hb'⟩:=bK2 (Af (Aj Tryz.prog eu yM) 34) (rg Tryz.prog eu yM 34 23) 34 x s (Ba hb) (fun s h=>CU rfl (by omega)) (afN (fun _ _=>rfl) (by omega)) .empty (by omega)
   exact⟨rfl,BU V8 rfl Tryz.func23 rfl agd hb'⟩
  ·cases hs
 ·cases hs
def hK2(call:Az):Prop:= ∀x s h,AR x s->call (.func 23) [x] h=some (.ret (.eU [.int .i64 (AA s).1,.int .i64 (AA s).2]),h)
theorem abr{hk:Am}{n:Nat}(hk':∀args h,hk 23 args h=adn 23 args h)(hn:0<n):hK2 (Af (Aj Tryz.prog eu hk) n):=fun x s h hx=>CU (by
 rw[hk']
 refine Ca (by simp[Bz,BK,Cz hx]) ?_
 show(match CZ (AU x)with|some s=>some (AV.eU [.int .i64 (AA s).1,.int .i64 (AA s).2])|none=>none)=_
 rw[CK hx]) hn
theorem ahJ(call dw n)(x v:AV)(s:List Ag)(nt:Nt)(hx:AR x s)(hv:Cu v nt)(h0:(AA s).1≠0)(hK2:hK2 call)(h:AH) :
  ∃h',B RQ call dw n 5 Tryz.f5 [x,v] h=some (.ret (.eU [.int .i64 (AA s).1,.int .i64 (AA s).2]),h'):=by
 suffices hq:∀Q:Option (Ar × AH)->Prop,(∀h',Q (some (.ret (.eU [.int .i64 (AA s).1,.int .i64 (AA s).2]),h')))->Q (B RQ call dw n 5 Tryz.f5 [x,v] h)from
  hq (fun y=> ∃h',y=some (.ret (.eU [.int .i64 (AA s).1,.int .i64 (AA s).2]),h')) (fun h'=>⟨h',rfl⟩)
 intro Q hQ
 obtain⟨c,w,rfl,hc,hw⟩:=hv
 have hcs:=Ad hc
 have hws:=Ad hw
 conv=>arg 1;whnf
 refine Aa (CG (cs:=[c,.int .i64 nt.free,w]) rfl (by simp only[acy,hcs,hws,aj3];rfl)) ?_
 generalize gI:h.alloc (.cells [c,.int .i64 nt.free,w] 26)=h1 at *
 obtain⟨iq,oN,jk⟩:=BD gI
 clear gI jk
 generalize jl:h.next=i3 at *
 clear jl
 have pK:=hK2 x s h1 hx
 generalize (AA s).1=e at *
 generalize (AA s).2=a at *
 conv=>arg 1;whnf
 refine Aa (pK) ?_
 conv=>arg 1;whnf
 cases e1:(e != 0)
 ·exact absurd (by simpa using e1) h0
 conv=>arg 1;whnf
 exact Ac (Ab (.inl rfl) rfl) (hQ _)
theorem ada{s:List Ag}{n:Nt}(h:(AA s).1≠0):Ap s n=AA s:=by unfold Ap;rw[if_pos h]
theorem adu{s:List Ag}{n:Nt}(h:(AA s).1=0):I7 s n=Ap s n:=afn (fun a=>(BJ h a).1) h
def sK3:List AV->Option AV
 |[x,v]=>match CZ x,Dx v with|some s,some n=>if n.wires.length<=1152921504606846976 then some (.eU [.int .i64 (Ap s n).1,.int .i64 (Ap s n).2])else none|_,_=>none
 |_=>none
theorem af9{hk:Am}(hE:Bh (Aj Tryz.prog eu hk))(hno:∀args h,hk 5 args h=none)(hK:∀n,0<n->hK2 (Af (Aj Tryz.prog eu hk) n))(hF:∀n,0<n->hF1 (Af (Aj Tryz.prog eu hk) n))(hP:∀n,0<n->qL (Af (Aj Tryz.prog eu hk) n)):Bh (Aj Tryz.prog eu (AP hk 5 sK3)):=BP hE fun args v hs=>by
 unfold sK3 at hs;split at hs
 ·rename_i x v'
  split at hs
  ·rename_i s n h1 h2
   split at hs
   ·rename_i hl
    cases hs
    obtain⟨N,hN⟩:∃N,N=n.wires.length+50000:=⟨_,rfl⟩
    refine⟨rfl,?_⟩
    by_cases h0:(AA s).1=0
    ·obtain⟨h',hb⟩:=bCh (Af (Aj Tryz.prog eu hk) N) (rg Tryz.prog eu hk N 5) N x v' s n (Ba h1) (Dq h2) h0 (fun h=>by
      have hsc:AA s=(0,0):=by
       have:∀(all r:List Ag) (i:Nat),(Fb all r i).1=0->Fb all r i=(0,0):=by
        intro all r
        induction r with
        |nil=>intro i _;rfl
        |cons a r ih=>
         intro i h
         simp only[Fb]at h ⊢
         split at h
         ·simp at h
         ·rename_i c1
          rw[if_neg c1]
          split at h
          ·simp at h
          ·rename_i c2
           rw[if_neg c2]
           split at h
           ·simp at h
           ·rename_i c3
            rw[if_neg c3]
            exact ih _ h
       unfold AA at h0 ⊢
       split at h0
       ·simp at h0
       ·rename_i c1
        rw[if_neg c1]
        split at h0
        ·simp at h0
        ·rename_i c2
         rw[if_neg c2]
         exact this _ _ _ h0
      have:=hK N (by omega) x s h (Ba h1)
      rw[hsc]at this
      exact this) (hF N (by omega)) (hP N (by omega)) hl (by omega) (by omega) .empty
     rw[adu h0]at hb
     exact BU RQ (hno _ _) Tryz.func5 rfl ab4 hb
    ·obtain⟨h',hb⟩:=ahJ (Af (Aj Tryz.prog eu hk) N) (rg Tryz.prog eu hk N 5) N x v' s n (Ba h1) (Dq h2) h0 (hK N (by omega)) .empty
     rw[<-ada (n:=n) h0]at hb
     exact BU RQ (hno _ _) Tryz.func5 rfl ab4 hb
   ·cases hs
  ·cases hs
 ·cases hs
def hK3(call:Az):Prop:= ∀x v s n h,AR x s->Cu v n->n.wires.length<=1152921504606846976->call (.func 5) [x,v] h=some (.ret (.eU [.int .i64 (Ap s n).1,.int .i64 (Ap s n).2]),h)
theorem afX{hk hk0:Am}{n:Nat}(hk':∀args h,hk 5 args h=AP hk0 5 sK3 5 args h)(hn:0<n):hK3 (Af (Aj Tryz.prog eu hk) n):=fun x v s n h hx hv hl=>CU (by
 rw[hk']
 refine Ca (by simp[Bz,Cz hx,Eh hv]) ?_
 show(match CZ (AU x),Dx (AU v)with|some s,some n=>if n.wires.length<=1152921504606846976 then some (AV.eU [.int .i64 (Ap s n).1,.int .i64 (Ap s n).2])else none|_,_=>none)=_
 rw[CK hx,En hv];simp only[if_pos hl]) hn
def IB(s:List Ag)(nt:Nt):List UInt8:=LJ s (j5 (Ck s nt).wires) (Ck s nt)
theorem M7{s:List Ag}{nt:Nt}(g:fU s nt):Bl s (Ck s nt)=Ck s nt:=((Om g).tidy).2.2
theorem aed{s:List Ag}{nt:Nt}(g:fU s nt):Yf s (Ck s nt)= .eU [.str (IB s nt),.int .i64 0]:=by
 unfold Yf;rw[(J4 g).kX,if_pos rfl,M7 g];rfl
theorem Yu{s:List Ag}{a b:Nt}(ga:fU s a)(gb:fU s b):IB s a=IB s b ↔ Ck s a=Ck s b:=
 ⟨fun h=>aa3 (J4 ga) (J4 gb) (M7 ga) (M7 gb) h,fun h=>by unfold IB;rw[h]⟩
def hNc(call:Az):Prop:= ∀(F:List Sk.Id) (h0 h:AH) (R:List HE) (x c w:AV) (s:List Ag) (nt:Nt),(AR x s)->(fq c (nt.cells.map Ae))->(fq w (nt.wires.map Au))->((Ap s nt).1=0)->(nt.wires.length<=30000)->(Hb F h0 h R)->∃h',call (.func 14) [x,.agg [c,.int .i64 nt.free,w]] h=some (.ret (.eU [.str (IB s nt),.int .i64 0]),h')/\Hb F h0 h' R
theorem aec{hk:Am}{n:Nat}(hno:NO hk 14)(dNn:UP hk 43000 zN)(dPN:UP hk 43000 hPN)(hn:43001<n):hNc (EV hk n):=by
 intro F h0 h R x c w s nt hx hc hw ok hl H
 obtain⟨n,rfl⟩:=C9 hn
 refine Jd (tab:=fC) (D:=fun c=>zN c/\hPN c) hno Tryz.func14 rfl (by kernel_rfl) ⟨dNn n (by omega),dPN n (by omega)⟩ fun call dw ⟨dNn,dPN⟩ hrg Q hnone hQ=>?_
 have hfu:43001<=n:=by omega
 have g:=CX ok
 have sc:c.scalar=true:=Ad hc
 have iV:w.scalar=true:=Ad hw
 have hs:[c,AV.int .i64 nt.free,w].all AV.scalar=true:=by simp only[acy,sc,iV];rfl
 refine H.xB (hs:=hs) fun i3 h H=>?_
 refine H.xM 3 ?_
 obtain⟨h1,q1,H1⟩:=dNn F h0 _ _ x c w s nt hx hc hw ok hl H
 rw[Vq]at q1
 have nU:(Fu (Ck s nt).wires).scalar=true:=Ad (EC _)
 refine sC q1 ?_
 refine H1.xA [.aj,.int .i64 0,.aj] fun i6 h H=>?_
 refine H.xJ (hs:=?o1) fun h H=>?_
 case o1=>simp only[AV.cells,acy,nU];rfl
 have tl:(Ck s nt).wires.length<=30000:=Lx (Om g)
 have q2:=fun h=>dPN x (.agg [.eP ((Ck s nt).cells.map Ae) .unk,.int .i64 (Ck s nt).free,Fu (Ck s nt).wires]) s (Ck s nt) h hx ⟨_,_,rfl,.inr ⟨_,rfl⟩,EC _⟩ (by omega)
 rw[aed g]at q2
 refine H.xM 3 ?_
 refine sC (q2 _) ?_
 conv=>arg 1;whnf
 exact Ac (Ab (.inl rfl) rfl) (hQ _ H.tail.tail)
def hTd(call:Az):Prop:= ∀(F:List Sk.Id) (h0 h:AH) (R:List HE) (x c w:AV) (s:List Ag) (r:Rl),(AR x s)->(gN s r)->((AX s r).1=0)->(r.right.wires.length<=30000)->(fq c (r.right.cells.map Ae))->(fq w (r.right.wires.map Au))->(Hb F h0 h R)->∃h',call (.func 18) [x,.agg [.int .i64 r.a,.int .i64 r.b,c,.int .i64 r.right.free,w]] h=some (.ret (.eU [WX (Bn s r),.int .i64 0]),h')/\Hb F h0 h' R
theorem afq{hk:Am}{n:Nat}(hno:NO hk 18)(ug:UP hk 30001 h12)(uh:UP hk 30001 vv)(hn:30002<n):hTd (EV hk n):=by
 intro F h0 h R x c w s r hx ok hck hl hc hw H
 obtain⟨n,rfl⟩:=C9 hn
 refine Jd (tab:=fC) (D:=fun c=>h12 c/\vv c) hno Tryz.func18 rfl (by kernel_rfl) ⟨ug n (by omega),uh n (by omega)⟩ fun call dw ⟨ug,uh⟩ hrg Q hnone hQ=>?_
 have hfu:30002<=n:=by omega
 have sc:c.scalar=true:=Ad hc
 have iV:w.scalar=true:=Ad hw
 have hs:[AV.int .i64 r.a,.int .i64 r.b,c,.int .i64 r.right.free,w].all AV.scalar=true:=by simp only[acy,sc,iV];rfl
 refine H.xB (hs:=hs) fun i3 h H=>?_
 refine H.xA [.int .i64 0,.int .i64 0,.aj,.int .i64 0,.aj] fun i4 h H=>?_
 have q0:=fun h=>ug x (.agg [.int .i64 r.a,.int .i64 r.b,c,.int .i64 r.right.free,w]) s r h hx ⟨c,w,rfl,hc,hw⟩ (by omega)
 rw[hck]at q0
 refine H.xM 5 ?_
 refine sC (q0 _) ?_
 refine H.xM 5 ?_
 obtain⟨h1,q1,H1⟩:=uh F h0 _ _ x c w s r hx ok hl hc hw H
 rw[WK]at q1
 have nU:(Fu (Bn s r).right.wires).scalar=true:=Ad (EC _)
 refine sC q1 ?_
 refine H1.xJ (hs:=?o1) fun h H=>?_
 case o1=>simp only[AV.cells,acy,nU];rfl
 conv=>arg 1;whnf
 exact Ac (Ab (.inl rfl) (ag3 (H.mV (l:=[.int .i64 (Bn s r).a,.int .i64 (Bn s r).b,.eP ((Bn s r).right.cells.map Ae) .unk,.int .i64 (Bn s r).right.free,Fu (Bn s r).right.wires]) (.head _) (by kernel_rfl) (by kernel_rfl) (ajv rfl) rfl) rfl rfl)) (hQ _ H.tail.tail)
def yN(call:Az):Prop:= ∀x s h,AR x s->s.length<=4611686018427387904->call (.func 26) [x] h=some (.ret (.int .i64 (FX s s.length)),h)
def PN(s:List Ag)(nt:Nt):Bool:=decide (FX s s.length>65536)||decide ((nt.cells.length:Int)+nt.wires.length>512)
def hHw(call:Az):Prop:= ∀(F:List Sk.Id) (h0 h:AH) (R:List HE) (x c w:AV) (s:List Ag) (r:Rl),(AR x s)->(fq c (r.right.cells.map Ae))->(fq w (r.right.wires.map Au))->(s.length<=4611686018427387904)->(r.right.cells.length<=1152921504606846976)->(r.right.wires.length<=1152921504606846976)->(Hb F h0 h R)->∃h',call (.func 16) [x,.agg [.int .i64 r.a,.int .i64 r.b,c,.int .i64 r.right.free,w]] h=some (.ret (.bool (PN s r.right)),h')/\Hb F h0 h' R
theorem af3{hk:Am}{n:Nat}(hno:NO hk 16)(uI:UP hk 4 yN)(uJ:UP hk 4 vg)(hn:5<n):hHw (EV hk n):=by
 intro F h0 h R x c w s r hx hc hw l0 l1 l2 H
 obtain⟨n,rfl⟩:=C9 hn
 refine Jd (tab:=fC) (D:=fun c=>yN c/\vg c) hno Tryz.func16 rfl (by kernel_rfl) ⟨uI n (by omega),uJ n (by omega)⟩ fun call dw ⟨uI,uJ⟩ hrg Q hnone hQ=>?_
 have hfu:5<=n:=by omega
 have sc:c.scalar=true:=Ad hc
 have iV:w.scalar=true:=Ad hw
 have hs:[AV.int .i64 r.a,.int .i64 r.b,c,.int .i64 r.right.free,w].all AV.scalar=true:=by simp only[acy,sc,iV];rfl
 have pz:=fun h=>uJ (.agg [c,.int .i64 r.right.free,w]) r.right h ⟨c,w,rfl,hc,hw⟩ l1 l2
 have qz:=fun h=>uI x s h hx l0
 have hf:PN s r.right=(decide (FX s s.length>65536)||decide ((r.right.cells.length:Int)+r.right.wires.length>512)):=rfl
 generalize FX s s.length=sz at qz hf
 generalize (r.right.cells.length:Int)+r.right.wires.length=zz at pz hf
 refine H.xB (hs:=hs) fun i3 h H=>?_
 refine sC (qz _) ?_
 conv=>arg 1;whnf
 cases e1:decide (sz>65536)
 ·rw[hf,e1,ak9]at hQ
  refine H.xM 3 ?_
  refine sC (pz _) ?_
  conv=>arg 1;whnf
  exact Ac (Ab (.inl rfl) rfl) (hQ _ H.tail)
 ·rw[hf,e1,Bool.true_or]at hQ
  conv=>arg 1;whnf
  exact Ac (Ab (.inl rfl) rfl) (hQ _ H.tail)
def ahb:Plan:=⟨[0,1,2,3,4,5,6,7,8,9,10,11,12,13],[0,0,2,7,15,31,0,0,128,448,960,1984,63,8191]⟩
def hKf(call:Az):Prop:= ∀(F:List Sk.Id) (h0 h:AH) (R:List HE) (x c w:AV) (s:List Ag) (r:Rl),(AR x s)->(0<=r.a/\r.a<s.length)->(0<=r.b/\r.b<s.length)->(c.scalar=true)->(w.scalar=true)->(Hb F h0 h R)->∃h',call (.func 38) [x,.agg [.int .i64 r.a,.int .i64 r.b,c,.int .i64 r.right.free,w]] h=some (.ret (.eU [.int .i64 (fG s r.a),.int .i64 (fG s r.b)]),h')/\Hb F h0 h' R
theorem agb{hk:Am}{n:Nat}(hno:NO hk 38)  (hn:0<n):hKf (EV hk n):=by
 intro F h0 h R x c w s r hx ha hb sc iV H
 obtain⟨n,rfl⟩:=C9 hn
 refine Jd (tab:=fC) (D:=fun c=>True) hno Tryz.func38 rfl (by kernel_rfl) trivial fun call dw _ hrg Q hnone hQ=>?_
 have hfu:0<=n:=by omega
 have hs:[AV.int .i64 r.a,.int .i64 r.b,c,.int .i64 r.right.free,w].all AV.scalar=true:=by simp only[acy,sc,iV];rfl
 refine H.xB (hs:=hs) fun i3 h H=>?_
 obtain⟨n1,q1⟩:=Mk (h:=h) hx ha.1 ha.2
 obtain⟨n2,q2⟩:=Mk (h:=h) hx hb.1 hb.2
 refine xR ahb hnone hrg ?_
 refine H.xL ?_
 refine sC q1 ?_
 refine H.xL ?_
 refine sC q2 ?_
 refine xO ?_
 conv=>arg 1;whnf
 exact Ac (Ab (.inl rfl) rfl) (hQ _ H.tail)
def hKr(call:Az):Prop:= ∀(F:List Sk.Id) (h0 h:AH) (R:List HE) (x c w:AV) (s:List Ag) (r:Rl),(AR x s)->(fq c (r.right.cells.map Ae))->(fq w (r.right.wires.map Au))->(r.right.wires.length<=1152921504606846976)->(Hb F h0 h R)->∃h',call (.func 15) [x,.agg [.int .i64 r.a,.int .i64 r.b,c,.int .i64 r.right.free,w]] h=some (.ret (.eU [.int .i64 (AX s r).1,.int .i64 (AX s r).2]),h')/\Hb F h0 h' R
theorem ae8{hk:Am}{n:Nat}(hno:NO hk 15)(dK2:UP hk 4 hK2)(dK3:UP hk 4 hK3)(dKf:UP hk 4 hKf)(hn:5<n):hKr (EV hk n):=by
 intro F h0 h R x c w s r hx hc hw l2 H
 obtain⟨n,rfl⟩:=C9 hn
 refine Jd (tab:=fC) (D:=fun c=>hK2 c/\hK3 c/\hKf c) hno Tryz.func15 rfl (by kernel_rfl) ⟨dK2 n (by omega),dK3 n (by omega),dKf n (by omega)⟩ fun call dw ⟨dK2,dK3,dKf⟩ hrg Q hnone hQ=>?_
 have hfu:5<=n:=by omega
 have sc:c.scalar=true:=Ad hc
 have iV:w.scalar=true:=Ad hw
 have hs:[AV.int .i64 r.a,.int .i64 r.b,c,.int .i64 r.right.free,w].all AV.scalar=true:=by simp only[acy,sc,iV];rfl
 refine H.xB (hs:=hs) fun i3 h H=>?_
 refine sC (dK2 x s _ hx) ?_
 conv=>arg 1;whnf
 cases e0:((AA s).1 != 0)
 rotate_left
 ·have hr:AX s r=AA s:=by unfold AX;rw[if_pos (by simpa using e0)]
  rw[hr]at hQ
  conv=>arg 1;whnf
  exact Ac (Ab (.inl rfl) rfl) (hQ _ H.tail)
 have iX:(AA s).1=0:=by simpa using e0
 refine H.xL ?_
 conv=>arg 1;whnf
 cases e1:decide (r.a<0)
 rotate_left
 ·have hr:AX s r=(20,0):=by unfold AX;rw[if_neg (by simpa using iX),if_pos (.inl (by simpa using e1))]
  rw[hr]at hQ
  conv=>arg 1;whnf
  exact Ac (Ab (.inl rfl) rfl) (hQ _ H.tail)
 refine H.xL ?_
 refine sN hx ?_
 rw[aah]
 conv=>arg 1;whnf
 cases e2:decide (r.a>=(s.length:Int))
 rotate_left
 ·have hr:AX s r=(20,0):=by unfold AX;rw[if_neg (by simpa using iX),if_pos (.inr (by simpa using e2))]
  rw[hr]at hQ
  conv=>arg 1;whnf
  exact Ac (Ab (.inl rfl) rfl) (hQ _ H.tail)
 have ha:0<=r.a/\r.a<s.length:=⟨by simpa using e1,by simpa using e2⟩
 refine H.xL ?_
 conv=>arg 1;whnf
 cases e3:decide (r.b<0)
 rotate_left
 ·have hr:AX s r=(20,1):=by unfold AX;rw[if_neg (by simpa using iX),if_neg (by omega),if_pos (.inl (by simpa using e3))]
  rw[hr]at hQ
  conv=>arg 1;whnf
  exact Ac (Ab (.inl rfl) rfl) (hQ _ H.tail)
 refine H.xL ?_
 refine sN hx ?_
 rw[aah]
 conv=>arg 1;whnf
 cases e4:decide (r.b>=(s.length:Int))
 rotate_left
 ·have hr:AX s r=(20,1):=by unfold AX;rw[if_neg (by simpa using iX),if_neg (by omega),if_pos (.inr (by simpa using e4))]
  rw[hr]at hQ
  conv=>arg 1;whnf
  exact Ac (Ab (.inl rfl) rfl) (hQ _ H.tail)
 have hb:0<=r.b/\r.b<s.length:=⟨by simpa using e3,by simpa using e4⟩
 refine H.xM 3 ?_
 refine sC (dK3 x (.agg [c,.int .i64 r.right.free,w]) s r.right _ hx ⟨c,w,rfl,hc,hw⟩ l2) ?_
 conv=>arg 1;whnf
 cases e5:((Ap s r.right).1 != 0)
 rotate_left
 ·have hr:AX s r=Ap s r.right:=by unfold AX;rw[if_neg (by simpa using iX),if_neg (by omega),if_neg (by omega),if_pos (by simpa using e5)]
  rw[hr]at hQ
  conv=>arg 1;whnf
  exact Ac (Ab (.inl rfl) rfl) (hQ _ H.tail)
 have e5':¬(Ap s r.right).1≠0:=by simpa using e5
 refine H.xL ?_
 refine sN hc ?_
 rw[aah]
 conv=>arg 1;whnf
 cases e6:decide ((r.right.cells.length:Int)>32)
 rotate_left
 ·have hr:AX s r=(50,32):=by unfold AX;rw[if_neg (by simpa using iX),if_neg (by omega),if_neg (by omega),if_neg e5',if_pos (by simp at e6;omega)]
  rw[hr]at hQ
  conv=>arg 1;whnf
  exact Ac (Ab (.inl rfl) rfl) (hQ _ H.tail)
 refine H.xM 5 ?_
 obtain⟨h1,q1,H1⟩:=dKf F h0 _ _ x c w s r hx ha hb sc iV H
 refine sC q1 ?_
 refine H1.xL ?_
 have nR:IntKind.i64.wrap (fG s r.a+fG s r.b)=fG s r.a+fG s r.b:=by
  have:=Ed iX r.a
  have:=Ed iX r.b
  simp[IntKind.wrap,IntKind.bits,IntKind.signed];omega
 conv=>arg 1;whnf
 rw[nR]
 cases e7:(r.right.free != (fG s r.a+fG s r.b))
 ·have e7':¬fG s r.a+fG s r.b≠r.right.free:=by
   have:r.right.free=fG s r.a+fG s r.b:=by simpa using e7
   omega
  have hr:AX s r=(0,0):=by unfold AX;rw[if_neg (by simpa using iX),if_neg (by omega),if_neg (by omega),if_neg e5',if_neg (by simp at e6;omega),if_neg e7']
  rw[hr]at hQ
  conv=>arg 1;whnf
  exact Ac (Ab (.inl rfl) rfl) (hQ _ H1.tail)
 ·have e7':fG s r.a+fG s r.b≠r.right.free:=by
   have:r.right.free≠fG s r.a+fG s r.b:=by simpa using e7
   omega
  have hr:AX s r=(51,fG s r.a+fG s r.b):=by unfold AX;rw[if_neg (by simpa using iX),if_neg (by omega),if_neg (by omega),if_neg e5',if_neg (by simp at e6;omega),if_pos e7']
  rw[hr]at hQ
  conv=>arg 1;whnf
  try rw[nR]
  exact Ac (Ab (.inl rfl) rfl) (hQ _ H1.tail)
def hKu(call:Az):Prop:= ∀(F:List Sk.Id) (h0 h:AH) (R:List HE) (c w:AV) (r:Rl),(fq c (r.right.cells.map Ae))->(fq w (r.right.wires.map Au))->(r.right.cells.length<=1000000000)->(r.right.wires.length<=1000000000)->(Hb F h0 h R)->∃h',call (.func 19) [.agg [.int .i64 r.a,.int .i64 r.b,c,.int .i64 r.right.free,w]] h=some (.ret (.agg [.int .i64 r.a,.int .i64 r.b,fA Ae r.right.cells,.int .i64 r.right.free,fA Au r.right.wires]),h')/\Hb F h0 h' R
theorem ae4{hk:Am}{n:Nat}(hno:NO hk 19)(vF:UP hk 4 sG)(hn:5<n):hKu (EV hk n):=by
 intro F h0 h R c w r hc hw l1 l2 H
 obtain⟨n,rfl⟩:=C9 hn
 refine Jd (tab:=fC) (D:=fun c=>sG c) hno Tryz.func19 rfl (by kernel_rfl) (vF n (by omega)) fun call dw vF hrg Q hnone hQ=>?_
 have hfu:5<=n:=by omega
 have sc:c.scalar=true:=Ad hc
 have iV:w.scalar=true:=Ad hw
 have hs:[AV.int .i64 r.a,.int .i64 r.b,c,.int .i64 r.right.free,w].all AV.scalar=true:=by simp only[acy,sc,iV];rfl
 have hc1:=Ad (CQ (enc:=Ae) r.right.cells)
 have hw1:=Ad (CQ (enc:=Au) r.right.wires)
 have q:=fun h=>vF (.agg [c,.int .i64 r.right.free,w]) r.right h ⟨c,w,rfl,hc,hw⟩ l1 l2
 rw[show Jc r.right= .agg [fA Ae r.right.cells,.int .i64 r.right.free,fA Au r.right.wires]from rfl]at q
 generalize fA Ae r.right.cells=c1 at *
 generalize fA Au r.right.wires=w1 at *
 refine H.xB (hs:=hs) fun i1 h H=>?_
 refine H.xA [.int .i64 0,.int .i64 0,.aj,.int .i64 0,.aj] fun i2 h H=>?_
 refine H.xM 3 ?_
 refine sC (q _) ?_
 refine H.xJ (hs:=by simp only[AV.cells,acy,hc1,hw1];rfl) fun h H=>?_
 have H:Hb F h0 h (⟨i2,.cells [.int .i64 0,.int .i64 0,.aj,.int .i64 0,.aj] 46,true⟩::⟨i1,.cells [.int .i64 r.a,.int .i64 r.b,c1,.int .i64 r.right.free,w1] 46,true⟩::R):=H
 refine H.xM 5 ?_
 refine H.xJ (v:= .agg [.int .i64 r.a,.int .i64 r.b,c1,.int .i64 r.right.free,w1]) (hs:=by simp only[AV.cells,acy,hc1,hw1];rfl) fun h H=>?_
 conv=>arg 1;whnf
 exact Ac (Ab (.inl rfl) (QU rfl (H.mV (l:=[.int .i64 r.a,.int .i64 r.b,c1,.int .i64 r.right.free,w1]) (.head _) (by kernel_rfl) (by kernel_rfl) (ajv rfl) rfl))) (hQ _ H.tail.tail)
theorem bCA(call dw n)(x:AV)(s:List Ag)(hx:AR x s)(hl:s.length<=1000000)(h:AH):∃l h',B fC call dw n 10 Tryz.f10 [x] h=some (.ret l,h')/\iE iK l s:=by
 suffices hq:∀Q:Option (Ar × AH)->Prop,(∀l h',iE iK l s->Q (some (.ret l,h')))->Q (B fC call dw n 10 Tryz.f10 [x] h)from hq (fun y=> ∃l h',y=some (.ret l,h')/\iE iK l s) (fun l h' hl=>⟨l,h',rfl,hl⟩)
 intro Q hQ
 obtain⟨l',h',a1,a2⟩:=K4 (call:=call) (h:=h) (enc:=iK) (t:=22) (e:=85) (sz:=2) (z:= .agg [.str [],.int .i64 0]) (by kernel_rfl) (by kernel_rfl) (by kernel_rfl) (by omega) rfl rfl Nn hx (by rw[show Tryz.prog.bytesOf 85=24 by kernel_rfl];omega) (by omega)
 conv=>arg 1;whnf
 refine Aa (a1) ?_
 conv=>arg 1;whnf
 exact Ac (Ab (.inl rfl) rfl) (hQ _ _ a2)
def sCA:List AV->Option AV|[x]=>(match CZ x with|some l=>if l.length<=1000000 then some (fA iK l)else none|none=>none)|_=>none
theorem agl{hk:Am}(hE:Bh (Aj Tryz.prog eu hk))(hno:∀args h,hk 10 args h=none):Bh (Aj Tryz.prog eu (AP hk 10 sCA)):=Fa hE fun args v hs=>by
 unfold sCA at hs;split at hs
 ·split at hs
  ·rename_i x l h1
   split at hs
   ·rename_i hl
    cases hs
    obtain⟨l',h',q1,q2⟩:=bCA (Af (Aj Tryz.prog eu hk) 1) (rg Tryz.prog eu hk 1 10) 1 _ l (Ba h1) hl .empty
    obtain⟨e1,f1⟩:=q2.weak (fun _=>rfl) (fun _=>rfl)
    exact⟨_,f1,e1.symm,BU fC (hno _ _) Tryz.func10 rfl (by kernel_rfl) q1⟩
   ·cases hs
  ·cases hs
 ·cases hs
def hCA(call:Az):Prop:= ∀x l h,AR x l->l.length<=1000000->call (.func 10) [x] h=some (.ret (fA iK l),h)
theorem afd{hk hk0:Am}{n:Nat}(hk':∀args h,hk 10 args h=AP hk0 10 sCA 10 args h)(hn:0<n):hCA (Af (Aj Tryz.prog eu hk) n):=fun x l h hx hl=>CU (by
 rw[hk']
 refine Ca (by simp[Bz,BK,Cz hx]) ?_
 show(match CZ (AU x)with|some l=>if l.length<=1000000 then some (fA iK l)else none|none=>none)=_
 rw[CK hx];simp only[if_pos hl]) hn
end Go.Proofs.Nt
namespace Go.Proofs.Nt
open Go.Sk Go.RowKit
def Kk(hk:Am)(f:FuncId)(s:List AV->AH->Option (AV × AH)):Am:=fun g args h=>if g=f then s args h else hk g args h
theorem UZ(hk:Am){f g:FuncId}(s:List AV->AH->Option (AV × AH))(args:List AV)(h:AH)(e:g≠f):Kk hk f s g args h=hk g args h:=by simp[Kk,e]
theorem ZK{P:Program}{mu:FuncId->Nat->Bool}{hk:Am}{f:FuncId}{s:List AV->AH->Option (AV × AH)}(hE:Bh (Aj P mu hk))(hk':QB P f)
  (hs:∀args h v h',s args h=some (v,h')->∀ρ w eD,Rel ρ h w->dz ρ args eD->Calls P f eD.toArray w (D6 ρ h w (.ret v) h')):Bh (Aj P mu (Kk hk f s)) where
 hk:=fun g args hh v hh' h ρ w eD hR hb ha=>by
  by_cases hg:g=f
  ·subst hg
   have h':s args hh=some (v,hh'):=by simpa[Aj,Kk]using h
   exact⟨hk',hs _ _ _ _ h' ρ w eD hR ha⟩
  ·have h':hk g args hh=some (v,hh'):=by rw[<-UZ hk s args hh hg];exact h
   exact hE.hk g args hh v hh' h' ρ w eD hR hb ha
 ng:=hE.ng
 dw:=hE.dw
def R4:List AV->Option (List Int)
 |[]=>some []
 | .int .i64 z::r=>match R4 r with|some l=>some (z::l)|none=>none
 |_::_=>none
theorem Un:∀{xs:List AV} {l:List Int},R4 xs=some l->xs=l.map fun z=>AV.int .i64 z
 |[],l,h=>by cases h;rfl
 |x::r,l,h=>by
  unfold R4 at h
  split at h
  ·rename_i e;cases e
  ·rename_i z r' e
   cases e
   cases e2:R4 r with
   |none=>rw[e2]at h;cases h
   |some m=>rw[e2]at h;cases h;rw[Un e2];rfl
  ·cases h
theorem V7:∀l:List Int,R4 (l.map fun z=>AV.int .i64 z)=some l
 |[]=>rfl
 |z::r=>by simp only[ajr,R4,V7 r]
def TS(args:List AV)(h:AH):Option (AV × AH):=
 match args with
 |[.aj]=>some (.eU [],h)
 |[.hsl r 0 len _]=>match h.get r with
  |some (.cells cs T)=>match R4 cs with
   |some zs=>if zs.length=len/\zs.length<=1000000000 then some (.eU [],h.set r (.cells ((zs.mergeSort fun x y=>decide (x<=y)).map fun z=>AV.int .i64 z) T))else none
   |none=>none
  |_=>none
 |_=>none
theorem ag1:QB Tryz.prog 88:=⟨_,Tryz.func88,by kernel_rfl,by kernel_rfl⟩
theorem agO(ρ:eF):bf ρ (.eU []) (.tuple #[]):= .eU [] #[] rfl (fun i hi=>by simp at hi)
theorem afg{hk:Am}(hE:Bh (Aj Tryz.prog eu hk)):Bh (Aj Tryz.prog eu (Kk hk 88 TS)):=
 ZK hE ag1 fun args h v h' hs ρ w eD hR ha=>by
  unfold TS at hs
  split at hs
  ·cases hs
   obtain⟨c,rfl⟩:∃c,eD=[c]:=by
    have:=ha.1
    match eD,this with
    |[c],_=>exact⟨c,rfl⟩
   have hv:=ha.2 0 (by simp) (by simp)
   simp only[ajJ]at hv
   cases hv
   refine(Tryz.slices_Sort_int_none none 0 w).mono fun e w' hp=>?_
   obtain⟨rfl,rfl⟩:=hp
   exact⟨_,ρ,rfl,agO ρ,hR,Stp.refl ..⟩
  ·rename_i r len cap
   split at hs
   ·rename_i cs T hg
    split at hs
    ·rename_i zs hz
     split at hs
     ·rename_i hl
      obtain⟨rfl,hl⟩:=hl
      cases hs
      obtain⟨c,rfl⟩:∃c,eD=[c]:=by
       have:=ha.1
       match eD,this with
       |[c],_=>exact⟨c,rfl⟩
      have hv:=ha.2 0 (by simp) (by simp)
      simp only[ajJ]at hv
      cases hv with
      |hsl _ _ _ _ b n hb hn hcap=>
       obtain rfl:=Un hz
       obtain⟨eG,fr,hw,hp,h1,hfr⟩:=hR.obj r _ b hg hb
       have hbd:=(hR.bound r b hb).2.1
       have hcc:∀j (hj:j<zs.length),eG[j]?=some (.int .i64 zs[j]!):=fun j hj=>by
        have hj2:j<eG.length:=by have:=hp.1;simp only[aah]at this;omega
        have h2:=hp.2 j (by simpa using hj) hj2
        rw[aae hj2]
        simp only[aj4]at h2
        generalize eG[j]=z at h2
        cases h2
        rw[getElem!_pos zs j hj]
       have hH:Go.Sort.Holds (Value.int .i64) w b 0 zs.toArray:=fun j hj=>by
        have hj:j<zs.length:=by simpa using hj
        have hj2:j<eG.length:=by have:=hp.1;simp only[aah]at this;omega
        refine⟨?_,?_⟩
        ·unfold World.cell?
         simp only[hw,ajs]
         simpa using hcc j hj
        ·unfold World.frozen?
         simp only[hw,ajs]
         rcases hfr with rfl|rfl
         ·simp
         ·simp;omega
       refine(Tryz.slices_Sort_int b 0 n zs w hH hbd (by omega)).mono fun e w' hpp=>?_
       obtain⟨rfl,m,os,rfl⟩:=hpp
       generalize hzs:(zs.mergeSort fun x y=>decide (x<=y))=ss
       have hsl:ss.length=zs.length:=by rw[<-hzs,List.length_mergeSort]
       have hcs:zs.length<=eG.length:=by have:=hp.1;simpa using this
       have hwr:Wrote w (Go.Sort.putRow (Value.int .i64) (Go.Sort.ahead w m) b 0 ss.toArray) b (.cells (Go.Sort.putCells (Value.int .i64) 0 ss.toArray eG.toArray) T fr):=by
        refine⟨rfl,rfl,rfl,by simp[Go.Sort.putRow,Go.Sort.mapBlock,Go.Sort.ahead],?_,fun k hk=>?_⟩
        ·simp[Go.Sort.putRow,Go.Sort.mapBlock,Go.Sort.ahead,akE,hw,Go.Sort.onCells]
        ·simp[Go.Sort.putRow,Go.Sort.mapBlock,Go.Sort.ahead,akE,Ne.symm hk]
       have hsz2:(Go.Sort.putCells (Value.int .i64) 0 ss.toArray eG.toArray).size=eG.length:=by simp[Go.Sort.putCells]
       have hx:jS ρ (.cells (ss.map fun z=>AV.int .i64 z) T) (some (.cells (Go.Sort.putCells (Value.int .i64) 0 ss.toArray eG.toArray) T fr)):=by
        refine⟨(Go.Sort.putCells (Value.int .i64) 0 ss.toArray eG.toArray).toList,fr,by simp,⟨?_,?_⟩,?_,?_⟩
        ·have e1:(Go.Sort.putCells (Value.int .i64) 0 ss.toArray eG.toArray).toList.length=eG.length:=hsz2
         have e2:(ss.map fun z=>AV.int .i64 z).length=ss.length:=aah ..
         rw[e1,e2];omega
        ·intro i hi hj
         have hi:i<ss.length:=by simpa using hi
         have:(Go.Sort.putCells (Value.int .i64) 0 ss.toArray eG.toArray).toList[i]= .int .i64 ss[i]:=by
          simp[Go.Sort.putCells,hi]
         rw[this,aj4];exact .int _ _
        ·intro v hv
         obtain⟨i,hi,rfl⟩:=List.mem_iff_getElem.1 hv
         simp only[Go.Sort.putCells,Array.getElem_toList,Array.getElem_mapIdx]
         split
         ·rfl
         ·exact h1 _ (by simp)
        ·rw[Array.length_toList,hsz2];exact hfr
       have hS:=Rel.setObj hR hg (by simp[AO.live]) hb (by simp[AO.live]) hwr (fun jy T' fr' e=>by
        rw[hw]at e;cases e
        exact⟨_,_,_,rfl,by rw[hsz2];simp⟩) hx
       have hT:=Stp.setObj (ρ:=ρ) (o':= .cells (ss.map fun z=>AV.int .i64 z) T) hg (by simp[AO.live]) hb (by simp[AO.live]) hwr
       have hG:iM (Go.Sort.putRow (Value.int .i64) (Go.Sort.ahead w m) b 0 ss.toArray) (Go.Sort.grow (Go.Sort.putRow (Value.int .i64) (Go.Sort.ahead w m) b 0 ss.toArray) os):=
        ⟨rfl,rfl,rfl,by simp[Go.Sort.grow],fun k hk=>by simp only[Go.Sort.grow];rw[Array.getElem?_append_left hk]⟩
       exact⟨_,ρ,rfl,agO ρ,hS.grew hG,hT.trans (Stp.grew hG)⟩
     ·cases hs
    ·cases hs
   ·cases hs
  ·cases hs
end Go.Proofs.Nt
namespace Go.Proofs.Nt
open Go.Sk
theorem aef{hk hk0:Am}{n:Nat}(hk':∀args h,hk 88 args h=Kk hk0 88 TS 88 args h)(hn:0<n):hSo (Af (Aj Tryz.prog eu hk) n):=by
 refine⟨fun h=>CU (by rw[hk'];simp[Kk,TS]) hn,fun F h0 h R r zs c hz H=>?_⟩
 refine⟨h.set r (.cells ((zs.mergeSort leI).map Ae) 3),CU ?_ hn,H.set (iG.here _)⟩
 rw[hk']
 have hg:=H.get (.head _)
 have e:(zs.map Ae)=zs.map fun z=>AV.int .i64 z:=rfl
 simp only[Kk,if_true,TS,hg,e,V7]
 rw[if_pos (And.intro (by first|rfl|simp) (by omega))];rfl
def mo:FuncId->Nat->Bool:=fun f _=>Nat.beq f 87||Nat.beq f 69||Nat.beq f 89
def aaM:List (List AV × AV):=
 [([(.eP [(.agg [(.str [83]),(.int .i64 (1))])] .unk)],(.eU [(.int .i64 (0)),(.int .i64 (0))]))]
def ace:List (List AV × AV):=
 [([(.eP [(.agg [(.str [83]),(.int .i64 (1))])] .unk),(.agg [.aj,(.int .i64 (2)),(.eP [(.agg [(.int .i64 (-1)),(.int .i64 (1)),(.int .i64 (-1)),(.int .i64 (0))])] .unk)])],(.eU [(.int .i64 (0)),(.int .i64 (0))])),
  ([(.eP [(.agg [(.str [83]),(.int .i64 (1))])] .unk),(.agg [.aj,(.int .i64 (2)),(.eP [(.agg [(.int .i64 (-1)),(.int .i64 (0)),(.int .i64 (-1)),(.int .i64 (1))])] .unk)])],(.eU [(.int .i64 (0)),(.int .i64 (0))])),
  ([(.eP [(.agg [(.str [83]),(.int .i64 (1))])] .unk),(.agg [(.eP [] .unk),(.int .i64 (2)),(.eP [(.agg [(.int .i64 (-1)),(.int .i64 (0)),(.int .i64 (-1)),(.int .i64 (1))])] .unk)])],(.eU [(.int .i64 (0)),(.int .i64 (0))])),
  ([(.eP [(.agg [(.str [83]),(.int .i64 (1))])] .unk),(.agg [(.eP [(.int .i64 (0))] .unk),(.int .i64 (2)),(.eP [(.agg [(.int .i64 (-1)),(.int .i64 (0)),(.int .i64 (0)),(.int .i64 (1))]),(.agg [(.int .i64 (-1)),(.int .i64 (1)),(.int .i64 (0)),(.int .i64 (0))])] .unk)])],(.eU [(.int .i64 (0)),(.int .i64 (0))])),
  ([(.eP [(.agg [(.str [83]),(.int .i64 (1))])] .unk),(.agg [(.eP [(.int .i64 (0))] .unk),(.int .i64 (2)),(.eP [(.agg [(.int .i64 (-1)),(.int .i64 (0)),(.int .i64 (0)),(.int .i64 (0))]),(.agg [(.int .i64 (-1)),(.int .i64 (1)),(.int .i64 (0)),(.int .i64 (1))])] .unk)])],(.eU [(.int .i64 (0)),(.int .i64 (0))])),
  ([(.eP [(.agg [(.str [83]),(.int .i64 (1))])] .unk),(.agg [(.eP [(.int .i64 (0))] .unk),(.int .i64 (2)),(.eP [(.agg [(.int .i64 (-1)),(.int .i64 (1)),(.int .i64 (0)),(.int .i64 (0))]),(.agg [(.int .i64 (-1)),(.int .i64 (0)),(.int .i64 (0)),(.int .i64 (1))])] .unk)])],(.eU [(.int .i64 (0)),(.int .i64 (0))])),
  ([(.eP [(.agg [(.str [83]),(.int .i64 (1))])] .unk),(.agg [.aj,(.int .i64 (0)),.aj])],(.eU [(.int .i64 (0)),(.int .i64 (0))]))]
def acS:List (List AV × AV):=
 [([(.agg [(.int .i64 (-1)),(.int .i64 (0))]),(.agg [(.int .i64 (-1)),(.int .i64 (1))])],(.bool true)),
  ([(.agg [(.int .i64 (-1)),(.int .i64 (1))]),(.agg [(.int .i64 (-1)),(.int .i64 (0))])],(.bool false)),
  ([(.agg [(.int .i64 (-1)),(.int .i64 (0))]),(.agg [(.int .i64 (0)),(.int .i64 (1))])],(.bool true)),
  ([(.agg [(.int .i64 (-1)),(.int .i64 (1))]),(.agg [(.int .i64 (0)),(.int .i64 (0))])],(.bool true)),
  ([(.agg [(.int .i64 (0)),(.int .i64 (0))]),(.agg [(.int .i64 (-1)),(.int .i64 (1))])],(.bool false)),
  ([(.agg [(.int .i64 (0)),(.int .i64 (1))]),(.agg [(.int .i64 (-1)),(.int .i64 (0))])],(.bool false))]
def abU:List (List AV × AV):=
 [([(.eP [(.agg [(.str [83]),(.int .i64 (1))])] .unk),(.agg [.aj,(.int .i64 (2)),(.eP [(.agg [(.int .i64 (-1)),(.int .i64 (1)),(.int .i64 (-1)),(.int .i64 (0))])] .unk)])],(.int .i64 (0))),
  ([(.eP [(.agg [(.str [83]),(.int .i64 (1))])] .unk),(.agg [(.eP [(.int .i64 (0))] .unk),(.int .i64 (2)),(.eP [(.agg [(.int .i64 (-1)),(.int .i64 (1)),(.int .i64 (0)),(.int .i64 (0))]),(.agg [(.int .i64 (-1)),(.int .i64 (0)),(.int .i64 (0)),(.int .i64 (1))])] .unk)])],(.int .i64 (0)))]
def abX:List (List AV × AV):=
 [([(.eP [(.agg [(.str [83]),(.int .i64 (1))])] .unk),(.agg [.aj,(.int .i64 (2)),(.eP [(.agg [(.int .i64 (-1)),(.int .i64 (1)),(.int .i64 (-1)),(.int .i64 (0))])] .unk)])],(.eU [(.agg [(.eP [] .unk),(.int .i64 (2)),(.eP [(.agg [(.int .i64 (-1)),(.int .i64 (0)),(.int .i64 (-1)),(.int .i64 (1))])] .unk)]),(.int .i64 (0))])),
  ([(.eP [(.agg [(.str [83]),(.int .i64 (1))])] .unk),(.agg [(.eP [(.int .i64 (0))] .unk),(.int .i64 (2)),(.eP [(.agg [(.int .i64 (-1)),(.int .i64 (1)),(.int .i64 (0)),(.int .i64 (0))]),(.agg [(.int .i64 (-1)),(.int .i64 (0)),(.int .i64 (0)),(.int .i64 (1))])] .unk)])],(.eU [(.agg [(.eP [(.int .i64 (0))] .unk),(.int .i64 (2)),(.eP [(.agg [(.int .i64 (-1)),(.int .i64 (0)),(.int .i64 (0)),(.int .i64 (1))]),(.agg [(.int .i64 (-1)),(.int .i64 (1)),(.int .i64 (0)),(.int .i64 (0))])] .unk)]),(.int .i64 (0))]))]
def aa1:List (List AV × AV):=
 [([(.eP [(.agg [(.str [83]),(.int .i64 (1))])] .unk),(.agg [(.int .i64 (0)),(.int .i64 (0)),.aj,(.int .i64 (2)),(.eP [(.agg [(.int .i64 (-1)),(.int .i64 (0)),(.int .i64 (-1)),(.int .i64 (1))])] .unk)])],(.eU [(.int .i64 (0)),(.int .i64 (0))])),
  ([(.eP [(.agg [(.str [83]),(.int .i64 (1))])] .unk),(.agg [(.int .i64 (0)),(.int .i64 (0)),(.eP [(.int .i64 (0))] .unk),(.int .i64 (2)),(.eP [(.agg [(.int .i64 (-1)),(.int .i64 (0)),(.int .i64 (0)),(.int .i64 (0))]),(.agg [(.int .i64 (-1)),(.int .i64 (1)),(.int .i64 (0)),(.int .i64 (1))])] .unk)])],(.eU [(.int .i64 (0)),(.int .i64 (0))])),
  ([(.eP [(.agg [(.str [83]),(.int .i64 (1))])] .unk),(.agg [(.int .i64 (0)),(.int .i64 (0)),.aj,(.int .i64 (0)),.aj])],(.eU [(.int .i64 (51)),(.int .i64 (2))]))]
def acH:List (List AV × AV):=
 [([(.eP [(.agg [(.str [83]),(.int .i64 (1))])] .unk),(.agg [(.int .i64 (0)),(.int .i64 (0)),.aj,(.int .i64 (2)),(.eP [(.agg [(.int .i64 (-1)),(.int .i64 (0)),(.int .i64 (-1)),(.int .i64 (1))])] .unk)])],(.eU [(.bool true),(.int .i64 (0))])),
  ([(.eP [(.agg [(.str [83]),(.int .i64 (1))])] .unk),(.agg [(.int .i64 (0)),(.int .i64 (0)),(.eP [(.int .i64 (0))] .unk),(.int .i64 (2)),(.eP [(.agg [(.int .i64 (-1)),(.int .i64 (0)),(.int .i64 (0)),(.int .i64 (0))]),(.agg [(.int .i64 (-1)),(.int .i64 (1)),(.int .i64 (0)),(.int .i64 (1))])] .unk)])],(.eU [(.bool false),(.int .i64 (0))])),
  ([(.eP [(.agg [(.str [83]),(.int .i64 (1))])] .unk),(.agg [(.int .i64 (0)),(.int .i64 (0)),.aj,(.int .i64 (0)),.aj])],(.eU [(.bool false),(.int .i64 (51))]))]
noncomputable def FQ(P:Program)(mu:FuncId->Nat->Bool)(hk:Am)(n:Nat)(f:FuncId)(tab:List (List AV × AV)):Bool:=
 tab.all fun e=>match HY P mu hk n (.func f) e.1 .empty with
  |some (.ret u,_)=>BK u&&AV.beq (AU u) e.2
  |_=>false
theorem Dp{P:Program}{mu:FuncId->Nat->Bool}{hk:Am}{n:Nat}{f:FuncId}{tab:List (List AV × AV)}(hE:Bh (Aj P mu hk))(h:FQ P mu hk n f tab=true):Bh (Aj P mu (AP hk f (Gw tab))):=
 Fa hE fun args v hs=>by
  have h1:=ajz.1 h _ (Uk hs)
  simp only at h1
  split at h1
  ·rename_i u h' he
   simp only[abB]at h1
   exact⟨u,h1.1,(AV.beq_eq h1.2).symm,n,h',by rw[Px];exact he⟩
  ·cases h1
def wk0:Am:=OE
theorem wE0:Bh (Aj Tryz.prog mo wk0):=Vu (by kernel_rfl) (by kernel_rfl)
def wk1:Am:=AP wk0 61 (Gw aaM)
set_option maxRecDepth 100000 in
theorem aic:FQ Tryz.prog mo wk0 4000 61 aaM=true:=by kernel_rfl
theorem wE1:Bh (Aj Tryz.prog mo wk1):=Dp wE0 aic
def wk2:Am:=AP wk1 49 (Gw ace)
set_option maxRecDepth 100000 in
theorem ah2:FQ Tryz.prog mo wk1 4000 49 ace=true:=by kernel_rfl
theorem wE2:Bh (Aj Tryz.prog mo wk2):=Dp wE1 ah2
def wk3:Am:=AP wk2 95 (Gw acS)
set_option maxRecDepth 100000 in
theorem ahU:FQ Tryz.prog mo wk2 4000 95 acS=true:=by kernel_rfl
theorem wE3:Bh (Aj Tryz.prog mo wk3):=Dp wE2 ahU
def wk4:Am:=AP wk3 77 (Gw abU)
set_option maxRecDepth 100000 in
theorem ahv:FQ Tryz.prog mo wk3 4000 77 abU=true:=by kernel_rfl
theorem wE4:Bh (Aj Tryz.prog mo wk4):=Dp wE3 ahv
def wk5:Am:=AP wk4 54 (Gw abX)
set_option maxRecDepth 100000 in
theorem aif:FQ Tryz.prog mo wk4 4000 54 abX=true:=by kernel_rfl
theorem wE5:Bh (Aj Tryz.prog mo wk5):=Dp wE4 aif
def wk6:Am:=AP wk5 41 (Gw aa1)
set_option maxRecDepth 100000 in
theorem ahB:FQ Tryz.prog mo wk5 4000 41 aa1=true:=by kernel_rfl
theorem wE6:Bh (Aj Tryz.prog mo wk6):=Dp wE5 ahB
def wk7:Am:=AP wk6 22 (Gw acH)
set_option maxRecDepth 100000 in
theorem ah7:FQ Tryz.prog mo wk6 4000 22 acH=true:=by kernel_rfl
theorem wE7:Bh (Aj Tryz.prog mo wk7):=Dp wE6 ah7
set_option maxRecDepth 100000 in
theorem ahQ:QM (HY Tryz.prog mo wk7 4000 (.func 17) [] .empty)=true:=by kernel_rfl
theorem ahl:∃h',Af (Aj Tryz.prog mo wk7) 4000 (.func 17) [] .empty=some (.ret (.bool true),h'):=by
 obtain⟨h',he⟩:=Oy ahQ
 exact⟨h',by rw[<-he];exact Px _ _ _ _ _ _ _⟩
def mq:FuncId->Nat->Bool:=fun f _=>Nat.beq f 87||Nat.beq f 69||Nat.beq f 89
def abA:List (List AV × AV):=
 [([(.eP [(.agg [(.str [90]),(.int .i64 (0))]),(.agg [(.str [83]),(.int .i64 (1))])] .unk)],(.eU [(.int .i64 (0)),(.int .i64 (0))]))]
def abp:List (List AV × AV):=
 [([(.eP [(.agg [(.str [90]),(.int .i64 (0))]),(.agg [(.str [83]),(.int .i64 (1))])] .unk),(.agg [(.eP [(.int .i64 (0)),(.int .i64 (1))] .unk),(.int .i64 (1)),(.eP [(.agg [(.int .i64 (1)),(.int .i64 (1)),(.int .i64 (0)),(.int .i64 (0))]),(.agg [(.int .i64 (1)),(.int .i64 (0)),(.int .i64 (-1)),(.int .i64 (0))])] .unk)])],(.eU [(.int .i64 (0)),(.int .i64 (0))])),
  ([(.eP [(.agg [(.str [90]),(.int .i64 (0))]),(.agg [(.str [83]),(.int .i64 (1))])] .unk),(.agg [(.eP [(.int .i64 (1)),(.int .i64 (0))] .unk),(.int .i64 (1)),(.eP [(.agg [(.int .i64 (0)),(.int .i64 (1)),(.int .i64 (1)),(.int .i64 (0))]),(.agg [(.int .i64 (0)),(.int .i64 (0)),(.int .i64 (-1)),(.int .i64 (0))])] .unk)])],(.eU [(.int .i64 (0)),(.int .i64 (0))])),
  ([(.eP [(.agg [(.str [90]),(.int .i64 (0))]),(.agg [(.str [83]),(.int .i64 (1))])] .unk),(.agg [.aj,(.int .i64 (0)),.aj])],(.eU [(.int .i64 (0)),(.int .i64 (0))]))]
def abT:List (List AV × AV):=
 []
def acz:List (List AV × AV):=
 []
def acp:List (List AV × AV):=
 []
def ab0:List (List AV × AV):=
 []
def aaU:List (List AV × AV):=
 []
def xk0:Am:=OE
theorem xE0:Bh (Aj Tryz.prog mq xk0):=Vu (by kernel_rfl) (by kernel_rfl)
def xk1:Am:=AP xk0 61 (Gw abA)
set_option maxRecDepth 100000 in
theorem ah0:FQ Tryz.prog mq xk0 4000 61 abA=true:=by kernel_rfl
theorem xE1:Bh (Aj Tryz.prog mq xk1):=Dp xE0 ah0
def xk2:Am:=AP xk1 49 (Gw abp)
set_option maxRecDepth 100000 in
theorem ahE:FQ Tryz.prog mq xk1 4000 49 abp=true:=by kernel_rfl
theorem xE2:Bh (Aj Tryz.prog mq xk2):=Dp xE1 ahE
def xk3:Am:=AP xk2 95 (Gw abT)
set_option maxRecDepth 100000 in
theorem ahA:FQ Tryz.prog mq xk2 4000 95 abT=true:=by kernel_rfl
theorem xE3:Bh (Aj Tryz.prog mq xk3):=Dp xE2 ahA
def xk4:Am:=AP xk3 77 (Gw acz)
set_option maxRecDepth 100000 in
theorem aik:FQ Tryz.prog mq xk3 4000 77 acz=true:=by kernel_rfl
theorem xE4:Bh (Aj Tryz.prog mq xk4):=Dp xE3 aik
def xk5:Am:=AP xk4 54 (Gw acp)
set_option maxRecDepth 100000 in
theorem ahK:FQ Tryz.prog mq xk4 4000 54 acp=true:=by kernel_rfl
theorem xE5:Bh (Aj Tryz.prog mq xk5):=Dp xE4 ahK
def xk6:Am:=AP xk5 41 (Gw ab0)
set_option maxRecDepth 100000 in
theorem ahL:FQ Tryz.prog mq xk5 4000 41 ab0=true:=by kernel_rfl
theorem xE6:Bh (Aj Tryz.prog mq xk6):=Dp xE5 ahL
def xk7:Am:=AP xk6 22 (Gw aaU)
set_option maxRecDepth 100000 in
theorem ah8:FQ Tryz.prog mq xk6 4000 22 aaU=true:=by kernel_rfl
theorem xE7:Bh (Aj Tryz.prog mq xk7):=Dp xE6 ah8
set_option maxRecDepth 100000 in
theorem ah5:QM (HY Tryz.prog mq xk7 4000 (.func 7) [] .empty)=true:=by kernel_rfl
theorem ahs:∃h',Af (Aj Tryz.prog mq xk7) 4000 (.func 7) [] .empty=some (.ret (.bool true),h'):=by
 obtain⟨h',he⟩:=Oy ah5
 exact⟨h',by rw[<-he];exact Px _ _ _ _ _ _ _⟩
theorem ac9:Tryz.prog.globalNamed "internal/strconv.uint64pow10" =some 1:=by kernel_rfl
theorem ahd:uN 1=some (Lib.pow10Tab.map fun z=>Value.int .u64 z).toArray:=if_pos rfl
noncomputable def hz1:=AP adn 80 zS
theorem Ez1:Bh (Aj Tryz.prog eu hz1):=afj EK2 ac9 ahd
noncomputable def hz2:=AP hz1 58 zT
theorem Ez2:Bh (Aj Tryz.prog eu hz2):=afa Ez1
noncomputable def hz3:=AP hz2 5 sK3
theorem Ez3:Bh (Aj Tryz.prog eu hz3):=af9 Ez2 (fun _ _=>rfl) (fun n hn=>abr (fun _ _=>rfl) hn) (fun n hn=>abo (fun _ _=>rfl) hn) (fun n hn=>abJ (fun _ _=>rfl) hn)
noncomputable def hz4:=AP hz3 21 xq
theorem Ez4:Bh (Aj Tryz.prog eu hz4):=ae5 Ez3 (fun _ _=>rfl) (fun _ _=>rfl) (fun _ _=>rfl) (fun n hn=>abo (fun _ _=>rfl) hn) (fun n hn=>abJ (fun _ _=>rfl) hn) (fun n hn=>afD (fun _ _=>rfl) hn)
noncomputable def af0:=KA hz3 21 xq
theorem ahF:Bh (Aj Tryz.prog eu af0):=aau Ez3 Ez4
noncomputable def hz5:=AP af0 56 sLs
theorem Ez5:Bh (Aj Tryz.prog eu hz5):=aeQ ahF (fun _ _=>rfl) (fun n hn=>acC (hk0:=hz1) (fun _ _=>rfl) hn)
theorem ahH:PrC hz5 where
 n1:=fun _ _=>rfl
 n2:=fun _ _=>rfl
 n3:=fun _ _=>rfl
 n4:=fun _ _=>rfl
 lC:=fun n hn=>ab6 (fun _ _=>rfl) hn
 h16:=fun n hn=>UL (fun _ _=>rfl) hn
 nQ:=fun n hn=>abY (fun _ _=>rfl) hn
 hI:=fun n hn=>aeO (hk0:=adn) (fun _ _=>rfl) hn
 hL:=fun n hn=>ael (hk0:=af0) (fun _ _=>rfl) hn
 hJ:=fun n hn=>acC (hk0:=hz1) (fun _ _=>rfl) hn
noncomputable def hz6:=AP hz5 37 sPN
theorem Ez6:Bh (Aj Tryz.prog eu hz6):=afs Ez5 (fun _ _=>rfl) ahH
noncomputable def hz7:=AP hz6 30 zU
theorem Ez7:Bh (Aj Tryz.prog eu hz7):=aeb Ez6 (fun _ _=>rfl)
noncomputable def hz8:=AP hz7 43 s24
theorem Ez8:Bh (Aj Tryz.prog eu hz8):=aeY Ez7 (fun _ _=>rfl)
noncomputable def hz9:=AP hz8 20 s9
theorem Ez9:Bh (Aj Tryz.prog eu hz9):=agY Ez8 (fun _ _=>rfl) (fun n hn=>afv (hk0:=hz6) (fun _ _=>rfl) hn) (fun n hn=>af8 (hk0:=hz7) (fun _ _=>rfl) hn)
noncomputable def aew:=AP hz9 10 sCA
theorem aie:Bh (Aj Tryz.prog eu aew):=agl Ez9 (fun _ _=>rfl)
noncomputable def afR:=AP aew 26 zV
theorem ain:Bh (Aj Tryz.prog eu afR):=aeD aie (fun _ _=>rfl)
noncomputable def yO:=AP afR 27 zW
theorem aii:Bh (Aj Tryz.prog eu yO):=agp ain (fun _ _=>rfl)
noncomputable def afT:=AP yO 41 s12
theorem ahX:Bh (Aj Tryz.prog eu afT):=BP aii fun args v hs=>by
 unfold s12 at hs;split at hs
 ·rename_i x v'
  split at hs
  ·rename_i s r h1 h2
   split at hs
   ·rename_i hl
    cases hs
    obtain⟨h',hb⟩:=b12 (Af (Aj Tryz.prog eu yO) 6) (rg Tryz.prog eu yO 6 41) 6 x v' s r (Ba h1) (YA h2) hl (abY (fun _ _=>rfl) (by omega)) (UL (fun _ _=>rfl) (by omega)) .empty (by omega)
    exact⟨rfl,BU Zb rfl Tryz.func41 rfl afl hb⟩
   ·cases hs
  ·cases hs
 ·cases hs
noncomputable def aeZ:=AP afT 92 x9
theorem ah1:Bh (Aj Tryz.prog eu aeZ):=afQ ahX
noncomputable def aee:=Kk aeZ 88 TS
theorem ahN:Bh (Aj Tryz.prog eu aee):=afg ah1
theorem Rx{P:Program}{mu mu':FuncId->Nat->Bool}{hk hk0:Am}{f:FuncId}{s:List AV->Option AV}(hE:Bh (Aj P mu hk))(hE0:Bh (Aj P mu' hk0))
  (hs:∀args v,s args=some v->EZ v=true/\∃n h',Af (Aj P mu' hk0) n (.func f) args .empty=some (.ret v,h')):Bh (Aj P mu (AP hk f s)) where
 hk:=fun g args hh v hh' h ρ w eD hR hb ha=>by
  by_cases hg:g=f
  ·subst hg
   obtain⟨hfr,h',rfl⟩:=LX h
   obtain⟨p2,n,h1,he⟩:=hs _ v h'
   exact WM hE0 he hR ha hfr p2
  ·have h':hk g args hh=some (v,hh'):=by rw[<-Jm hk s args hh hg];exact h
   exact hE.hk g args hh v hh' h' ρ w eD hR hb ha
 ng:=hE.ng
 dw:=hE.dw
def yP:List AV->Option AV|[]=>some (.bool true)|_=>none
noncomputable def agL:=AP aee 17 yP
theorem ahP:Bh (Aj Tryz.prog eu agL):=Rx ahN wE7 fun args v hs=>by
 unfold yP at hs;split at hs
 ·cases hs
  obtain⟨h',he⟩:=ahl
  exact⟨rfl,_,h',he⟩
 ·cases hs
noncomputable def Wu:=AP agL 7 yP
theorem ahw:Bh (Aj Tryz.prog eu Wu):=Rx ahP xE7 fun args v hs=>by
 unfold yP at hs;split at hs
 ·cases hs
  obtain⟨h',he⟩:=ahs
  exact⟨rfl,_,h',he⟩
 ·cases hs
section
variable{s:List Ag}{a b:Nt}{f:Int->Int}
theorem kM.congr{g:Int->Int}(ga:fU s a)(I:kM s a b f)(h:∀c:Int,0<=c->c<a.cells.length->g c=f c):kM s a b g:=by
 have hm:∀p∈Ah s a,mv g p=mv f p:=fun p hp=>by
  rcases akz p.1 0 with k|k
  ·rw[EN k,EN k]
  ·rw[EJ k,EJ k,h _ k (CR hp k).1]
 refine⟨I.fr,I.len,fun c c0 c1=>by rw[h c c0 c1];exact I.rg c c0 c1,fun c d c0 c1 d0 d1 e=>?_,fun c c0 c1=>by rw[h c c0 c1];exact I.ag c c0 c1,fun p hp=>?_⟩
 ·rw[h c c0 c1,h d d0 d1]at e;exact I.inj c d c0 c1 d0 d1 e
 ·rw[hm p hp,hm _ (ga.val hp)];exact I.lk p hp
theorem Pg(ga:fU s a){j:Nat}{c:Int}(h:(Ao s a)[j]?=some c):(GK s a b).getD c.toNat 0=(Ao s b).getD j 0:=by
 have la:=Em ga
 have:=YI (l:=Ao s b) (Qs ga) (fun c hc=>by rw[la];exact JN ga hc) _ (ab5 _) j (aao.1 h).1
 rwa [IV h]at this
theorem Qi(ga:fU s a)(gb:fU s b)(J:kM s a b fun c=>(GK s a b).getD c.toNat 0):Ck s a=Ck s b:=by
 have la:=Em ga
 have lb:=Em gb
 have hl:=J.len
 have A:=(JX ga).wU ga
 have B:=(JX gb).wU gb
 obtain⟨q,Q,q1,q2⟩:=A.2.symm ga A.1
 have K:=(Q.trans A.1 J).trans A.1 B.2
 refine Za A.1 K fun j j0 j1=>?_
 have e:(X6 s a).cells.length=a.cells.length:=A.2.len.symm
 have hj:(Ao s a)[j.toNat]?=some ((Ao s a).getD j.toNat 0):=FI (by omega)
 have hj2:(Ao s b)[j.toNat]?=some ((Ao s b).getD j.toNat 0):=FI (by omega)
 have hr:=JN ga (abn hj)
 have hq:q j=(Ao s a).getD j.toNat 0:=by
  have:=q1 _ hr.1 hr.2
  rw[Oa ga hj,adH j0]at this
  exact this
 show(GI s b).getD ((GK s a b).getD (q j).toNat 0).toNat 0=j
 rw[hq,Pg ga hj,Oa gb hj2,adH j0]
theorem Xg(ga:fU s a)(gb:fU s b)(h:Ck s a=Ck s b):kM s a b fun c=>(GK s a b).getD c.toNat 0:=by
 have la:=Em ga
 have lb:=Em gb
 have A:=(JX ga).wU ga
 have B:=(JX gb).wU gb
 have FA:=A.2.trans ga (Sl A.1)
 have FB:=B.2.trans gb (Sl B.1)
 have FA2:kM s a (Ck s b) fun c=>(GI s a).getD c.toNat 0:=by rw[<-h];exact FA
 obtain⟨q,Q,q1,q2⟩:=FB.symm gb (J4 gb)
 have hl:a.cells.length=b.cells.length:=FA2.len.trans FB.len.symm
 refine(FA2.trans ga Q).congr ga fun c c0 c1=>?_
 obtain⟨j,hj⟩:=aku.1 (Pe ga c0 c1)
 have hj1:=(aao.1 hj).1
 have hj2:(Ao s b)[j]?=some ((Ao s b).getD j 0):=FI (by omega)
 have hr:=JN gb (abn hj2)
 have:=q1 _ hr.1 hr.2
 rw[Oa gb hj2]at this
 show _=q ((GI s a).getD c.toNat 0)
 rw[Pg ga hj,Oa ga hj,this]
theorem OX(ga:fU s a)(gb:fU s b):(Gt s a b).isSome=true ↔ Ck s a=Ck s b:=by
 have hlen:(GK s a b).length=a.cells.length:=(Mq _ _ _).trans (Em ga)
 constructor
 ·intro h
  unfold Gt at h
  split at h
  ·rename_i k
   exact Qi ga gb (aaP ga gb k.1 k.2.1 hlen k.2.2)
  ·cases h
 ·intro h
  have J:=Xg ga gb h
  unfold Gt
  rw[if_pos ⟨J.fr,J.len,abS ga gb hlen J⟩];rfl
theorem XM(g:fU s a):Ai (Bl s a).wires=Ai a.wires:=by
 funext p
 by_cases h:p∈Ah s a
 ·exact g.tidy.2.1 p h
 ·have h1:p ∉ ends a.wires:=fun k=>h (Bq.1 (g.ip p k))
  have h2:p ∉ ends (Bl s a).wires:=fun k=>h (Bq.1 (g.tidy.1.ip p k))
  unfold Ai
  rw[Hl h1,Hl h2]
theorem Wi{c:List Int}{n:Int}{V W:List Wr}(h:Ai V=Ai W):Ao s ⟨c,n,V⟩=Ao s ⟨c,n,W⟩:=by
 have e1:∀p,Da ⟨c,n,V⟩ p=Da ⟨c,n,W⟩ p:=fun p=>by unfold Da;rw[h]
 have e2:iJ s ⟨c,n,V⟩=iJ s ⟨c,n,W⟩:=by unfold iJ;rw[h]
 have e3:AY s ⟨c,n,V⟩=AY s ⟨c,n,W⟩:=by funext p;unfold AY;rw[e1,e2]
 have e4:Dv ⟨c,n,V⟩=Dv ⟨c,n,W⟩:=by unfold Dv EL;rw[h]
 have e5:tk s ⟨c,n,V⟩=tk s ⟨c,n,W⟩:=by unfold tk;rw[e3,e4]
 have e6:Cr s ⟨c,n,V⟩=Cr s ⟨c,n,W⟩:=by unfold Cr DI DK F9;rw[e5]
 have e7:Ia s ⟨c,n,V⟩=Ia s ⟨c,n,W⟩:=by funext p;unfold Ia Fx Gn Gm;rw[h,e3,e1]
 have e8:CW s ⟨c,n,V⟩=CW s ⟨c,n,W⟩:=by unfold CW Ju;rw[e7]
 unfold Ao GN KJ
 rw[e3,e6,e8]
theorem Xq(g:fU s a):Ck s (Bl s a)=Ck s a:=by
 have gt:=g.tidy.1
 refine Qi gt g ?_
 have ho:Ao s (Bl s a)=Ao s a:=Wi (XM g)
 obtain⟨q,Q,q1,q2⟩:=(Sl g).symm g gt
 refine Q.congr gt fun c c0 c1=>?_
 have c1':c<a.cells.length:=c1
 rw[q1 c c0 c1']
 obtain⟨j,hj⟩:=aku.1 (Pe gt c0 c1)
 rw[Pg gt hj]
 rw[ho]at hj
 exact IV hj
end
section
variable{s:List Ag}{r:Rl}
theorem gN.of(h:(AX s r).1=0):gN s r:=by
 unfold AX at h
 split at h
 ·rename_i k;exact absurd h k
 ·split at h
  ·simp at h
  ·split at h
   ·simp at h
   ·split at h
    ·rename_i k;exact absurd h k
    ·rename_i k
     split at h
     ·simp at h
     ·split at h
      ·simp at h
      ·exact⟨CX (by omega),by omega,by omega,by omega,by omega,by omega,by omega⟩
theorem Mx(ok:gN s r):gN s (Bn s r):=by
 obtain⟨g,a0,a1,b0,b1,hc,hf⟩:=ok
 exact⟨(FY g hf).tidy.1,b0,b1,a0,a1,hc,by show fG s r.b+fG s r.a=r.right.free;omega⟩
theorem abv(ok:gN s r){p:Pt}(hp:p∈Ah s r.right):Bp (Ai (Fy s r).wires) (Im (fG s r.a) (fG s r.b) p)=Im (fG s r.a) (fG s r.b) (Bp (Ai r.right.wires) p):=by
 obtain⟨g,a0,a1,b0,b1,hc,hf⟩:=ok
 have gt:=FY g hf
 obtain⟨w,hw,hpw⟩:=G7 (g.al p hp)
 obtain⟨n1,n2⟩:=EH (M:=fun _=>none) g.nd w hw
 obtain⟨m1,m2⟩:=EH (M:=fun _=>none) gt.nd (M6 (fG s r.a) (fG s r.b) w) (ajy.2 ⟨w,hw,rfl⟩)
 rcases hpw with rfl|rfl
 ·rw[FU (M:=Ai r.right.wires) n1];exact FU (M:=Ai (Fy s r).wires) m1
 ·rw[FU (M:=Ai r.right.wires) n2];exact FU (M:=Ai (Fy s r).wires) m2
theorem Wz(ok:gN s r){p:Pt}(hp:p∈Ah s r.right):Bp (Ai (Bn s r).right.wires) (Im (fG s r.a) (fG s r.b) p)=Im (fG s r.a) (fG s r.b) (Bp (Ai r.right.wires) p):=by
 obtain⟨g,a0,a1,b0,b1,hc,hf⟩:=ok
 have gt:=FY g hf
 have ha:=(Ed g.sg r.a).1
 have hb:=(Ed g.sg r.b).1
 have hm:=(Ko ha hb hf.symm hp).1
 rw[<-abv ⟨g,a0,a1,b0,b1,hc,hf⟩ hp]
 show Bp (Ai (Bl s (Fy s r)).wires) _=_
 unfold Bp
 rw[gt.tidy.2.1 _ (show _∈Ah s (Fy s r)from hm)]
theorem TQ(ok:gN s r):(Bn s (Bn s r)).right=Bl s r.right:=by
 have lY:=Mx ok
 have ok3:=Mx lY
 obtain⟨g,a0,a1,b0,b1,hc,hf⟩:=ok
 have ha:=(Ed g.sg r.a).1
 have hb:=(Ed g.sg r.b).1
 have ok:gN s r:=⟨g,a0,a1,b0,b1,hc,hf⟩
 have I:kM s r.right (Bn s (Bn s r)).right fun c=>c:=by
  refine⟨rfl,rfl,fun c c0 c1=>⟨c0,c1⟩,fun c d _ _ _ _ e=>e,fun c _ _=>rfl,fun p hp=>?_⟩
  rw[Zj,Zj]
  have h1:=Ko ha hb hf.symm hp
  have e1:=Wz ok hp
  have e2:=Wz lY (p:=Im (fG s r.a) (fG s r.b) p) h1.1
  rw[e1]at e2
  have h2:=Ko ha hb hf.symm (g.val hp)
  have e3:Im (fG s (Bn s r).a) (fG s (Bn s r).b)=Im (fG s r.b) (fG s r.a):=rfl
  rw[e3,h1.2,h2.2]at e2
  exact e2
 have:=Za g I fun c _ _=>rfl
 rw[this]
 have gt:=FY lY.1 lY.2.2.2.2.2.2
 exact gt.tidy.2.2.symm
theorem aax(ok:gN s r):II s r=II s (Bn s r):=by
 have lY:=Mx ok
 have g:=ok.1
 have g2:=lY.1
 unfold II
 by_cases h:r.a=r.b
 ·rw[if_pos h,if_pos (show(Bn s r).a=(Bn s r).b from h.symm),TQ ok]
  have gt:=g.tidy.1
  have e1:=OX g g2
  have e2:=OX g2 gt
  have e3:Ck s (Bl s r.right)=Ck s r.right:=Xq g
  rw[e3]at e2
  rw[Bool.eq_iff_iff,e1,e2]
  exact⟨Eq.symm,Eq.symm⟩
 ·rw[if_neg h,if_neg (show ¬(Bn s r).a=(Bn s r).b from fun e=>h e.symm)]
theorem Z6(ok:gN s r)(h:r.a=r.b):II s r=decide (IB s r.right=IB s (Bn s r).right):=by
 have g:=ok.1
 have g2:=(Mx ok).1
 unfold II
 rw[if_pos h,Bool.eq_iff_iff,decide_eq_true_iff,OX g g2,Yu g g2]
theorem acV(h:¬r.a=r.b):II s r=true:=by unfold II;rw[if_neg h]
end
theorem TT:∀(r:List Ag) (n:Int),0<=n->(∀g∈r,g.1.length<=1152921504606846976)->n<=FX r n
 |[],n,_,_=>by simp[FX]
 |g::r,n,h0,h=>by
  simp only[FX]
  split
  ·rename_i hd
   have hg:=h g (List.mem_cons_self ..)
   have hw:IntKind.i64.wrap (n+g.1.length)=n+g.1.length:=by
    have:n<=2147483647:=by simpa using hd
    simp[IntKind.wrap,IntKind.bits,IntKind.signed]
    omega
   rw[hw]
   have:=TT r (n+g.1.length) (by omega) fun g' hg'=>h g' (ajU _ hg')
   omega
  ·omega
theorem Zv{s:List Ag}{nt:Nt}(hnm:∀g∈s,g.1.length<=1152921504606846976)(h:PN s nt=false):s.length<=65536/\nt.cells.length<=512/\nt.wires.length<=512:=by
 unfold PN at h
 simp at h
 have:=TT s s.length (by omega) hnm
 omega
def ad1:Plan:=⟨[0,2,8,1,3,4,5,6,7,9,10],[0,1,0,7,15,31,63,63,0,383,1023]⟩
def ag4:Plan:=⟨[0,1,2,3,4,5,6,7,8,9,10,11,12,13,14,15,16,17,18,19,20,21,22,23,24,25,26,27,28,29,30,31,32,33,34,35,36,37,38,39,40,41,42,43],[0,1,3,7,15,31,63,127,255,127,639,2047,4095,8191,16383,32767,16383,81919,262143,524287,1048575,2097151,4194303,2097151,10485759,33554431,67108863,134217727,268435455,536870911,268435455,1342177279,4294967295,8589934591,17179869183,34359738367,68719476735,34359738367,34359738367,309237645311,996432412671,2199023255551,4398046511103,8796093022207]⟩
def adT:Plan:=⟨[0,2,1,3,4,5,6,7,8,9],[0,1,0,7,15,31,63,63,127,511]⟩
def aa5:Plan:=⟨[0,2,3,1,4,5,6,7,8,9,10],[0,1,0,4,15,31,63,127,127,255,1023]⟩
theorem bTz(call dw n)(x c w:AV)(s:List Ag)(r:Rl)(hx:AR x s)(hc:fq c (r.right.cells.map Ae))(hw:fq w (r.right.wires.map Au))(l0:s.length<=4611686018427387904)(hnm:∀g∈s,g.1.length<=1152921504606846976)(l1:r.right.cells.length<=1152921504606846976)(l2:r.right.wires.length<=1152921504606846976)
  (dKr:hKr call) (dHw:hHw call) (hLv:∀h,call (.func 17) [] h=some (.ret (.bool true),h)) (dCA:hCA call) (dKu:hKu call) (dTd:hTd call) (dNe:hNe call) (d9:h9 call) (dFg:hFg call) (vF:sG call) (dNc:hNc call) (hrg:∀id ops st,dw id ops st=drawn ⟨Tryz.prog,eu,call⟩ 4 ops st) (h:AH) :
  ∃h',B fC call dw n 4 Tryz.f4 [x,.agg [.int .i64 r.a,.int .i64 r.b,c,.int .i64 r.right.free,w]] h=some (.ret (.bool true),h'):=by
 suffices hq:∀Q:Option (Ar × AH)->Prop,¬Q none->(∀h',Q (some (.ret (.bool true),h')))->Q (B fC call dw n 4 Tryz.f4 [x,.agg [.int .i64 r.a,.int .i64 r.b,c,.int .i64 r.right.free,w]] h)from
  hq (fun y=> ∃h',y=some (.ret (.bool true),h')) (by rintro⟨_,h⟩;cases h) fun h'=>⟨h',rfl⟩
 intro Q hnone hQ
 have sc:c.scalar=true:=Ad hc
 have iV:w.scalar=true:=Ad hw
 have hs:[AV.int .i64 r.a,.int .i64 r.b,c,.int .i64 r.right.free,w].all AV.scalar=true:=by simp only[acy,sc,iV];rfl
 have hv:K6 (.agg [.int .i64 r.a,.int .i64 r.b,c,.int .i64 r.right.free,w]) r:=⟨c,w,rfl,hc,hw⟩
 have H:=Hb.nil [] h
 refine H.xB (hs:=hs) fun i3 h H=>?_
 refine H.xM 5 ?_
 obtain⟨h1,q1,H1⟩:=dKr [] _ _ _ x c w s r hx hc hw l2 H
 refine sC q1 ?_
 refine H1.xM 5 ?_
 obtain⟨h2,q2,H2⟩:=dHw [] _ _ _ x c w s r hx hc hw l0 l1 l2 H1
 refine sC q2 ?_
 conv=>arg 1;whnf
 cases e0:PN s r.right
 rotate_left
 ·conv=>arg 1;whnf
  refine sC (hLv _) ?_
  conv=>arg 1;whnf
  exact Ac (Ab (.inl rfl) rfl) (hQ _)
 obtain⟨b0,b1,b2⟩:=Zv hnm e0
 conv=>arg 1;whnf
 cases e1:((AX s r).1 != 0)
 rotate_left
 ·conv=>arg 1;whnf
  refine sC (hLv _) ?_
  conv=>arg 1;whnf
  exact Ac (Ab (.inl rfl) rfl) (hQ _)
 have hck:(AX s r).1=0:=by simpa using e1
 have ok:=gN.of hck
 have lY:=Mx ok
 have ok3:=Mx lY
 have aiX:(AX s (Bn s r)).1=0:=by rw[lY.kX]
 have tl1:(Bn s r).right.wires.length<=30000:=Lx (FY ok.1 ok.2.2.2.2.2.2)
 have tl2:(Bn s (Bn s r)).right.wires.length<=30000:=Lx (FY lY.1 lY.2.2.2.2.2.2)
 have tc1:(Bn s r).right.cells.length<=512:=by show r.right.cells.length<=_;omega
 clear e0 e1 H H1 q1 q2
 obtain⟨xs,hxs⟩:∃y,fA iK s=y:=⟨_,rfl⟩
 have nY:AR xs s:=by rw[<-hxs];exact CQ s
 have qA:=fun h=>dCA x s h hx (by omega)
 rw[hxs]at qA
 obtain⟨c1,qX⟩:∃y,fA Ae r.right.cells=y:=⟨_,rfl⟩
 obtain⟨w1,qY⟩:∃y,fA Au r.right.wires=y:=⟨_,rfl⟩
 have hc1:fq c1 (r.right.cells.map Ae):=by rw[<-qX];exact CQ _
 have hw1:fq w1 (r.right.wires.map Au):=by rw[<-qY];exact CQ _
 obtain⟨v1,yQ⟩:∃y,Fu (Bn s r).right.wires=y:=⟨_,rfl⟩
 have hv1:fq v1 ((Bn s r).right.wires.map Au):=by rw[<-yQ];exact EC _
 have sv1:=Ad hv1
 have wP:fq (.eP (r.right.cells.map Ae) .unk) ((Bn s r).right.cells.map Ae):= .inr ⟨_,rfl⟩
 obtain⟨v2,yR⟩:∃y,Fu (Bn s (Bn s r)).right.wires=y:=⟨_,rfl⟩
 have hv2:fq v2 ((Bn s (Bn s r)).right.wires.map Au):=by rw[<-yR];exact EC _
 have sv2:=Ad hv2
 have er1:WX (Bn s r)= .agg [.int .i64 r.b,.int .i64 r.a,.eP (r.right.cells.map Ae) .unk,.int .i64 r.right.free,v1]:=by rw[<-yQ];rfl
 have er2:WX (Bn s (Bn s r))= .agg [.int .i64 r.a,.int .i64 r.b,.eP (r.right.cells.map Ae) .unk,.int .i64 r.right.free,v2]:=by rw[<-yR];rfl
 refine xR ad1 hnone hrg ?_
 refine H2.xM 5 ?_
 refine H2.xW (.cells [.int .i64 0,.int .i64 0,.aj,.int .i64 0,.aj] 46) fun i7 h3 e1 e2 H3=>?_
 conv=>arg 1;whnf
 rw[e1,e2]
 refine sC (qA _) ?_
 obtain⟨h4,q4,H4⟩:=dKu [] _ _ _ c w r hc hw (by omega) (by omega) H3
 rw[qX,qY]at q4
 refine sC q4 ?_
 obtain⟨h5,q5,H5⟩:=dTd [] _ _ _ xs c1 w1 s r nY ok hck (by omega) hc1 hw1 H4
 rw[er1]at q5
 refine sC q5 ?_
 refine H5.xJ (v:= .agg [.int .i64 r.b,.int .i64 r.a,.eP (r.right.cells.map Ae) .unk,.int .i64 r.right.free,v1]) (hs:=by simp only[AV.cells,acy,sv1];rfl) fun h6 H6=>?_
 refine xO ?_
 conv=>arg 1;whnf
 have H:=H6
 clear H2 H3 H4 H5 H6 q4 q5 e1 e2
 obtain⟨c2,qZ⟩:∃y,fA Ae (Bn s r).right.cells=y:=⟨_,rfl⟩
 obtain⟨w2,ru⟩:∃y,fA Au (Bn s r).right.wires=y:=⟨_,rfl⟩
 have hc2:fq c2 ((Bn s r).right.cells.map Ae):=by rw[<-qZ];exact CQ _
 have hw2:fq w2 ((Bn s r).right.wires.map Au):=by rw[<-ru];exact CQ _
 refine xR ad1 hnone hrg ?_
 refine H.xM 5 ?_
 refine H.xW (.cells [.int .i64 0,.int .i64 0,.aj,.int .i64 0,.aj] 46) fun i9 h3 e1 e2 H3=>?_
 conv=>arg 1;whnf
 rw[e1,e2]
 refine sC (qA _) ?_
 obtain⟨h4,q4,H4⟩:=dKu [] _ _ _ _ v1 (Bn s r) wP hv1 (by omega) (by omega) H3
 rw[qZ,ru]at q4
 refine sC q4 ?_
 obtain⟨h5,q5,H5⟩:=dTd [] _ _ _ xs c2 w2 s (Bn s r) nY lY aiX tl1 hc2 hw2 H4
 rw[er2]at q5
 refine sC q5 ?_
 refine H5.xJ (v:= .agg [.int .i64 r.a,.int .i64 r.b,.eP (r.right.cells.map Ae) .unk,.int .i64 r.right.free,v2]) (hs:=by simp only[AV.cells,acy,sv2];rfl) fun h6 H6=>?_
 refine xO ?_
 conv=>arg 1;whnf
 have H1:=H6
 clear H H3 H4 H5 H6 q4 q5 e1 e2
 have qN:=fun h=>dNe x (.agg [c,.int .i64 r.right.free,w]) s r.right h hx ⟨c,w,rfl,hc,hw⟩ (by omega) (by rw[ok.1.kX])
 have hov:Bl s r.right=(Bn s (Bn s r)).right:=(TQ ok).symm
 have hna:Cu (.agg [.eP (r.right.cells.map Ae) .unk,.int .i64 r.right.free,v2]) (Bn s (Bn s r)).right:=⟨_,_,rfl,.inr ⟨_,rfl⟩,hv2⟩
 have hnb:Cu (Jc (Bl s r.right)) (Bn s (Bn s r)).right:=by rw[hov];exact adr _
 generalize Jc (Bl s r.right)=nn at qN hnb
 have q9:=fun h=>d9 _ nn _ h hna hnb (by show r.right.cells.length<=_;omega) (by omega)
 have na:(r.a != r.a)=false:=by simp
 have nb:(r.b != r.b)=false:=by simp
 refine xR ag4 hnone hrg ?_
 refine H1.xL ?_
 refine H1.xL ?_
 conv=>arg 1;whnf
 rw[nb]
 refine H1.xL ?_
 refine H1.xL ?_
 conv=>arg 1;whnf
 rw[na]
 refine H1.xL ?_
 refine H1.xL ?_
 conv=>arg 1;whnf
 rw[na]
 refine H1.xL ?_
 refine H1.xL ?_
 conv=>arg 1;whnf
 rw[nb]
 refine H1.xM 3 ?_
 refine H1.xM 3 ?_
 refine sC (qN _) ?_
 refine sC (q9 _) ?_
 refine xO ?_
 conv=>arg 1;whnf
 clear qN q9 hnb
 refine xR adT hnone hrg ?_
 refine H1.xM 5 ?_
 refine sC (qA _) ?_
 obtain⟨h4,q4,H4⟩:=dKu [] _ _ _ c w r hc hw (by omega) (by omega) H1
 rw[qX,qY]at q4
 refine sC q4 ?_
 obtain⟨h5,q5,H5⟩:=dFg [] _ _ _ xs c1 w1 s r nY ok (by omega) hc1 hw1 H4
 refine sC q5 ?_
 refine xO ?_
 conv=>arg 1;whnf
 have H:=H5
 clear H1 H4 H5 q4 q5
 refine xR adT hnone hrg ?_
 refine H.xM 5 ?_
 refine sC (qA _) ?_
 obtain⟨h4,q4,H4⟩:=dKu [] _ _ _ _ v1 (Bn s r) wP hv1 (by omega) (by omega) H
 rw[qZ,ru]at q4
 refine sC q4 ?_
 obtain⟨h5,q5,H5⟩:=dFg [] _ _ _ xs c2 w2 s (Bn s r) nY lY tl1 hc2 hw2 H4
 rw[<-aax ok]at q5
 refine sC q5 ?_
 refine xO ?_
 conv=>arg 1;whnf
 have H1:=H5
 clear H H4 H5 q4 q5
 have nf:(!(II s r==II s r))=false:=by simp
 conv=>arg 1;whnf
 rw[nf]
 refine H1.xL ?_
 refine H1.xL ?_
 by_cases hAB:r.a=r.b
 rotate_left
 ·rw[acV hAB]
  conv=>arg 1;whnf
  rw[show(r.a != r.b)=true by simpa using hAB]
  refine sC (hLv _) ?_
  conv=>arg 1;whnf
  exact Ac (Ab (.inl rfl) rfl) (hQ _)
 have hft:=Z6 ok hAB
 conv=>arg 1;whnf
 rw[show(r.a != r.b)=false by simpa using hAB]
 have qC1:=fun h=>vF (.agg [c,.int .i64 r.right.free,w]) r.right h ⟨c,w,rfl,hc,hw⟩ (by omega) (by omega)
 rw[show Jc r.right= .agg [c1,.int .i64 r.right.free,w1]by rw[<-qX,<-qY];rfl]at qC1
 have qC2:=fun h=>vF (.agg [.eP (r.right.cells.map Ae) .unk,.int .i64 r.right.free,v1]) (Bn s r).right h ⟨_,v1,rfl,.inr ⟨_,rfl⟩,hv1⟩ (by omega) (by omega)
 rw[show Jc (Bn s r).right= .agg [c2,.int .i64 r.right.free,w2]by rw[<-qZ,<-ru];rfl]at qC2
 refine xR aa5 hnone hrg ?_
 refine H1.xM 3 ?_
 refine sC (qA _) ?_
 refine sC (qC1 _) ?_
 obtain⟨h4,q4,H4⟩:=dNc [] _ _ _ xs c1 w1 s r.right nY hc1 hw1 (by rw[ok.1.kX]) (by omega) H1
 refine sC q4 ?_
 refine xO ?_
 conv=>arg 1;whnf
 clear q4
 refine xR aa5 hnone hrg ?_
 refine H4.xM 3 ?_
 refine sC (qA _) ?_
 refine sC (qC2 _) ?_
 obtain⟨h5,q5,H5⟩:=dNc [] _ _ _ xs c2 w2 s (Bn s r).right nY hc2 hw2 (by rw[lY.1.kX]) tl1 H4
 refine sC q5 ?_
 refine xO ?_
 conv=>arg 1;whnf
 rw[show(II s r==(IB s r.right==IB s (Bn s r).right))=true by rw[hft];by_cases e:IB s r.right=IB s (Bn s r).right<;>simp[e]]
 refine sC (hLv _) ?_
 conv=>arg 1;whnf
 exact Ac (Ab (.inl rfl) rfl) (hQ _)
theorem acA{x:AV}{l:List AV}(h:fq x l):zy x=none:=by rcases h with⟨rfl,_⟩|⟨c,rfl⟩<;>rfl
theorem aex{x:AV}{l:List AV}(h:fq x l):vX x=none:=by rcases h with⟨rfl,_⟩|⟨c,rfl⟩<;>rfl
theorem abM{x v:AV}{s:List Ag}{n:Nt}(hx:AR x s)(hv:Cu v n):[x,v].findSome? vX=none:=by
 obtain⟨c,w,rfl,hc,hw⟩:=hv
 have e:vX (.agg [c,.int .i64 n.free,w])=none:=by
  show[c,.int .i64 n.free,w].findSome? zy=none
  simp only[List.findSome?_cons,List.findSome?_nil,acA hc,acA hw];rfl
 simp only[List.findSome?_cons,List.findSome?_nil,aex hx,e]
theorem agC{hk hk0:Am}{n:Nat}(hk':∀args h,hk 21 args h=KA hk0 21 xq 21 args h)(hn:0<n):hNe (Af (Aj Tryz.prog eu hk) n):=fun x v s nt h hx hv hl ok=>CU (by
 rw[hk',WO (abM hx hv)]
 refine Ca (by simp[Bz,Cz hx,Eh hv]) ?_
 show(match CZ (AU x),Dx (AU v)with|some s,some n=>if n.wires.length<=1000000/\(Ap s n).1=0 then some (Jc (Bl s n))else none|_,_=>none)=_
 rw[CK hx,En hv];simp only[if_pos (And.intro hl ok)]) hn
noncomputable abbrev cz(n:Nat):Az:=Af (Aj Tryz.prog eu Wu) n
theorem z12(n)(h:0<n):h12 (cz n):=fun x v s r hh hx hv hl=>CU (by
 refine(show Wu 41 _ _=AP yO 41 s12 41 _ _ from rfl).trans ?_
 refine Ca (by simp[Bz,Cz hx,ZN hv]) ?_
 show(match CZ (AU x),Nw (AU v)with|some s,some r=>if r.right.wires.length<=1000000000 then some (AV.eU [.int .i64 (AX s r).1,.int .i64 (AX s r).2])else none|_,_=>none)=_
 rw[CK hx,aaC hv];simp only[if_pos hl]) h
theorem z13(n)(h:0<n):lC (cz n):=ab6 (fun _ _=>rfl) h
theorem z16(n)(h:0<n):h16 (cz n):=UL (fun _ _=>rfl) h
theorem zCN(n)(h:0<n):sG (cz n):=afr (fun _ _=>rfl) h
theorem zCA(n)(h:0<n):hCA (cz n):=afd (hk0:=hz9) (fun _ _=>rfl) h
theorem zK2(n)(h:0<n):hK2 (cz n):=abr (fun _ _=>rfl) h
theorem zK3(n)(h:0<n):hK3 (cz n):=afX (hk0:=hz2) (fun _ _=>rfl) h
theorem zNe(n)(h:0<n):hNe (cz n):=agC (hk0:=hz3) (fun _ _=>rfl) h
theorem zPN(n)(h:0<n):hPN (cz n):=afY (hk0:=hz5) (fun _ _=>rfl) h
theorem z9(n)(h:0<n):h9 (cz n):=aht (hk0:=hz8) (fun _ _=>rfl) h
theorem zSq(n)(h:0<n):yN (cz n):=fun x s hh hx hl=>ado (hk:=Wu) (hk0:=aew) (fun _ _=>rfl) h hh hx hl
theorem zZN(n)(h:0<n):vg (cz n):=afH (hk0:=afR) (fun _ _=>rfl) h
theorem zCp(n)(h:0<n):vw (cz n):=afE (hk0:=afT) (fun _ _=>rfl) h
theorem zSo(n)(h:0<n):hSo (cz n):=aef (hk0:=aeZ) (fun _ _=>rfl) h
theorem zLv(n)(h:0<n)(hh:AH):cz n (.func 17) [] hh=some (.ret (.bool true),hh):=CU (show Wu _ _ _=_ from(show Wu 17 [] hh=AP aee 17 yP 17 [] hh from rfl).trans (Ca rfl rfl)) h
theorem zWl(n)(h:30001<n):tu (cz n):=aeK (fun _ _=>rfl) (fun n h=>z16 n (by omega)) h
theorem zWd(n)(h:0<n):hWd (cz n):=aeJ (fun _ _=>rfl) h
theorem zWq(n)(h:6000<n):zI (cz n):=agi (fun _ _=>rfl) (fun _ _=>rfl) (fun n h=>zWd n h) (fun n h=>zSo n (by omega)) h
theorem zWp(n)(h:40000<n):wO (cz n):=afe (fun _ _=>rfl) (fun n h=>zWl n (by omega)) (fun n h=>zWq n (by omega)) h
theorem zWf(n)(h:40000<n):hWf (cz n):=agr (fun _ _=>rfl) (fun _ _=>rfl) (fun n h=>zWl n h) (fun n h=>zWd n h) h
theorem zZi(n)(h:5<n):zC (cz n):=aeW (fun _ _=>rfl) h
theorem zZg(n)(h:7<n):zD (cz n):=aeB (fun _ _=>rfl) (fun n h=>zZi n (by omega)) (by omega)
theorem zZf(n)(h:9<n):hZf (cz n):=ae2 (fun _ _=>rfl) (fun n h=>zZg n (by omega)) (by omega)
theorem zJk(n)(h:1<n):hJk (cz n):=afL (fun _ _=>rfl) (fun n h=>zCp n (by omega)) h
theorem zJb(n)(h:2<n):qQ (cz n):=aeS (fun _ _=>rfl) (fun n h=>zJk n (by omega)) h
theorem zJi(n)(h:20000<n):hJi (cz n):=aeU (fun _ _=>rfl) (fun n h=>zJb n (by omega)) h
theorem zJs(n)(h:10001<n):hJs (cz n):=aff (fun _ _=>rfl) h
theorem zJr(n)(h:20000<n):vB (cz n):=aev (fun _ _=>rfl) (fun n h=>zJs n (by omega)) h
theorem zJm:∀d n,20001+d<n->vD (cz n) d:=aej (fun _ _=>rfl) (fun n h=>zJb n h) (fun n h=>zJr n h)
theorem zJg(n)(h:31000<n):hJg (cz n):=aei (fun _ _=>rfl) (fun n h=>zJi n h) zJm h
theorem zJh(n)(h:31001<n):hJh (cz n):=afw (fun _ _=>rfl) (fun n h=>zJg n (by omega)) h
theorem zJf(n)(h:31001<n):vE (cz n):=⟨zZf n (by omega),zJh n h⟩
theorem zCj(n)(h:0<n):hCj (cz n):=aeA (fun _ _=>rfl) h
theorem zCl(n)(h:30001<n):tK (cz n):=agn (fun _ _=>rfl) (fun n h=>zCj n (by omega)) h
theorem zCs(n)(h:0<n):hCs (cz n):=afK (fun _ _=>rfl) h
theorem zCm(n)(h:0<n):zM (cz n):=ae9 (fun _ _=>rfl) h
theorem zCf(n)(h:10000<n):hCf (cz n):=afk (fun _ _=>rfl) (fun n h=>zCs n (by omega)) (fun n h=>zCm n (by omega)) h
theorem zCq(n)(h:10001<n):hCq (cz n):=aep (fun _ _=>rfl) (fun n h=>zCf n (by omega)) (fun n h=>zCp n (by omega)) (by omega)
theorem zCx(n)(h:40001<n):yB (cz n):=aeP (fun _ _=>rfl) (fun n h=>z16 n (by omega)) (fun n h=>zCl n (by omega)) (fun n h=>zCq n (by omega)) (by omega)
theorem zSz(n)(h:0<n):hSz (cz n):=aeG (fun _ _=>rfl) h
theorem zOg(n)(h:42000<n):uZ (cz n):=af2 (fun _ _=>rfl) (fun _ _=>rfl) (fun n h=>z16 n h) (fun n h=>zWp n (by omega)) (fun n h=>zJf n h) (fun n h=>zCx n h) (fun n h=>zSz n h) (fun n h=>zWf n (by omega)) h
theorem zSf(n)(h:30001<n):hSf (cz n):=agq (fun _ _=>rfl) (fun n h=>z16 n (by omega)) h
theorem zMr(n)(h:0<n):hMr (cz n):=afy (fun _ _=>rfl) h
theorem zMz(n)(h:30001<n):hMz (cz n):=aeh (fun _ _=>rfl) (fun n h=>zMr n (by omega)) h
theorem zSg(n)(h:43000<n):hSg (cz n):=aen (fun _ _=>rfl) (fun n h=>zSf n (by omega)) (fun n h=>zOg n (by omega)) (fun n h=>zMz n (by omega)) h
theorem zTu(n)(h:70<n):hTu (cz n):=afV (fun _ _=>rfl) h
theorem zTp(n)(h:0<n):hTp (cz n):=afJ (fun _ _=>rfl) h
theorem zTo(n)(h:30001<n):vv (cz n):=aeR (fun _ _=>rfl) (fun n h=>z13 n (by omega)) (fun n h=>zTu n (by omega)) (fun n h=>zTp n (by omega)) h
theorem zFg(n)(h:43001<n):hFg (cz n):=afo (fun _ _=>rfl) (fun n h=>z12 n (by omega)) (fun n h=>zTo n (by omega)) (fun n h=>zSg n (by omega)) h
theorem zTd(n)(h:30002<n):hTd (cz n):=afq (fun _ _=>rfl) (fun n h=>z12 n (by omega)) (fun n h=>zTo n (by omega)) h
theorem zNm(n)(h:0<n):mW (cz n):=afF (fun _ _=>rfl) h
theorem zNn(n)(h:43000<n):zN (cz n):=aeT (fun _ _=>rfl) (fun n h=>z13 n (by omega)) (fun n h=>zOg n (by omega)) (fun n h=>zNm n (by omega)) h
theorem zNc(n)(h:43001<n):hNc (cz n):=aec (fun _ _=>rfl) (fun n h=>zNn n (by omega)) (fun n h=>zPN n (by omega)) h
theorem zKf(n)(h:0<n):hKf (cz n):=agb (fun _ _=>rfl) h
theorem zKr(n)(h:5<n):hKr (cz n):=ae8 (fun _ _=>rfl) (fun n h=>zK2 n (by omega)) (fun n h=>zK3 n (by omega)) (fun n h=>zKf n (by omega)) h
theorem zKu(n)(h:5<n):hKu (cz n):=ae4 (fun _ _=>rfl) (fun n h=>zCN n (by omega)) h
theorem zHw(n)(h:5<n):hHw (cz n):=af3 (fun _ _=>rfl) (fun n h=>zSq n (by omega)) (fun n h=>zZN n (by omega)) h
theorem ag6(x v:AV)(s:List Ag)(r:Rl)(hx:AR x s)(hv:K6 v r)(hnm:∀g∈s,g.1.length<=1152921504606846976)(l0:s.length<=4611686018427387904)(l1:r.right.cells.length<=1152921504606846976)(l2:r.right.wires.length<=1152921504606846976) :
  ∃n h',Af (Aj Tryz.prog eu Wu) n (.func 4) [x,v] .empty=some (.ret (.bool true),h'):=by
 obtain⟨c,w,rfl,hc,hw⟩:=hv
 obtain⟨N,hN⟩:∃N,N=50000:=⟨_,rfl⟩
 obtain⟨h',hb⟩:=bTz (cz N) (rg Tryz.prog eu Wu N 4) N x c w s r hx hc hw l0 hnm l1 l2 (zKr N (by omega)) (zHw N (by omega)) (zLv N (by omega)) (zCA N (by omega)) (zKu N (by omega)) (zTd N (by omega)) (zNe N (by omega)) (z9 N (by omega)) (zFg N (by omega)) (zCN N (by omega)) (zNc N (by omega)) (fun _ _ _=>rfl) .empty
 exact BU fC rfl Tryz.func4 rfl (by kernel_rfl) hb
end Go.Proofs.Nt
namespace Go.Proofs.YtfpmanknbjakfaaGreatDoor.turnTwice
open Go.Sk Go.ChangeShapes Go.WideShapes Go.ChangeAt Go.RowKit Go.Proofs.Nt
theorem own:ownKnob Tryz.prog.godebug=none:=by kernel_rfl
theorem laid:laidOutB Tryz.prog=true:=by kernel_rfl
theorem TR{P:Program}{W:World}{name:String}{k:IntKind}{zs:List Int}{g:Nat}{t e:TypeId}{n:Nat}
  (hg:P.globalNamed name=some g) (hty:(P.globals[g]?).map (·.type)=some t) (ht:P.underlying t=some (.array n e)) (he:P.underlying e=some (.int k)) (hce:P.cellsOf e=1) (hct:P.cellsOf t=n) :
  ∀{l:List (String × DataW Unit)} {ps:List MemPlace},(name,Lib.tabData k zs)∈l->DataW.LaidVars P W l ps->Lib.TabIs P W name k zs
 |[],_,h,_=>by cases h
 |(n',d)::r,ps,h,hl=>by
  obtain⟨g',t',cs,fuel,p,q,hg',ht',hvar,hd,hr,_⟩:=hl
  rcases acD.1 h with h|h
  ·simp only[aaW]at h
   obtain⟨rfl,rfl⟩:=h
   obtain rfl:=aag (hg.symm.trans hg')
   obtain rfl:=aag (hty.symm.trans ht')
   unfold Lib.TabIs
   rw[hvar,<-Lib.cells_of_tab ht he hce hct hd]
  ·exact TR hg hty ht he hce hct h hr
theorem agm{W:World}(h:laidMetH Tryz.prog Rows.turnTwiceRow.laid W):Im0 W:=fun b cs q=>by
 obtain⟨ps,hv,_⟩:laidMet Tryz.prog Rows.turnTwiceRow.laid W:=h
 have ht:Lib.TabIs Tryz.prog W "internal/strconv.uint64pow10" .u64 Lib.pow10Tab:=TR (g:=1) (t:=204) (e:=191) (n:=20) (by kernel_rfl) (by kernel_rfl) (by kernel_rfl) (by kernel_rfl) (by kernel_rfl) (by kernel_rfl) (.tail _ (.tail _ (.head _))) hv
 simp only[uN]at q
 split at q
 ·rename_i hb
  subst hb
  cases q
  unfold Lib.TabIs World.var? at ht
  rw[show Tryz.prog.globalNamed "internal/strconv.uint64pow10" =some 1 by kernel_rfl]at ht
  simp only[ajE]at ht
  split at ht
  ·rename_i cs T fr hh
   cases ht
   exact⟨T,fr,hh⟩
  ·cases ht
 ·cases q
theorem VT{H:Type}{P:Program}{B:Nat}{t0 t1:TypeId}{d0 d1:DataW H}(h:(DataW.weightsEach P ([t0,t1]++[]) ([d0,d1]++[])).all (· <=B)=true):(∀k∈d0.weights P t0,k<=B)/\(∀k∈d1.weights P t1,k<=B):=by
 simp only[ajM,DataW.weightsEach,List.all_append,abB,ajz,decide_eq_true_eq]at h
 exact h
theorem contract(H:Type)(enc:TypeId × Value->H)(W:World)(base:Nat)(args:Array Value)(ds gs:List (DataW H))(before:List MemPlace)
  (hval0:∀(j:Nat) t v,Tryz.f4.params[j]?=some t->args[j]?=some v->Value.okWide Tryz.prog W .any base t v)
  (hW:DataW.Whole enc Tryz.prog Tryz.f4.params.toList Rows.turnTwiceSpec.vars false W args.toList ds gs before)
  (hB:(DataW.weightsEach Tryz.prog (Tryz.f4.params.toList++(OpenSpec.ofChange Rows.turnTwiceSpec).bare.plain.varTypes Tryz.prog) (ds++gs)).all (· <=reachBytes)=true) (hL:laidMetH Tryz.prog Rows.turnTwiceRow.laid W) :
  Calls Tryz.prog 4 args W fun e W'=> ∃v,e= .returned v/\Rows.turnTwiceSpec.post enc Tryz.prog Tryz.f4 false true false false W args v W':=by
 have hval:∀(j:Nat) t v,Tryz.f4.params[j]?=some t->args[j]?=some v->Value.okWide Tryz.prog W .any base t v:=hval0
 have hW':=hW
 obtain⟨p,q,hA0,hV,rfl,hfz,hnd⟩:=hW
 have hA:DataW.TrodAll enc Tryz.prog W 0 (fun _=>true) true Tryz.f4.params.toList args.toList ds p:=hA0
 rw[Tryz.params4]at hA hval hB
 obtain⟨v0,vs0,d0,ds0,p0,q0,hargs,rfl,rfl,h0,r0⟩:=trodAll_cons hA
 obtain⟨v1,vs1,d1,ds1,p1,q1,aiY,rfl,rfl,h1,r1⟩:=trodAll_cons r0
 obtain⟨rfl,rfl,rfl⟩:=trodAll_nil r1
 obtain rfl:args= #[v0,v1]:=by cases args;simp_all
 obtain⟨rfl,rfl⟩:=trodVars_none hV
 obtain⟨b0,b1⟩:=VT hB
 obtain⟨x0,y0,hx0,hy0,ls0,ln0⟩:=Z5 (hval 0 22 v0 rfl rfl) h0 b0
 obtain⟨x1,y1,hx1,hy1,lc1,lw1⟩:=XO (hval 1 46 v1 rfl rfl) h1 b1
 rw[show Tryz.prog.bytesOf 85=24 by kernel_rfl]at ls0
 rw[show Tryz.prog.bytesOf 3=8 by kernel_rfl]at lc1
 rw[show Tryz.prog.bytesOf 62=32 by kernel_rfl]at lw1
 have hrb:reachBytes=140737488351232:=rfl
 clear hA0 hval0
 simp only[ajM]at hW'
 obtain⟨m,h',he⟩:=ag6 x0 x1 y0 y1 hy0 hy1 (fun g hg=>by have:=ln0 g hg;omega) (by omega) (by omega) (by omega)
 have hc:Calls Tryz.prog 4 #[v0,v1] W fun e w'=>e= .returned (.bool true)/\Below W.heap.size W w':=acQ (eD:=[v0,v1]) ahw W (.cons hx0 (.cons hx1 (.nil _))) he (agm hL)
 refine hc.mono fun e W' ⟨he,hg⟩=>?_
 subst he
 exact⟨_,rfl,abW (T:=4) hW' rfl rfl (by kernel_rfl) Tryz.underlying4 laid (by kernel_rfl) hg⟩
def Tc:List (DataW Unit)->List Value
 |[]=>[]
 | .lit (.int k z)::r=> .int k z::Tc r
 |_::r=>Tc r
def Sd:DataW Unit->Array Value
 | .agg l=>(Tc l).toArray
 |_=> #[]
noncomputable def lay(w:World)(b:Nat)(cs:Array Value):World:=
 { w with heap:=w.heap.modify b fun
     | .cells _ t frozen=> .cells cs t frozen
     |o=>o }
noncomputable def O8(os:Os):World:=lay (lay (lay (World.holding Tryz.prog os ⟨#[],#[],[]⟩) 2 (Sd Rows.laid_math_bits_deBruijn32tab)) 3 (Sd Rows.laid_math_bits_deBruijn64tab)) 1 (Sd Rows.laid_internal_strconv_uint64pow10)
def Zc:Array Value:= #[.slice none 0 0,.agg #[.int .i64 0,.int .i64 0,.slice none 0 0,.int .i64 0,.slice none 0 0]]
theorem aaS(os:Os):laidMet Tryz.prog Rows.turnTwiceRow.laid ((O8 os).forCall (fun _ _=>0) ⟨#[],Zc,[]⟩).memory:=
 laidMet_of_run' 8 (by kernel_rfl) (by kernel_rfl)
theorem reads(os:Os){H:Type}(enc:TypeId × Value->H):∃places,DataW.whole enc Tryz.prog ((O8 os).forCall (fun _ _=>0) ⟨#[],Zc,[]⟩).memory Tryz.f4.params.toList Rows.turnTwiceSpec.vars false Zc.toList 8=some ([.nil,.agg [.lit (.int .i64 0),.lit (.int .i64 0),.agg [.nil,.lit (.int .i64 0),.nil]]],[],places):=
 ⟨[],by kernel_rfl⟩
set_option maxRecDepth 100000 in
theorem lifted(os:Os)(started:os.Started)(H:Type)(enc:TypeId × Value->H)(F:Stop.Interp) :
  ReturnsInHanded {} Tryz.checked os 4 .any ((OpenSpec.ofChange Rows.turnTwiceSpec).preRow enc Tryz.prog Tryz.f4 Rows.turnTwiceRow.domain false Rows.turnTwiceRow.laid) (((OpenSpec.ofChange Rows.turnTwiceSpec).at F).post enc Tryz.prog Tryz.f4 false true false false):=by
 obtain⟨places,hx⟩:=reads os enc
 refine returnsInHanded_of_row (C:=Tryz.checked) (s:=OpenSpec.ofChange Rows.turnTwiceSpec) own started (by kernel_rfl) Tryz.func4
  (witness_row_at (enc:=enc) (C:=Tryz.checked) false (O8 os) Zc rfl (by kernel_rfl) (by kernel_rfl) (by kernel_rfl)
   (OpenSpec.preRow_of_cond 8 hx (by kernel_rfl) (fun k hk=>by cases hk) (by kernel_rfl) (aaS os))) ?_
 intro W base args ds gs before hval hW _ _ hB hL _ _
 exact contract H enc W base args ds gs before hval hW hB hL
theorem said:Rows.TurnTwiceSaid:=
 OpenClaim.holds_of_cond 4 Tryz.f4 rfl rfl rfl rfl rfl rfl rfl ⟨rfl,rfl,rfl,rfl,rfl⟩ rfl rfl rfl rfl rfl (by kernel_rfl) Tryz.func4 (by kernel_rfl)
  (of_decide_eq_true (by kernel_rfl)) (by unfold Func.isWrapper;first|(rw[if_pos (by decide +kernel)];kernel_rfl)|(rw[if_neg (by decide +kernel)];exact⟨rfl,rfl⟩))
  (fun os started H enc _ F=>by rw[OpenClaim.pre_eq_preRow];exact lifted os started H enc F)
theorem plain(f:FuncId)(fn:Func)(hf:Tryz.pinned.checked.prog.funcNamed "skein/skeinlaw16.TurnTwice" =some f)(hfn:Tryz.pinned.checked.prog.funcs[f]?=some fn) :
  false=Tryz.pinned.checked.prog.looks []/\∀(j:Nat) t,fn.params[j]?=some t->Tryz.pinned.checked.prog.wantsStandIn t=false:=by
 obtain rfl:f=4:=aag ((show Tryz.prog.funcNamed "skein/skeinlaw16.TurnTwice" =some 4 by kernel_rfl).symm.trans hf) |>.symm
 obtain rfl:fn=Tryz.f4:=(aag (Tryz.func4.symm.trans hfn)).symm
 refine⟨by kernel_rfl,fun j t ht=>?_⟩
 rw[Tryz.params4]at ht
 have hm:t=22\/t=46:=by simpa using Array.mem_of_getElem? ht
 rcases hm with rfl|rfl
 ·exact(show Tryz.prog.wantsStandIn 22=false by kernel_rfl)
 ·exact(show Tryz.prog.wantsStandIn 46=false by kernel_rfl)
theorem proved:Rows.TurnTwiceCardSaid:=
 Claim7.holds_tied_plain_at .later [] _ _ _ _ said (fun _ h=>by cases h) (by kernel_rfl) (fun _ h=>by cases h) turnTwice_row_tie rfl ⟨rfl,rfl⟩ (by kernel_rfl) rfl plain (by kernel_rfl)
#print axioms proved
end Go.Proofs.YtfpmanknbjakfaaGreatDoor.turnTwice
