/- The reference's signatures: begins, Word, Of, Check. -/
import Derived.Test.YtfpmanknbjakfaaGreatDoorPd
import Derived.Test.YtfpmanknbjakfaaGreatDoorPa
import Derived.Test.YtfpmanknbjakfaaGreatDoorSkMc
import Derived.Test.YtfpmanknbjakfaaGreatDoorPb
import Derived.Test.YtfpmanknbjakfaaGreatDoorPc
import Derived.Test.YtfpmanknbjakfaaGreatDoorCards
import Derived.Test.YtfpmanknbjakfaaGreatDoorTie
import Derived.WalkKit
import Derived.ProofKit
import Derived.OpenShut
import Derived.KernelRfl
import Derived.Deep.DeepHandedRow
import Derived.Lib.LaidTab
set_option linter.unusedVariables false
set_option linter.unusedSimpArgs false
set_option linter.unusedSectionVars false
set_option maxRecDepth 10000
set_option maxHeartbeats 16000000
namespace Go.Proofs.Nt
open Go.Sk
theorem ahL(call eu n)(s:List UInt8)(hs:s.length<=16){h:AH}{K:KC (Aq × AH)}{y:Option (Aq × AH)}{b:Bool}
  (hR:b=false->∀{g0 g1 g2 g3 g4 g5 g7 g8 g9 aA aB aC aD aE aF aG aH aI aJ aK aL aM aN aO aP aQ aR aS aT aU aV aW aX aY aZ bA bB bC bD bE bF bG bH bI bJ bK bL bM bN bO bP bQ bR bS bT bU bV bW bX bY bZ cD cE cF:AV},K .ret ⟨(g0::g1::g2::g3::g4::g5:: .bool false::g7::g8::g9::aA::aB::aC::aD::aE::aF::aG::aH::aI::aJ::aK::aL::aM::aN::aO::aP::aQ::aR::aS::aT::aU::aV::aW::aX::aY::aZ::bA::bB::bC::bD::bE::bF::bG::bH::bI::bJ::bK::bL::bM::bN::bO::bP::bQ::bR::bS::bT::bU::bV::bW::bX::bY::bZ::cD::cE::cF::[]),[],h⟩=y)
  (hK:b=true->∀{g0 g1 g2 g3 g4 g5 g6 g7 g8 g9 aA aB aC aD aE aF aG aH aI aJ aK aL aM aN aO aP aQ aR aS aT aU aV aW aX aY aZ bA bB bC bD bE bF bG bH bI bJ bK bL bM bN bO bP bQ bR bS bT bU bV bW bX bY bZ cD cE cF:AV},K (.exit 0) ⟨(g0::g1::g2::g3::g4::g5::g6::g7::g8::g9::aA::aB::aC::aD::aE::aF::aG::aH::aI::aJ::aK::aL::aM::aN::aO::aP::aQ::aR::aS::aT::aU::aV::aW::aX::aY::aZ::bA::bB::bC::bD::bE::bF::bG::bH::bI::bJ::bK::bL::bM::bN::bO::bP::bQ::bR::bS::bT::bU::bV::bW::bX::bY::bZ::cD::cE::cF::[]),[],h⟩=y) :
  ∀(m i:Nat) {x:Int} {g1 g2 g3 g4 g5 g6 g8 g9 aA aB aC aD aE aF aG aH aI aJ aK aL aM aN aO aP aQ aR aS aT aU aV aW aX aY aZ bA bB bC bD bE bF bG bH bI bJ bK bL bM bN bO bP bQ bR bS bT bU bV bW bX bY bZ cD cE cF:AV},x=i->i<=s.length->s.length - i<m->b=(s.drop i).all mR->
  DV (LB KW call eu n 65 Tryz.f65 0) m ⟨(.str s::g1::g2::g3::g4::g5::g6:: .int .i64 x::g8::g9::aA::aB::aC::aD::aE::aF::aG::aH::aI::aJ::aK::aL::aM::aN::aO::aP::aQ::aR::aS::aT::aU::aV::aW::aX::aY::aZ::bA::bB::bC::bD::bE::bF::bG::bH::bI::bJ::bK::bL::bM::bN::bO::bP::bQ::bR::bS::bT::bU::bV::bW::bX::bY::bZ::cD::cE::cF::[]),[],h⟩ K=y:=by
 intro m
 induction m with
 |zero=>intros;omega
 |succ m ih=>
  intro i x g1 g2 g3 g4 g5 g6 g8 g9 aA aB aC aD aE aF aG aH aI aJ aK aL aM aN aO aP aQ aR aS aT aU aV aW aX aY aZ bA bB bC bD bE bF bG bH bI bJ bK bL bM bN bO bP bQ bR bS bT bU bV bW bX bY bZ cD cE cF hx hi hm hb
  rw[Bo]
  conv=>lhs;whnf
  split
  ·rename_i hd
   have hlt:i<s.length:=by simp at hd;omega
   have h0:decide (0<=x)=true:=by simp;omega
   have hdrop:s.drop i=s[i]::s.drop (i+1):=adS hlt
   have w1:IntKind.i64.wrap (x+1)=((i+1:Nat):Int):=by rw[hx];exact BS (by omega)
   conv=>lhs;whnf
   rw[h0]
   conv=>lhs;whnf
   rw[NR hx,aaj hlt]
   rw[hdrop,adP]at hb
   generalize hc:s[i]=c at hb
   have hb1:mR c=true->b=(s.drop (i+1)).all mR:=fun h=>by rw[hb,h];rfl
   have hb0:mR c=false->b=false:=fun h=>by rw[hb,h];rfl
   clear hb hc hdrop
   repeat' ((conv=>lhs;whnf);split)
   all_goals (conv=>lhs;whnf)
   all_goals first
    |(refine ih (i+1) w1 (by omega) (by omega) (hb1 ?_);clear ih hK hR hb1 hb0 hm;simp_all [mR,Mq,Py,Pv];done)
    |exact hR (hb0 (by clear ih hK hR hb1 hm;simp_all [mR,Mq,Py,Pv]<;>omega))
  ·rename_i hd
   have hlt:¬i<s.length:=by simp at hd;omega
   exact hK (by rw[hb,ajJ (by omega)];rfl)
theorem ah1(call eu n)(s:List UInt8)(lo hi:Int)(h:AH)(hn:16<n):B KW call eu n 65 Tryz.f65 [.str s,.int .u8 lo,.int .u8 hi] h=some (.ret (.bool (Df s lo hi)),h):=by
 cases s with
 |nil=>
  conv=>lhs;whnf
  have:decide (((([]:List UInt8).length:Nat):Int)<1)=true:=by simp
  rw[this]
  conv=>lhs;whnf
  exact CU (.inl rfl) rfl rfl
 |cons c r=>
  have e0:decide ((((c::r).length:Nat):Int)<1)=false:=by simp;omega
  have fin:∀b,b=Df (c::r) lo hi->∀{g0 g1 g2 g3 g4 g5 g7 g8 g9 aA aB aC aD aE aF aG aH aI aJ aK aL aM aN aO aP aQ aR aS aT aU aV aW aX aY aZ bA bB bC bD bE bF bG bH bI bJ bK bL bM bN bO bP bQ bR bS bT bU bV bW bX bY bZ cD cE cF:AV},iH Tryz.prog Tryz.f65 .ret ⟨(g0::g1::g2::g3::g4::g5:: .bool b::g7::g8::g9::aA::aB::aC::aD::aE::aF::aG::aH::aI::aJ::aK::aL::aM::aN::aO::aP::aQ::aR::aS::aT::aU::aV::aW::aX::aY::aZ::bA::bB::bC::bD::bE::bF::bG::bH::bI::bJ::bK::bL::bM::bN::bO::bP::bQ::bR::bS::bT::bU::bV::bW::bX::bY::bZ::cD::cE::cF::[]),[],h⟩=some (.ret (.bool (Df (c::r) lo hi)),h):=by
   intro b hb
   intros
   exact CU (.inl rfl) rfl (by rw[hb];rfl)
  conv=>lhs;whnf
  rw[e0]
  conv=>lhs;whnf
  split
  ·rename_i e2
   conv=>lhs;whnf
   exact fin _ (by simp only[Df,show decide ((c::r).length<=16)=false by simp at e2 ⊢;omega,akh])
  rename_i e2
  conv=>lhs;whnf
  split
  ·rename_i e3
   conv=>lhs;whnf
   exact fin _ (by simp only[Df,show decide ((c.toNat:Int)>=lo)=false by simp at e3 ⊢;omega,akW,akh])
  rename_i e3
  conv=>lhs;whnf
  split
  ·rename_i e4
   conv=>lhs;whnf
   exact fin _ (by simp only[Df,show decide ((c.toNat:Int)<=hi)=false by simp at e4 ⊢;omega,akW,akh])
  rename_i e4
  have hb:Df (c::r) lo hi=r.all mR:=by
   simp only[Df,show decide ((c::r).length<=16)=true by simp at e2 ⊢;omega,show decide ((c.toNat:Int)>=lo)=true by simp at e3 ⊢;omega,show decide ((c.toNat:Int)<=hi)=true by simp at e4 ⊢;omega,akT]
  conv=>lhs;whnf
  refine ahL call eu n (c::r) (by simp at e2 ⊢;omega) (b:=r.all mR) ?_ ?_ n 1 rfl (by simp) (by simp at e2 ⊢;omega) rfl
  ·intro h0
   intros
   exact fin _ (by rw[hb,h0])
  ·intro h0
   intros
   conv=>lhs;whnf
   exact fin _ (by rw[hb,h0])
def hB2(call:AA):Prop:= ∀s lo hi h,call (.func 65) [.str s,.int .u8 lo,.int .u8 hi] h=some (.ret (.bool (Df s lo hi)),h)
theorem b79(call eu n)(s:List UInt8)(h:AH)(hB2:hB2 call):B KW call eu n 46 Tryz.f46 [.str s] h=some (.ret (.bool (Kz s)),h):=by
 refine AQ (hB2 _ _ _ _) ?_
 conv=>lhs;whnf
 exact CU (.inl rfl) rfl rfl
theorem lO2(call eu n)(x0:AV)(s:List Ag)(hx0:AR x0 s)(hs:s.length<=3000000000)(nm:List UInt8)(R:Int){Q:Option (Aq × AH)->Prop}{K:KC (Aq × AH)}
  (hR:∀{h} {g0 g1 g2 g3 g5 g6 g7 g8 g9 aA aB aC aD aE aF aG aH aI aJ:AV},Q (K .ret ⟨(g0::g1::g2::g3:: .int .i64 R::g5::g6::g7::g8::g9::aA::aB::aC::aD::aE::aF::aG::aH::aI::aJ::[]),[],h⟩))
  (hK:R= -1->∀{h} {g0 g1 g2 g3 g4 g5 g6 g7 g8 g9 aA aB aC aD aE aF aG aH aI aJ:AV},Q (K (.exit 0) ⟨(g0::g1::g2::g3::g4::g5::g6::g7::g8::g9::aA::aB::aC::aD::aE::aF::aG::aH::aI::aJ::[]),[],h⟩)) :
  ∀(m i:Nat) {x:Int} {h:AH} {g2 g3 g4 g6 g7 g8 g9 aA aB aC aD aE aF aG aH aI aJ:AV},x=i->i<=s.length->s.length - i<m->R=jP (s.drop i) nm i->
  Q (DV (LB fO call eu n 47 Tryz.f47 0) m ⟨(x0:: .str nm::g2::g3::g4:: .int .i64 x::g6::g7::g8::g9::aA::aB::aC::aD::aE::aF::aG::aH::aI::aJ::[]),[],h⟩ K):=by
 have u:Tryz.prog.underlying 22=some (.slice 85):=by kernel_rfl
 have hlen:=fun h=>Fx (X:=⟨Tryz.prog,eO,call⟩) (mu:=false) (h:=h) u hx0
 rw[aaq]at hlen
 intro m
 induction m with
 |zero=>intros;omega
 |succ m ih=>
  intro i x h g2 g3 g4 g6 g7 g8 g9 aA aB aC aD aE aF aG aH aI aJ hx hi hm hF
  rw[Bo]
  conv=>arg 1;whnf
  refine Aa (hlen _) ?_
  conv=>arg 1;whnf
  split
  ·rename_i hd
   have hlt:i<s.length:=by simp at hd;omega
   have hdrop:s.drop i=s[i]::s.drop (i+1):=adS hlt
   have hg:(s.map jc)[i]?=some (jc s[i]):=by rw[abG,aaj hlt];rfl
   have hidx:=fun h=>Ht (P:=Tryz.prog) (t:=22) (e:=85) (n:=2) (h:=h) (k:= .i64) u (by kernel_rfl) hx0 hx hg rfl
   rw[hdrop]at hF
   generalize s[i]=g at hidx hF
   obtain⟨gn,ga⟩:=g
   conv=>arg 1;whnf
   refine Aa (hidx _) ?_
   conv=>arg 1;whnf
   cases e1:(gn==nm)
   ·conv=>arg 1;whnf
    refine ih (i+1) (by rw[hx];exact BS (by omega)) (by omega) (by omega) ?_
    rw[hF];simp only[jP,e1,ajI,if_false]
   ·conv=>arg 1;whnf
    have:R=x:=by rw[hF,hx];simp only[jP,e1,if_true]
    subst this
    exact hR
  ·rename_i hd
   have hlt:¬i<s.length:=by simp at hd;omega
   refine hK ?_
   rw[hF,ajJ (by omega)];rfl
theorem bO2(call eu n)(x:AV)(s:List Ag)(hx:AR x s)(hs:s.length<=3000000000)(nm:List UInt8)(h:AH)(hn:s.length<n) :
  ∃h',B fO call eu n 47 Tryz.f47 [x,.str nm] h=some (.ret (.int .i64 (jP s nm 0)),h'):=by
 suffices hq:∀Q:Option (Aq × AH)->Prop,(∀R h',R=jP s nm 0->Q (some (.ret (.int .i64 R),h')))->Q (B fO call eu n 47 Tryz.f47 [x,.str nm] h)from hq (fun y=> ∃h',y=some (.ret (.int .i64 (jP s nm 0)),h')) (fun R h' e=>⟨h',by rw[e]⟩)
 intro Q hQ
 conv=>arg 1;whnf
 refine lO2 call eu n x s hx hs nm (jP s nm 0) ?_ ?_ n 0 rfl (ajy _) (by omega) (by rw[aj6])
 ·intro h
  intros
  conv=>arg 1;whnf
  exact Ac (Ab (.inl rfl) rfl) (hQ _ _ rfl)
 ·intro hR h
  intros
  conv=>arg 1;whnf
  exact Ac (Ab (.inl rfl) rfl) (hQ _ _ hR.symm)
def hW2(call:AA):Prop:= ∀s h,call (.func 46) [.str s] h=some (.ret (.bool (Kz s)),h)
def hO2(call:AA):Prop:= ∀x s nm h,AR x s->s.length<=3000000000->call (.func 47) [x,.str nm] h=some (.ret (.int .i64 (jP s nm 0)),h)
def Wh:Nat->Option (List Nat):=fun id=>match Nat.beq id 999999 with|true=>some []|false=>match Nat.beq id 10 with|true=>some [0,1,2,3,4,5,6,7,8,9]|false=>none
theorem aeN:A9 Tryz.prog (eO 23) Wh (codeOf Tryz.f23)=true:=by kernel_rfl
theorem lK2(call eu n)(x0:AV)(s:List Ag)(hx0:AR x0 s)(hs:s.length<=32)(hW2:hW2 call)(hO2:hO2 call){Q:Option (Aq × AH)->Prop}{K:KC (Aq × AH)}
  (hR:∀{h} {g0 g1 g4 g5 g6 g7 g8 g9 aA aB aC aD aE aF aG aH aI aJ aK aL aM aN aO aP aQ aR aS aT aU aV aW aX aY aZ bA bB bC bD bE bF bG bH bI bJ bK bL bM bN bO:AV},Q (K .ret ⟨(g0::g1:: .int .i64 (Fg s s 0).1:: .int .i64 (Fg s s 0).2::g4::g5::g6::g7::g8::g9::aA::aB::aC::aD::aE::aF::aG::aH::aI::aJ::aK::aL::aM::aN::aO::aP::aQ::aR::aS::aT::aU::aV::aW::aX::aY::aZ::bA::bB::bC::bD::bE::bF::bG::bH::bI::bJ::bK::bL::bM::bN::bO::[]),[],h⟩))
  (hK:Fg s s 0=(0,0)->∀{h} {g0 g1 g2 g3 g4 g5 g6 g7 g8 g9 aA aB aC aD aE aF aG aH aI aJ aK aL aM aN aO aP aQ aR aS aT aU aV aW aX aY aZ bA bB bC bD bE bF bG bH bI bJ bK bL bM bN bO:AV},Q (K (.exit 0) ⟨(g0::g1::g2::g3::g4::g5::g6::g7::g8::g9::aA::aB::aC::aD::aE::aF::aG::aH::aI::aJ::aK::aL::aM::aN::aO::aP::aQ::aR::aS::aT::aU::aV::aW::aX::aY::aZ::bA::bB::bC::bD::bE::bF::bG::bH::bI::bJ::bK::bL::bM::bN::bO::[]),[],h⟩)) :
  ∀(m i:Nat) {x:Int} {h:AH} {g1 g2 g3 g5 g6 g7 g8 g9 aA aB aC aD aE aF aG aH aI aJ aK aL aM aN aO aP aQ aR aS aT aU aV aW aX aY aZ bA bB bC bD bE bF bG bH bI bJ bK bL bM bN bO:AV},x=i->i<=s.length->s.length - i<m->Fg s s 0=Fg s (s.drop i) i->
  Q (DV (LB Wh call eu n 23 Tryz.f23 0) m ⟨(x0::g1::g2::g3:: .int .i64 x::g5::g6::g7::g8::g9::aA::aB::aC::aD::aE::aF::aG::aH::aI::aJ::aK::aL::aM::aN::aO::aP::aQ::aR::aS::aT::aU::aV::aW::aX::aY::aZ::bA::bB::bC::bD::bE::bF::bG::bH::bI::bJ::bK::bL::bM::bN::bO::[]),[],h⟩ K):=by
 have u:Tryz.prog.underlying 22=some (.slice 85):=by kernel_rfl
 have hlen:=fun h=>Fx (X:=⟨Tryz.prog,eO,call⟩) (mu:=false) (h:=h) u hx0
 rw[aaq]at hlen
 intro m
 induction m with
 |zero=>intros;omega
 |succ m ih=>
  intro i x h g1 g2 g3 g5 g6 g7 g8 g9 aA aB aC aD aE aF aG aH aI aJ aK aL aM aN aO aP aQ aR aS aT aU aV aW aX aY aZ bA bB bC bD bE bF bG bH bI bJ bK bL bM bN bO hx hi hm hF
  rw[Bo]
  conv=>arg 1;whnf
  refine Aa (hlen _) ?_
  conv=>arg 1;whnf
  split
  ·rename_i hd
   have hlt:i<s.length:=by simp at hd;omega
   have hdrop:s.drop i=s[i]::s.drop (i+1):=adS hlt
   have hg:(s.map jc)[i]?=some (jc s[i]):=by rw[abG,aaj hlt];rfl
   have hidx:=fun h=>Ht (P:=Tryz.prog) (t:=22) (e:=85) (n:=2) (h:=h) (k:= .i64) u (by kernel_rfl) hx0 hx hg rfl
   rw[hdrop]at hF
   generalize s[i]=g at hidx hF
   obtain⟨gn,ga⟩:=g
   conv=>arg 1;whnf
   refine Aa (hidx _) ?_
   conv=>arg 1;whnf
   refine Aa (hW2 _ _) ?_
   conv=>arg 1;whnf
   cases e1:Kz gn
   ·conv=>arg 1;whnf
    rw[hF]at hR
    simp only[Fg,e1,if_true,<-hx]at hR
    exact hR
   conv=>arg 1;whnf
   obtain⟨x',hsl,hx'⟩:=ahj (P:=Tryz.prog) (t:=22) (e:=85) (n:=2) (k:= .i64) (h:=h) u (by kernel_rfl) hx0 hx (by rw[aaq];omega) Nu
   rw[<-List.map_take]at hx'
   refine Aa hsl ?_
   conv=>arg 1;whnf
   refine Aa (hidx _) ?_
   conv=>arg 1;whnf
   refine Gq (hO2 x' (s.take i) gn h hx' (by rw[ajE];omega)) ?_
   conv=>arg 1;whnf
   cases e2:decide (jP (s.take i) gn 0>=0)
   ·have e2':¬jP (s.take i) gn 0>=0:=by simpa using e2
    have hF2:Fg s s 0=if ga<0\/ga>6 then(22,(i:Int))else Fg s (s.drop (i+1)) (i+1):=by
     rw[hF];simp only[Fg,e1,if_neg (show ¬(true=false)by simp),if_neg e2']
    conv=>arg 1;whnf
    refine Aa (hidx _) ?_
    conv=>arg 1;whnf
    cases e3:decide (ga<0)
    ·conv=>arg 1;whnf
     refine Aa (hidx _) ?_
     conv=>arg 1;whnf
     cases e4:decide (ga>6)
     ·conv=>arg 1;whnf
      refine ih (i+1) (by rw[hx];exact BS (by omega)) (by omega) (by omega) ?_
      rw[hF2,if_neg (by simp at e3 e4;omega)]
     ·conv=>arg 1;whnf
      rw[hF2,if_pos (.inr (by simpa using e4)),<-hx]at hR
      exact hR
    ·conv=>arg 1;whnf
     rw[hF2,if_pos (.inl (by simpa using e3)),<-hx]at hR
     exact hR
   ·conv=>arg 1;whnf
    rw[hF]at hR
    simp only[Fg,e1,if_neg (show ¬(true=false)by simp),if_pos (show jP (s.take i) gn 0>=0 by simpa using e2),<-hx]at hR
    exact hR
  ·rename_i hd
   have hlt:¬i<s.length:=by simp at hd;omega
   refine hK ?_
   rw[hF,ajJ (by omega)];rfl
theorem bK2(call eu n)(x:AV)(s:List Ag)(hx:AR x s)(hW2:hW2 call)(hO2:hO2 call)(h:AH)(hn:33<n) :
  ∃h',B Wh call eu n 23 Tryz.f23 [x] h=some (.ret (.fD [.int .i64 (AP s).1,.int .i64 (AP s).2]),h'):=by
 have u:Tryz.prog.underlying 22=some (.slice 85):=by kernel_rfl
 have hlen:=fun h=>Fx (X:=⟨Tryz.prog,eO,call⟩) (mu:=false) (h:=h) u hx
 rw[aaq]at hlen
 suffices hq:∀Q:Option (Aq × AH)->Prop,(∀a b h',(a,b)=AP s->Q (some (.ret (.fD [.int .i64 a,.int .i64 b]),h')))->Q (B Wh call eu n 23 Tryz.f23 [x] h)from
  hq (fun r=> ∃h',r=some (.ret (.fD [.int .i64 (AP s).1,.int .i64 (AP s).2]),h')) (fun a b h' e=>⟨h',by rw[<-e]⟩)
 intro Q hQ'
 conv=>arg 1;whnf
 refine Aa (hlen _) ?_
 conv=>arg 1;whnf
 split
 ·rename_i e1
  conv=>arg 1;whnf
  refine Ac (Ab (.inl rfl) rfl) (hQ' 20 0 _ ?_)
  unfold AP;rw[if_pos (by simpa using e1)]
 rename_i e1
 conv=>arg 1;whnf
 refine Aa (hlen _) ?_
 conv=>arg 1;whnf
 split
 ·rename_i e2
  conv=>arg 1;whnf
  refine Ac (Ab (.inl rfl) rfl) (hQ' 15 32 _ ?_)
  unfold AP;rw[if_neg (by simpa using e1),if_pos (by simp at e2;omega)]
 rename_i e2
 have hs:s.length<=32:=by simp at e2;omega
 have hc:AP s=Fg s s 0:=by unfold AP;rw[if_neg (by simpa using e1),if_neg (by omega)]
 conv=>arg 1;whnf
 refine lK2 call eu n x s hx hs hW2 hO2 ?_ ?_ n 0 rfl (ajy _) (by omega) (by rw[aj6])
 ·intro h
  intros
  conv=>arg 1;whnf
  exact Ac (Ab (.inl rfl) rfl) (hQ' _ _ _ hc.symm)
 ·intro h0 h
  intros
  conv=>arg 1;whnf
  exact Ac (Ab (.inl rfl) rfl) (hQ' _ _ _ (by rw[hc,h0]))
def ahA:=Bb aga 65 s36
def ac6:=Bb ahA 46 s28
def zl:=Bb ac6 47 s29
def adF:=Bb zl 23 s14
theorem EB2:Bq (Ak Tryz.prog eO ahA):=CK EAl fun args v hs=>by
 unfold s36 at hs;split at hs<;>cases hs
 exact⟨rfl,Cu KW (n:=17) rfl Tryz.func65 rfl (by kernel_rfl) (ah1 _ _ _ _ _ _ _ (by omega))⟩
theorem EW2:Bq (Ak Tryz.prog eO ac6):=CK EB2 fun args v hs=>by
 unfold s28 at hs;split at hs<;>cases hs
 exact⟨rfl,Cu KW (n:=1) rfl Tryz.func46 rfl (by kernel_rfl) (b79 _ _ _ _ _ (fun s lo hi h=>Dr rfl (by omega)))⟩
theorem EO2:Bq (Ak Tryz.prog eO zl):=CK EW2 fun args v hs=>by
 unfold s29 at hs;split at hs
 ·split at hs
  ·rename_i x nm _ s hb
   split at hs
   ·rename_i hl
    cases hs
    obtain⟨h',hb'⟩:=bO2 (Ah (Ak Tryz.prog eO ac6) (s.length+1)) (rg Tryz.prog eO ac6 (s.length+1) 47) (s.length+1) x s (Bn hb) hl nm .empty (by omega)
    exact⟨rfl,Cu fO rfl Tryz.func47 rfl (by kernel_rfl) hb'⟩
   ·cases hs
  ·cases hs
 ·cases hs
theorem afC{hk:Ar}{n:Nat}(hk':∀args h,hk 47 args h=zl 47 args h)(hn:0<n):hO2 (Ah (Ak Tryz.prog eO hk) n):=fun x s nm h hx hl=>Dr (by
 rw[hk']
 refine CX (by simp[BJ,BN,CZ hx]) ?_
 show(match Dn (Bc x)with|some s=>if s.length<=3000000000 then some (AV.int .i64 (jP s nm 0))else none|none=>none)=_
 rw[C9 hx];simp only[if_pos hl]) hn
theorem EK2:Bq (Ak Tryz.prog eO adF):=CK EO2 fun args v hs=>by
 unfold s14 at hs;split at hs
 ·split at hs
  ·rename_i x _ s hb
   cases hs
   obtain⟨h',hb'⟩:=bK2 (Ah (Ak Tryz.prog eO zl) 34) (rg Tryz.prog eO zl 34 23) 34 x s (Bn hb) (fun s h=>Dr rfl (by omega)) (afC (fun _ _=>rfl) (by omega)) .empty (by omega)
   exact⟨rfl,Cu Wh rfl Tryz.func23 rfl aeN hb'⟩
  ·cases hs
 ·cases hs
def hK2(call:AA):Prop:= ∀x s h,AR x s->call (.func 23) [x] h=some (.ret (.fD [.int .i64 (AP s).1,.int .i64 (AP s).2]),h)
theorem afa{hk:Ar}{n:Nat}(hk':∀args h,hk 23 args h=adF 23 args h)(hn:0<n):hK2 (Ah (Ak Tryz.prog eO hk) n):=fun x s h hx=>Dr (by
 rw[hk']
 refine CX (by simp[BJ,BN,CZ hx]) ?_
 show(match Dn (Bc x)with|some s=>some (AV.fD [.int .i64 (AP s).1,.int .i64 (AP s).2])|none=>none)=_
 rw[C9 hx]) hn
theorem aii(call eu n)(x v:AV)(s:List Ag)(nt:Nt)(hx:AR x s)(hv:Dc v nt)(h0:(AP s).1≠0)(hK2:hK2 call)(h:AH) :
  ∃h',B Q0 call eu n 5 Tryz.f5 [x,v] h=some (.ret (.fD [.int .i64 (AP s).1,.int .i64 (AP s).2]),h'):=by
 suffices hq:∀Q:Option (Aq × AH)->Prop,(∀h',Q (some (.ret (.fD [.int .i64 (AP s).1,.int .i64 (AP s).2]),h')))->Q (B Q0 call eu n 5 Tryz.f5 [x,v] h)from
  hq (fun y=> ∃h',y=some (.ret (.fD [.int .i64 (AP s).1,.int .i64 (AP s).2]),h')) (fun h'=>⟨h',rfl⟩)
 intro Q hQ
 obtain⟨c,w,rfl,hc,hw⟩:=hv
 have hcs:=Af hc
 have hws:=Af hw
 conv=>arg 1;whnf
 refine Aa (Dq (cs:=[c,.int .i64 nt.free,w]) rfl (by simp only[adP,hcs,hws,aku];rfl)) ?_
 generalize iy:h.alloc (.cells [c,.int .i64 nt.free,w] 26)=h1 at *
 obtain⟨jE,uU,kD⟩:=BQ iy
 clear iy kD
 generalize lD:h.next=i3 at *
 clear lD
 have pK:=hK2 x s h1 hx
 generalize (AP s).1=e at *
 generalize (AP s).2=a at *
 conv=>arg 1;whnf
 refine Aa (pK) ?_
 conv=>arg 1;whnf
 cases e1:(e != 0)
 ·exact absurd (by simpa using e1) h0
 conv=>arg 1;whnf
 exact Ac (Ab (.inl rfl) rfl) (hQ _)
theorem adQ{s:List Ag}{n:Nt}(h:(AP s).1≠0):Ao s n=AP s:=by unfold Ao;rw[if_pos h]
theorem ad2{s:List Ag}{n:Nt}(h:(AP s).1=0):Iz s n=Ao s n:=afz (fun a=>(BG h a).1) h
def sK3:List AV->Option AV
 |[x,v]=>match Dn x,En v with|some s,some n=>if n.wires.length<=1152921504606846976 then some (.fD [.int .i64 (Ao s n).1,.int .i64 (Ao s n).2])else none|_,_=>none
 |_=>none
theorem agx{hk:Ar}(hE:Bq (Ak Tryz.prog eO hk))(hno:∀args h,hk 5 args h=none)(hK:∀n,0<n->hK2 (Ah (Ak Tryz.prog eO hk) n))(hF:∀n,0<n->hF1 (Ah (Ak Tryz.prog eO hk) n))(hP:∀n,0<n->rH (Ah (Ak Tryz.prog eO hk) n)):Bq (Ak Tryz.prog eO (Bb hk 5 sK3)):=CK hE fun args v hs=>by
 unfold sK3 at hs;split at hs
 ·rename_i x v'
  split at hs
  ·rename_i s n h1 h2
   split at hs
   ·rename_i hl
    cases hs
    obtain⟨N,hN⟩:∃N,N=n.wires.length+50000:=⟨_,rfl⟩
    refine⟨rfl,?_⟩
    by_cases h0:(AP s).1=0
    ·obtain⟨h',hb⟩:=bCh (Ah (Ak Tryz.prog eO hk) N) (rg Tryz.prog eO hk N 5) N x v' s n (Bn h1) (DX h2) h0 (fun h=>by
      have hsc:AP s=(0,0):=by
       have:∀(all r:List Ag) (i:Nat),(Fg all r i).1=0->Fg all r i=(0,0):=by
        intro all r
        induction r with
        |nil=>intro i _;rfl
        |cons a r ih=>
         intro i h
         simp only[Fg]at h ⊢
         split at h
         ·simp at h
         ·rename_i c1
          rw[if_neg c1]
          split at h
          ·simp at h
          ·rename_i c2
           rw[if_neg c2]
           split at h
           ·simp at h
           ·rename_i c3
            rw[if_neg c3]
            exact ih _ h
       unfold AP at h0 ⊢
       split at h0
       ·simp at h0
       ·rename_i c1
        rw[if_neg c1]
        split at h0
        ·simp at h0
        ·rename_i c2
         rw[if_neg c2]
         exact this _ _ _ h0
      have:=hK N (by omega) x s h (Bn h1)
      rw[hsc]at this
      exact this) (hF N (by omega)) (hP N (by omega)) hl (by omega) (by omega) .empty
     rw[ad2 h0]at hb
     exact Cu Q0 (hno _ _) Tryz.func5 rfl aby hb
    ·obtain⟨h',hb⟩:=aii (Ah (Ak Tryz.prog eO hk) N) (rg Tryz.prog eO hk N 5) N x v' s n (Bn h1) (DX h2) h0 (hK N (by omega)) .empty
     rw[<-adQ (n:=n) h0]at hb
     exact Cu Q0 (hno _ _) Tryz.func5 rfl aby hb
   ·cases hs
  ·cases hs
 ·cases hs
def hK3(call:AA):Prop:= ∀x v s n h,AR x s->Dc v n->n.wires.length<=1152921504606846976->call (.func 5) [x,v] h=some (.ret (.fD [.int .i64 (Ao s n).1,.int .i64 (Ao s n).2]),h)
theorem afJ{hk hk0:Ar}{n:Nat}(hk':∀args h,hk 5 args h=Bb hk0 5 sK3 5 args h)(hn:0<n):hK3 (Ah (Ak Tryz.prog eO hk) n):=fun x v s n h hx hv hl=>Dr (by
 rw[hk']
 refine CX (by simp[BJ,CZ hx,Fb hv]) ?_
 show(match Dn (Bc x),En (Bc v)with|some s,some n=>if n.wires.length<=1152921504606846976 then some (AV.fD [.int .i64 (Ao s n).1,.int .i64 (Ao s n).2])else none|_,_=>none)=_
 rw[C9 hx,EZ hv];simp only[if_pos hl]) hn
def IV(s:List Ag)(nt:Nt):List UInt8:=K3 s (kJ (Dv s nt).wires) (Dv s nt)
theorem M9{s:List Ag}{nt:Nt}(g:fQ s nt):BA s (Dv s nt)=Dv s nt:=((KO g).tidy).2.2
theorem aeM{s:List Ag}{nt:Nt}(g:fQ s nt):Yg s (Dv s nt)= .fD [.str (IV s nt),.int .i64 0]:=by
 unfold Yg;rw[(J8 g).nN,if_pos rfl,M9 g];rfl
theorem X0{s:List Ag}{a b:Nt}(ga:fQ s a)(gb:fQ s b):IV s a=IV s b ↔ Dv s a=Dv s b:=
 ⟨fun h=>acJ (J8 ga) (J8 gb) (M9 ga) (M9 gb) h,fun h=>by unfold IV;rw[h]⟩
def hNc(call:AA):Prop:= ∀(F:List Sk.Id) (h0 h:AH) (R:List HE) (x c w:AV) (s:List Ag) (nt:Nt),(AR x s)->(fK c (nt.cells.map Ad))->(fK w (nt.wires.map Az))->((Ao s nt).1=0)->(nt.wires.length<=30000)->(Hb F h0 h R)->∃h',call (.func 14) [x,.agg [c,.int .i64 nt.free,w]] h=some (.ret (.fD [.str (IV s nt),.int .i64 0]),h')/\Hb F h0 h' R
theorem aff{hk:Ar}{n:Nat}(hno:NO hk 14)(dNn:UP hk 43000 hNn)(dPN:UP hk 43000 hPN)(hn:43001<n):hNc (EV hk n):=by
 intro F h0 h R x c w s nt hx hc hw ok hl H
 obtain⟨n,rfl⟩:=Dz hn
 refine KR (tab:=fO) (D:=fun c=>hNn c/\hPN c) hno Tryz.func14 rfl (by kernel_rfl) ⟨dNn n (by omega),dPN n (by omega)⟩ fun call eu ⟨dNn,dPN⟩ hrg Q hnone hQ=>?_
 have hfu:43001<=n:=by omega
 have g:=Cn ok
 have sc:c.scalar=true:=Af hc
 have lg:w.scalar=true:=Af hw
 have hs:[c,AV.int .i64 nt.free,w].all AV.scalar=true:=by simp only[adP,sc,lg];rfl
 refine H.xB (hs:=hs) fun i3 h H=>?_
 refine H.xM 3 ?_
 obtain⟨h1,q1,H1⟩:=dNn F h0 _ _ x c w s nt hx hc hw ok hl H
 rw[Ze]at q1
 have rG:(PD (Dv s nt).wires).scalar=true:=Af (Nk _)
 refine sC q1 ?_
 refine H1.xA [.aj,.int .i64 0,.aj] fun i6 h H=>?_
 refine H.xJ (hs:=?o1) fun h H=>?_
 case o1=>simp only[AV.cells,adP,rG];rfl
 have tl:(Dv s nt).wires.length<=30000:=SI (KO g)
 have q2:=fun h=>dPN x (.agg [.fC ((Dv s nt).cells.map Ad) .unk,.int .i64 (Dv s nt).free,PD (Dv s nt).wires]) s (Dv s nt) h hx ⟨_,_,rfl,.inr ⟨_,rfl⟩,Nk _⟩ (by omega)
 rw[aeM g]at q2
 refine H.xM 3 ?_
 refine sC (q2 _) ?_
 conv=>arg 1;whnf
 exact Ac (Ab (.inl rfl) rfl) (hQ _ H.tail.tail)
def hSq(call:AA):Prop:= ∀x s h,AR x s->s.length<=4611686018427387904->call (.func 26) [x] h=some (.ret (.int .i64 (Gl s s.length)),h)
def O7(s:List Ag)(nt:Nt):Bool:=decide (Gl s s.length>65536)||decide ((nt.cells.length:Int)+nt.wires.length>512)
def hHv(call:AA):Prop:= ∀(F:List Sk.Id) (h0 h:AH) (R:List HE) (x c w:AV) (s:List Ag) (nt:Nt),(AR x s)->(fK c (nt.cells.map Ad))->(fK w (nt.wires.map Az))->(s.length<=4611686018427387904)->(nt.cells.length<=1152921504606846976)->(nt.wires.length<=1152921504606846976)->(Hb F h0 h R)->∃h',call (.func 6) [x,.agg [c,.int .i64 nt.free,w]] h=some (.ret (.bool (O7 s nt)),h')/\Hb F h0 h' R
theorem afs{hk:Ar}{n:Nat}(hno:NO hk 6)(dSq:UP hk 4 hSq)(dZN:UP hk 4 hZN)(hn:5<n):hHv (EV hk n):=by
 intro F h0 h R x c w s nt hx hc hw l0 l1 l2 H
 obtain⟨n,rfl⟩:=Dz hn
 refine KR (tab:=fO) (D:=fun c=>hSq c/\hZN c) hno Tryz.func6 rfl (by kernel_rfl) ⟨dSq n (by omega),dZN n (by omega)⟩ fun call eu ⟨dSq,dZN⟩ hrg Q hnone hQ=>?_
 have hfu:5<=n:=by omega
 have sc:c.scalar=true:=Af hc
 have lg:w.scalar=true:=Af hw
 have hs:[c,AV.int .i64 nt.free,w].all AV.scalar=true:=by simp only[adP,sc,lg];rfl
 have pz:=fun h=>dZN (.agg [c,.int .i64 nt.free,w]) nt h ⟨c,w,rfl,hc,hw⟩ l1 l2
 have qz:=fun h=>dSq x s h hx l0
 have hf:O7 s nt=(decide (Gl s s.length>65536)||decide ((nt.cells.length:Int)+nt.wires.length>512)):=rfl
 generalize Gl s s.length=sz at qz hf
 generalize (nt.cells.length:Int)+nt.wires.length=zz at pz hf
 refine H.xB (hs:=hs) fun i3 h H=>?_
 refine sC (qz _) ?_
 conv=>arg 1;whnf
 cases e1:decide (sz>65536)
 ·rw[hf,e1,Bool.false_or]at hQ
  refine H.xM 3 ?_
  refine sC (pz _) ?_
  conv=>arg 1;whnf
  exact Ac (Ab (.inl rfl) rfl) (hQ _ H.tail)
 ·rw[hf,e1,Bool.true_or]at hQ
  conv=>arg 1;whnf
  exact Ac (Ab (.inl rfl) rfl) (hQ _ H.tail)
theorem bCA(call eu n)(x:AV)(s:List Ag)(hx:AR x s)(hl:s.length<=1000000)(h:AH):∃l h',B fO call eu n 10 Tryz.f10 [x] h=some (.ret l,h')/\iI jc l s:=by
 suffices hq:∀Q:Option (Aq × AH)->Prop,(∀l h',iI jc l s->Q (some (.ret l,h')))->Q (B fO call eu n 10 Tryz.f10 [x] h)from hq (fun y=> ∃l h',y=some (.ret l,h')/\iI jc l s) (fun l h' hl=>⟨l,h',rfl,hl⟩)
 intro Q hQ
 obtain⟨l',h',a1,a2⟩:=LC (call:=call) (h:=h) (enc:=jc) (t:=22) (e:=85) (sz:=2) (z:= .agg [.str [],.int .i64 0]) (by kernel_rfl) (by kernel_rfl) (by kernel_rfl) (by omega) rfl rfl Nu hx (by rw[show Tryz.prog.bytesOf 85=24 by kernel_rfl];omega) (by omega)
 conv=>arg 1;whnf
 refine Aa (a1) ?_
 conv=>arg 1;whnf
 exact Ac (Ab (.inl rfl) rfl) (hQ _ _ a2)
def sCA:List AV->Option AV|[x]=>(match Dn x with|some l=>if l.length<=1000000 then some (fJ jc l)else none|none=>none)|_=>none
theorem af3{hk:Ar}(hE:Bq (Ak Tryz.prog eO hk))(hno:∀args h,hk 10 args h=none):Bq (Ak Tryz.prog eO (Bb hk 10 sCA)):=Fj hE fun args v hs=>by
 unfold sCA at hs;split at hs
 ·split at hs
  ·rename_i x l h1
   split at hs
   ·rename_i hl
    cases hs
    obtain⟨l',h',q1,q2⟩:=bCA (Ah (Ak Tryz.prog eO hk) 1) (rg Tryz.prog eO hk 1 10) 1 _ l (Bn h1) hl .empty
    obtain⟨e1,f1⟩:=q2.weak (fun _=>rfl) (fun _=>rfl)
    exact⟨_,f1,e1.symm,Cu fO (hno _ _) Tryz.func10 rfl (by kernel_rfl) q1⟩
   ·cases hs
  ·cases hs
 ·cases hs
def hCA(call:AA):Prop:= ∀x l h,AR x l->l.length<=1000000->call (.func 10) [x] h=some (.ret (fJ jc l),h)
theorem ae3{hk hk0:Ar}{n:Nat}(hk':∀args h,hk 10 args h=Bb hk0 10 sCA 10 args h)(hn:0<n):hCA (Ah (Ak Tryz.prog eO hk) n):=fun x l h hx hl=>Dr (by
 rw[hk']
 refine CX (by simp[BJ,BN,CZ hx]) ?_
 show(match Dn (Bc x)with|some l=>if l.length<=1000000 then some (fJ jc l)else none|none=>none)=_
 rw[C9 hx];simp only[if_pos hl]) hn
end Go.Proofs.Nt
namespace Go.Proofs.Nt
open Go.Sk Go.RowKit
def Kj(hk:Ar)(f:FuncId)(s:List AV->AH->Option (AV × AH)):Ar:=fun g args h=>if g=f then s args h else hk g args h
theorem UR(hk:Ar){f g:FuncId}(s:List AV->AH->Option (AV × AH))(args:List AV)(h:AH)(e:g≠f):Kj hk f s g args h=hk g args h:=by simp[Kj,e]
theorem ZP{P:Program}{mu:FuncId->Nat->Bool}{hk:Ar}{f:FuncId}{s:List AV->AH->Option (AV × AH)}(hE:Bq (Ak P mu hk))(hk':Qx P f)
  (hs:∀args h v h',s args h=some (v,h')->∀ρ w eP,Rel ρ h w->dw ρ args eP->Calls P f eP.toArray w (Ec ρ h w (.ret v) h')):Bq (Ak P mu (Kj hk f s)) where
 hk:=fun g args hh v hh' h ρ w eP hR hb ha=>by
  by_cases hg:g=f
  ·subst hg
   have h':s args hh=some (v,hh'):=by simpa[Ak,Kj]using h
   exact⟨hk',hs _ _ _ _ h' ρ w eP hR ha⟩
  ·have h':hk g args hh=some (v,hh'):=by rw[<-UR hk s args hh hg];exact h
   exact hE.hk g args hh v hh' h' ρ w eP hR hb ha
 ng:=hE.ng
 eu:=hE.eu
def Sw:List AV->Option (List Int)
 |[]=>some []
 | .int .i64 z::r=>match Sw r with|some l=>some (z::l)|none=>none
 |_::_=>none
theorem Uk:∀{xs:List AV} {l:List Int},Sw xs=some l->xs=l.map fun z=>AV.int .i64 z
 |[],l,h=>by cases h;rfl
 |x::r,l,h=>by
  unfold Sw at h
  split at h
  ·rename_i e;cases e
  ·rename_i z r' e
   cases e
   cases e2:Sw r with
   |none=>rw[e2]at h;cases h
   |some m=>rw[e2]at h;cases h;rw[Uk e2];rfl
  ·cases h
theorem W9:∀l:List Int,Sw (l.map fun z=>AV.int .i64 z)=some l
 |[]=>rfl
 |z::r=>by simp only[aju,Sw,W9 r]
def Uh(args:List AV)(h:AH):Option (AV × AH):=
 match args with
 |[.aj]=>some (.fD [],h)
 |[.hsl r 0 len _]=>match h.get r with
  |some (.cells cs T)=>match Sw cs with
   |some zs=>if zs.length=len/\zs.length<=1000000000 then some (.fD [],h.set r (.cells ((zs.mergeSort fun x y=>decide (x<=y)).map fun z=>AV.int .i64 z) T))else none
   |none=>none
  |_=>none
 |_=>none
theorem agU:Qx Tryz.prog 88:=⟨_,Tryz.func88,by kernel_rfl,by kernel_rfl⟩
theorem agL(ρ:eT):bf ρ (.fD []) (.tuple #[]):= .fD [] #[] rfl (fun i hi=>by simp at hi)
theorem aeR{hk:Ar}(hE:Bq (Ak Tryz.prog eO hk)):Bq (Ak Tryz.prog eO (Kj hk 88 Uh)):=
 ZP hE agU fun args h v h' hs ρ w eP hR ha=>by
  unfold Uh at hs
  split at hs
  ·cases hs
   obtain⟨c,rfl⟩:∃c,eP=[c]:=by
    have:=ha.1
    match eP,this with
    |[c],_=>exact⟨c,rfl⟩
   have hv:=ha.2 0 (by simp) (by simp)
   simp only[ajS]at hv
   cases hv
   refine(Tryz.slices_Sort_int_none none 0 w).mono fun e w' hp=>?_
   obtain⟨rfl,rfl⟩:=hp
   exact⟨_,ρ,rfl,agL ρ,hR,Stp.refl ..⟩
  ·rename_i r len cap
   split at hs
   ·rename_i cs T hg
    split at hs
    ·rename_i zs hz
     split at hs
     ·rename_i hl
      obtain⟨rfl,hl⟩:=hl
      cases hs
      obtain⟨c,rfl⟩:∃c,eP=[c]:=by
       have:=ha.1
       match eP,this with
       |[c],_=>exact⟨c,rfl⟩
      have hv:=ha.2 0 (by simp) (by simp)
      simp only[ajS]at hv
      cases hv with
      |hsl _ _ _ _ b n hb hn hcap=>
       obtain rfl:=Uk hz
       obtain⟨eU,fr,hw,hp,h1,hfr⟩:=hR.obj r _ b hg hb
       have hbd:=(hR.bound r b hb).2.1
       have hcc:∀j (hj:j<zs.length),eU[j]?=some (.int .i64 zs[j]!):=fun j hj=>by
        have hj2:j<eU.length:=by have:=hp.1;simp only[aaq]at this;omega
        have h2:=hp.2 j (by simpa using hj) hj2
        rw[aaj hj2]
        simp only[akf]at h2
        generalize eU[j]=z at h2
        cases h2
        rw[getElem!_pos zs j hj]
       have hH:Go.Sort.Holds (Value.int .i64) w b 0 zs.toArray:=fun j hj=>by
        have hj:j<zs.length:=by simpa using hj
        have hj2:j<eU.length:=by have:=hp.1;simp only[aaq]at this;omega
        refine⟨?_,?_⟩
        ·unfold World.cell?
         simp only[hw,ajx]
         simpa using hcc j hj
        ·unfold World.frozen?
         simp only[hw,ajx]
         rcases hfr with rfl|rfl
         ·simp
         ·simp;omega
       refine(Tryz.slices_Sort_int b 0 n zs w hH hbd (by omega)).mono fun e w' hpp=>?_
       obtain⟨rfl,m,os,rfl⟩:=hpp
       generalize hzs:(zs.mergeSort fun x y=>decide (x<=y))=ss
       have hsl:ss.length=zs.length:=by rw[<-hzs,List.length_mergeSort]
       have hcs:zs.length<=eU.length:=by have:=hp.1;simpa using this
       have hwr:Wrote w (Go.Sort.putRow (Value.int .i64) (Go.Sort.ahead w m) b 0 ss.toArray) b (.cells (Go.Sort.putCells (Value.int .i64) 0 ss.toArray eU.toArray) T fr):=by
        refine⟨rfl,rfl,rfl,by simp[Go.Sort.putRow,Go.Sort.mapBlock,Go.Sort.ahead],?_,fun k hk=>?_⟩
        ·simp[Go.Sort.putRow,Go.Sort.mapBlock,Go.Sort.ahead,akN,hw,Go.Sort.onCells]
        ·simp[Go.Sort.putRow,Go.Sort.mapBlock,Go.Sort.ahead,akN,alv hk]
       have hsz2:(Go.Sort.putCells (Value.int .i64) 0 ss.toArray eU.toArray).size=eU.length:=by simp[Go.Sort.putCells]
       have hx:j5 ρ (.cells (ss.map fun z=>AV.int .i64 z) T) (some (.cells (Go.Sort.putCells (Value.int .i64) 0 ss.toArray eU.toArray) T fr)):=by
        refine⟨(Go.Sort.putCells (Value.int .i64) 0 ss.toArray eU.toArray).toList,fr,by simp,⟨?_,?_⟩,?_,?_⟩
        ·have e1:(Go.Sort.putCells (Value.int .i64) 0 ss.toArray eU.toArray).toList.length=eU.length:=hsz2
         have e2:(ss.map fun z=>AV.int .i64 z).length=ss.length:=aaq ..
         rw[e1,e2];omega
        ·intro i hi hj
         have hi:i<ss.length:=by simpa using hi
         have:(Go.Sort.putCells (Value.int .i64) 0 ss.toArray eU.toArray).toList[i]= .int .i64 ss[i]:=by
          simp[Go.Sort.putCells,hi]
         rw[this,akf];exact .int _ _
        ·intro v hv
         obtain⟨i,hi,rfl⟩:=List.mem_iff_getElem.1 hv
         simp only[Go.Sort.putCells,Array.getElem_toList,Array.getElem_mapIdx]
         split
         ·rfl
         ·exact h1 _ (by simp)
        ·rw[Array.length_toList,hsz2];exact hfr
       have hS:=Rel.setObj hR hg (by simp[AO.live]) hb (by simp[AO.live]) hwr (fun jL T' fr' e=>by
        rw[hw]at e;cases e
        exact⟨_,_,_,rfl,by rw[hsz2];simp⟩) hx
       have hT:=Stp.setObj (ρ:=ρ) (o':= .cells (ss.map fun z=>AV.int .i64 z) T) hg (by simp[AO.live]) hb (by simp[AO.live]) hwr
       have hG:iX (Go.Sort.putRow (Value.int .i64) (Go.Sort.ahead w m) b 0 ss.toArray) (Go.Sort.grow (Go.Sort.putRow (Value.int .i64) (Go.Sort.ahead w m) b 0 ss.toArray) os):=
        ⟨rfl,rfl,rfl,by simp[Go.Sort.grow],fun k hk=>by simp only[Go.Sort.grow];rw[Array.getElem?_append_left hk]⟩
       exact⟨_,ρ,rfl,agL ρ,hS.grew hG,hT.trans (Stp.grew hG)⟩
     ·cases hs
    ·cases hs
   ·cases hs
  ·cases hs
end Go.Proofs.Nt
namespace Go.Proofs.Nt
open Go.Sk
theorem agq{hk hk0:Ar}{n:Nat}(hk':∀args h,hk 88 args h=Kj hk0 88 Uh 88 args h)(hn:0<n):hSo (Ah (Ak Tryz.prog eO hk) n):=by
 refine⟨fun h=>Dr (by rw[hk'];simp[Kj,Uh]) hn,fun F h0 h R r zs c hz H=>?_⟩
 refine⟨h.set r (.cells ((zs.mergeSort leI).map Ad) 3),Dr ?_ hn,H.set (iT.here _)⟩
 rw[hk']
 have hg:=H.get (.head _)
 have e:(zs.map Ad)=zs.map fun z=>AV.int .i64 z:=rfl
 simp only[Kj,if_true,Uh,hg,e,W9]
 rw[if_pos (And.intro (by first|rfl|simp) (by omega))];rfl
noncomputable def K6(P:Program)(mu:FuncId->Nat->Bool)(hk:Ar)(n:Nat)(f:FuncId)(tab:List (List AV × AV)):Bool:=
 tab.all fun e=>match IY P mu hk n (.func f) e.1 .empty with
  |some (.ret u,_)=>BN u&&AV.beq (Bc u) e.2
  |_=>false
theorem Gy{P:Program}{mu:FuncId->Nat->Bool}{hk:Ar}{n:Nat}{f:FuncId}{tab:List (List AV × AV)}(hE:Bq (Ak P mu hk))(h:K6 P mu hk n f tab=true):Bq (Ak P mu (Bb hk f (Lp tab))):=
 Fj hE fun args v hs=>by
  have h1:=ajG.1 h _ (UC hs)
  simp only at h1
  split at h1
  ·rename_i u h' he
   simp only[aci]at h1
   exact⟨u,h1.1,(AV.beq_eq h1.2).symm,n,h',by rw[Ua];exact he⟩
  ·cases h1
def mX:FuncId->Nat->Bool:=fun f _=>Nat.beq f 87||Nat.beq f 69||Nat.beq f 89
def abP:List (List AV × AV):=
 [([(.fC [(.agg [(.str [90]),(.int .i64 (0))]),(.agg [(.str [83]),(.int .i64 (1))])] .unk)],(.fD [(.int .i64 (0)),(.int .i64 (0))]))]
def ac0:List (List AV × AV):=
 [([(.fC [(.agg [(.str [90]),(.int .i64 (0))]),(.agg [(.str [83]),(.int .i64 (1))])] .unk),(.agg [(.fC [(.int .i64 (0)),(.int .i64 (1))] .unk),(.int .i64 (1)),(.fC [(.agg [(.int .i64 (1)),(.int .i64 (1)),(.int .i64 (0)),(.int .i64 (0))]),(.agg [(.int .i64 (1)),(.int .i64 (0)),(.int .i64 (-1)),(.int .i64 (0))])] .unk)])],(.fD [(.int .i64 (0)),(.int .i64 (0))])),
  ([(.fC [(.agg [(.str [90]),(.int .i64 (0))]),(.agg [(.str [83]),(.int .i64 (1))])] .unk),(.agg [(.fC [(.int .i64 (1)),(.int .i64 (0))] .unk),(.int .i64 (1)),(.fC [(.agg [(.int .i64 (0)),(.int .i64 (1)),(.int .i64 (1)),(.int .i64 (0))]),(.agg [(.int .i64 (0)),(.int .i64 (0)),(.int .i64 (-1)),(.int .i64 (0))])] .unk)])],(.fD [(.int .i64 (0)),(.int .i64 (0))])),
  ([(.fC [(.agg [(.str [90]),(.int .i64 (0))]),(.agg [(.str [83]),(.int .i64 (1))])] .unk),(.agg [.aj,(.int .i64 (0)),.aj])],(.fD [(.int .i64 (0)),(.int .i64 (0))]))]
def acC:List (List AV × AV):=
 []
def abE:List (List AV × AV):=
 []
def aa9:List (List AV × AV):=
 []
def aa4:List (List AV × AV):=
 []
def acB:List (List AV × AV):=
 []
def xk0:Ar:=QV
theorem xE0:Bq (Ak Tryz.prog mX xk0):=ZI (by kernel_rfl) (by kernel_rfl)
def xk1:Ar:=Bb xk0 61 (Lp abP)
set_option maxRecDepth 100000 in
theorem aic:K6 Tryz.prog mX xk0 4000 61 abP=true:=by kernel_rfl
theorem xE1:Bq (Ak Tryz.prog mX xk1):=Gy xE0 aic
def xk2:Ar:=Bb xk1 49 (Lp ac0)
set_option maxRecDepth 100000 in
theorem ahY:K6 Tryz.prog mX xk1 4000 49 ac0=true:=by kernel_rfl
theorem xE2:Bq (Ak Tryz.prog mX xk2):=Gy xE1 ahY
def xk3:Ar:=Bb xk2 95 (Lp acC)
set_option maxRecDepth 100000 in
theorem ahS:K6 Tryz.prog mX xk2 4000 95 acC=true:=by kernel_rfl
theorem xE3:Bq (Ak Tryz.prog mX xk3):=Gy xE2 ahS
def xk4:Ar:=Bb xk3 77 (Lp abE)
set_option maxRecDepth 100000 in
theorem aij:K6 Tryz.prog mX xk3 4000 77 abE=true:=by kernel_rfl
theorem xE4:Bq (Ak Tryz.prog mX xk4):=Gy xE3 aij
def xk5:Ar:=Bb xk4 54 (Lp aa9)
set_option maxRecDepth 100000 in
theorem ahZ:K6 Tryz.prog mX xk4 4000 54 aa9=true:=by kernel_rfl
theorem xE5:Bq (Ak Tryz.prog mX xk5):=Gy xE4 ahZ
def xk6:Ar:=Bb xk5 41 (Lp aa4)
set_option maxRecDepth 100000 in
theorem aif:K6 Tryz.prog mX xk5 4000 41 aa4=true:=by kernel_rfl
theorem xE6:Bq (Ak Tryz.prog mX xk6):=Gy xE5 aif
def xk7:Ar:=Bb xk6 22 (Lp acB)
set_option maxRecDepth 100000 in
theorem aiq:K6 Tryz.prog mX xk6 4000 22 acB=true:=by kernel_rfl
theorem xE7:Bq (Ak Tryz.prog mX xk7):=Gy xE6 aiq
set_option maxRecDepth 100000 in
theorem ahM:UU (IY Tryz.prog mX xk7 4000 (.func 7) [] .empty)=true:=by kernel_rfl
theorem agJ:∃h',Ah (Ak Tryz.prog mX xk7) 4000 (.func 7) [] .empty=some (.ret (.bool true),h'):=by
 obtain⟨h',he⟩:=Ve ahM
 exact⟨h',by rw[<-he];exact Ua _ _ _ _ _ _ _⟩
theorem adt:Tryz.prog.globalNamed "internal/strconv.uint64pow10" =some 1:=by kernel_rfl
theorem aht:vH 1=some (Lib.pow10Tab.map fun z=>Value.int .u64 z).toArray:=if_pos rfl
noncomputable def hz1:=Bb adF 80 sIt
theorem Ez1:Bq (Ak Tryz.prog eO hz1):=afg EK2 adt aht
noncomputable def hz2:=Bb hz1 58 sJn
theorem Ez2:Bq (Ak Tryz.prog eO hz2):=aey Ez1
noncomputable def hz3:=Bb hz2 5 sK3
theorem Ez3:Bq (Ak Tryz.prog eO hz3):=agx Ez2 (fun _ _=>rfl) (fun n hn=>afa (fun _ _=>rfl) hn) (fun n hn=>ab0 (fun _ _=>rfl) hn) (fun n hn=>aa7 (fun _ _=>rfl) hn)
noncomputable def hz4:=Bb hz3 21 yG
theorem Ez4:Bq (Ak Tryz.prog eO hz4):=agj Ez3 (fun _ _=>rfl) (fun _ _=>rfl) (fun _ _=>rfl) (fun n hn=>ab0 (fun _ _=>rfl) hn) (fun n hn=>aa7 (fun _ _=>rfl) hn) (fun n hn=>aeP (fun _ _=>rfl) hn)
noncomputable def agm:=Kv hz3 21 yG
theorem ahH:Bq (Ak Tryz.prog eO agm):=ZR Ez3 Ez4
noncomputable def hz5:=Bb agm 56 sLs
theorem Ez5:Bq (Ak Tryz.prog eO hz5):=ae9 ahH (fun _ _=>rfl) (fun n hn=>aaV (hk0:=hz1) (fun _ _=>rfl) hn)
theorem ahI:PrC hz5 where
 n1:=fun _ _=>rfl
 n2:=fun _ _=>rfl
 n3:=fun _ _=>rfl
 n4:=fun _ _=>rfl
 lT:=fun n hn=>acX (fun _ _=>rfl) hn
 h16:=fun n hn=>XO (fun _ _=>rfl) hn
 om:=fun n hn=>afQ (fun _ _=>rfl) hn
 hI:=fun n hn=>afE (hk0:=adF) (fun _ _=>rfl) hn
 hL:=fun n hn=>agC (hk0:=agm) (fun _ _=>rfl) hn
 hJ:=fun n hn=>aaV (hk0:=hz1) (fun _ _=>rfl) hn
noncomputable def hz6:=Bb hz5 37 sPN
theorem Ez6:Bq (Ak Tryz.prog eO hz6):=agc Ez5 (fun _ _=>rfl) ahI
noncomputable def hz7:=hz6
theorem Ez7:Bq (Ak Tryz.prog eO hz7):=Ez6
noncomputable def hz8:=hz7
theorem Ez8:Bq (Ak Tryz.prog eO hz8):=Ez7
noncomputable def hz9:=hz8
theorem Ez9:Bq (Ak Tryz.prog eO hz9):=Ez8
noncomputable def aeU:=Bb hz9 10 sCA
theorem ahW:Bq (Ak Tryz.prog eO aeU):=af3 Ez9 (fun _ _=>rfl)
noncomputable def aeJ:=Bb aeU 26 sSz
theorem ah3:Bq (Ak Tryz.prog eO aeJ):=afI ahW (fun _ _=>rfl)
noncomputable def agK:=Bb aeJ 27 sZN
theorem ah9:Bq (Ak Tryz.prog eO agK):=agB ah3 (fun _ _=>rfl)
noncomputable def afG:=agK
theorem ah5:Bq (Ak Tryz.prog eO afG):=ah9
noncomputable def ae8:=Bb afG 92 yM
theorem ahG:Bq (Ak Tryz.prog eO ae8):=aeT ah5
noncomputable def ahm:=Kj ae8 88 Uh
theorem ahN:Bq (Ak Tryz.prog eO ahm):=aeR ahG
theorem Yu{P:Program}{mu mu':FuncId->Nat->Bool}{hk hk0:Ar}{f:FuncId}{s:List AV->Option AV}(hE:Bq (Ak P mu hk))(hE0:Bq (Ak P mu' hk0))
  (hs:∀args v,s args=some v->ER v=true/\∃n h',Ah (Ak P mu' hk0) n (.func f) args .empty=some (.ret v,h')):Bq (Ak P mu (Bb hk f s)) where
 hk:=fun g args hh v hh' h ρ w eP hR hb ha=>by
  by_cases hg:g=f
  ·subst hg
   obtain⟨hfr,h',rfl⟩:=LP h
   obtain⟨p2,n,h1,he⟩:=hs _ v h'
   exact Xm hE0 he hR ha hfr p2
  ·have h':hk g args hh=some (v,hh'):=by rw[<-I7 hk s args hh hg];exact h
   exact hE.hk g args hh v hh' h' ρ w eP hR hb ha
 ng:=hE.ng
 eu:=hE.eu
def sLz:List AV->Option AV|[]=>some (.bool true)|_=>none
noncomputable def ahd:=ahm
theorem ah6:Bq (Ak Tryz.prog eO ahd):=ahN
noncomputable def zm:=Bb ahd 7 sLz
theorem ah7:Bq (Ak Tryz.prog eO zm):=Yu (f:=7) ah6 xE7 fun args v hs=>by
 unfold sLz at hs;split at hs
 ·cases hs
  obtain⟨h',he⟩:=agJ
  exact⟨rfl,_,h',he⟩
 ·cases hs
section
variable{s:List Ag}{a b:Nt}{f:Int->Int}
theorem iA.congr{g:Int->Int}(ga:fQ s a)(I:iA s a b f)(h:∀c:Int,0<=c->c<a.cells.length->g c=f c):iA s a b g:=by
 have hm:∀p∈Ae s a,mv g p=mv f p:=fun p hp=>by
  rcases aj5 p.1 0 with k|k
  ·rw[Cw k,Cw k]
  ·rw[Cy k,Cy k,h _ k (AY hp k).1]
 refine⟨I.fr,I.len,fun c c0 c1=>by rw[h c c0 c1];exact I.rg c c0 c1,fun c d c0 c1 d0 d1 e=>?_,fun c c0 c1=>by rw[h c c0 c1];exact I.ag c c0 c1,fun p hp=>?_⟩
 ·rw[h c c0 c1,h d d0 d1]at e;exact I.inj c d c0 c1 d0 d1 e
 ·rw[hm p hp,hm _ (ga.val hp)];exact I.lk p hp
end
theorem Ui:∀(r:List Ag) (n:Int),0<=n->(∀g∈r,g.1.length<=1152921504606846976)->n<=Gl r n
 |[],n,_,_=>by simp[Gl]
 |g::r,n,h0,h=>by
  simp only[Gl]
  split
  ·rename_i hd
   have hg:=h g (List.mem_cons_self ..)
   have hw:IntKind.i64.wrap (n+g.1.length)=n+g.1.length:=by
    have:n<=2147483647:=by simpa using hd
    simp[IntKind.wrap,IntKind.bits,IntKind.signed]
    omega
   rw[hw]
   have:=Ui r (n+g.1.length) (by omega) fun g' hg'=>h g' (akr _ hg')
   omega
  ·omega
theorem Us{s:List Ag}{nt:Nt}(hnm:∀g∈s,g.1.length<=1152921504606846976)(h:O7 s nt=false):s.length<=65536/\nt.cells.length<=512/\nt.wires.length<=512:=by
 unfold O7 at h
 simp at h
 have:=Ui s s.length (by omega) hnm
 omega
theorem abL{x:AV}{l:List AV}(h:fK x l):z8 x=none:=by rcases h with⟨rfl,_⟩|⟨c,rfl⟩<;>rfl
theorem abZ{x:AV}{l:List AV}(h:fK x l):Yd x=none:=by rcases h with⟨rfl,_⟩|⟨c,rfl⟩<;>rfl
theorem abn{x v:AV}{s:List Ag}{n:Nt}(hx:AR x s)(hv:Dc v n):[x,v].findSome? Yd=none:=by
 obtain⟨c,w,rfl,hc,hw⟩:=hv
 have e:Yd (.agg [c,.int .i64 n.free,w])=none:=by
  show[c,.int .i64 n.free,w].findSome? z8=none
  simp only[List.findSome?_cons,List.findSome?_nil,abL hc,abL hw];rfl
 simp only[List.findSome?_cons,List.findSome?_nil,abZ hx,e]
noncomputable abbrev cz(n:Nat):AA:=Ah (Ak Tryz.prog eO zm) n
theorem z13(n)(h:0<n):lT (cz n):=acX (fun _ _=>rfl) h
theorem z16(n)(h:0<n):h16 (cz n):=XO (fun _ _=>rfl) h
theorem zCN(n)(h:0<n):wM (cz n):=agt (fun _ _=>rfl) h
theorem zCA(n)(h:0<n):hCA (cz n):=ae3 (hk0:=hz9) (fun _ _=>rfl) h
theorem zK3(n)(h:0<n):hK3 (cz n):=afJ (hk0:=hz2) (fun _ _=>rfl) h
theorem zPN(n)(h:0<n):hPN (cz n):=afO (hk0:=hz5) (fun _ _=>rfl) h
theorem zSq(n)(h:0<n):hSq (cz n):=fun x s hh hx hl=>adw (hk:=zm) (hk0:=aeU) (fun _ _=>rfl) h hh hx hl
theorem zZN(n)(h:0<n):hZN (cz n):=aeI (hk0:=aeJ) (fun _ _=>rfl) h
theorem zCp(n)(h:0<n):vV (cz n):=aeC (hk0:=afG) (fun _ _=>rfl) h
theorem zSo(n)(h:0<n):hSo (cz n):=agq (hk0:=ae8) (fun _ _=>rfl) h
theorem zLw(n)(h:0<n)(hh:AH):cz n (.func 7) [] hh=some (.ret (.bool true),hh):=Dr (CX rfl rfl) h
theorem zWl(n)(h:30001<n):uy (cz n):=aeK (fun _ _=>rfl) (fun n h=>z16 n (by omega)) h
theorem zWd(n)(h:0<n):hWd (cz n):=aeA (fun _ _=>rfl) h
theorem zWq(n)(h:6000<n):hWq (cz n):=aes (fun _ _=>rfl) (fun _ _=>rfl) (fun n h=>zWd n h) (fun n h=>zSo n (by omega)) h
theorem zWp(n)(h:40000<n):xY (cz n):=aev (fun _ _=>rfl) (fun n h=>zWl n (by omega)) (fun n h=>zWq n (by omega)) h
theorem zWf(n)(h:40000<n):hWf (cz n):=aeY (fun _ _=>rfl) (fun _ _=>rfl) (fun n h=>zWl n h) (fun n h=>zWd n h) h
theorem zZi(n)(h:5<n):hZi (cz n):=aeH (fun _ _=>rfl) h
theorem zZg(n)(h:7<n):hZg (cz n):=agr (fun _ _=>rfl) (fun n h=>zZi n (by omega)) (by omega)
theorem zZf(n)(h:9<n):hZf (cz n):=afL (fun _ _=>rfl) (fun n h=>zZg n (by omega)) (by omega)
theorem zJk(n)(h:1<n):hJk (cz n):=aeL (fun _ _=>rfl) (fun n h=>zCp n (by omega)) h
theorem zJb(n)(h:2<n):rQ (cz n):=agI (fun _ _=>rfl) (fun n h=>zJk n (by omega)) h
theorem zJi(n)(h:20000<n):hJi (cz n):=afY (fun _ _=>rfl) (fun n h=>zJb n (by omega)) h
theorem zJs(n)(h:10001<n):hJs (cz n):=aeW (fun _ _=>rfl) h
theorem zJr(n)(h:20000<n):vW (cz n):=afZ (fun _ _=>rfl) (fun n h=>zJs n (by omega)) h
theorem zJm:∀d n,20001+d<n->vX (cz n) d:=afo (fun _ _=>rfl) (fun n h=>zJb n h) (fun n h=>zJr n h)
theorem zJg(n)(h:31000<n):hJg (cz n):=afK (fun _ _=>rfl) (fun n h=>zJi n h) zJm h
theorem zJh(n)(h:31001<n):hJh (cz n):=afe (fun _ _=>rfl) (fun n h=>zJg n (by omega)) h
theorem zJf(n)(h:31001<n):vY (cz n):=⟨zZf n (by omega),zJh n h⟩
theorem zCj(n)(h:0<n):hCj (cz n):=afF (fun _ _=>rfl) h
theorem zCl(n)(h:30001<n):uH (cz n):=afn (fun _ _=>rfl) (fun n h=>zCj n (by omega)) h
theorem zCs(n)(h:0<n):hCs (cz n):=afH (fun _ _=>rfl) h
theorem zCm(n)(h:0<n):hCm (cz n):=agp (fun _ _=>rfl) h
theorem zCf(n)(h:10000<n):hCf (cz n):=afT (fun _ _=>rfl) (fun n h=>zCs n (by omega)) (fun n h=>zCm n (by omega)) h
theorem zCq(n)(h:10001<n):hCq (cz n):=afX (fun _ _=>rfl) (fun n h=>zCf n (by omega)) (fun n h=>zCp n (by omega)) (by omega)
theorem zCx(n)(h:40001<n):yX (cz n):=af6 (fun _ _=>rfl) (fun n h=>z16 n (by omega)) (fun n h=>zCl n (by omega)) (fun n h=>zCq n (by omega)) (by omega)
theorem zSz(n)(h:0<n):hSz (cz n):=afx (fun _ _=>rfl) h
theorem zOg(n)(h:42000<n):vS (cz n):=agA (fun _ _=>rfl) (fun _ _=>rfl) (fun n h=>z16 n h) (fun n h=>zWp n (by omega)) (fun n h=>zJf n h) (fun n h=>zCx n h) (fun n h=>zSz n h) (fun n h=>zWf n (by omega)) h
theorem zSf(n)(h:30001<n):vZ (cz n):=afc (fun _ _=>rfl) (fun n h=>z16 n (by omega)) h
theorem zMr(n)(h:0<n):hMr (cz n):=agD (fun _ _=>rfl) h
theorem zMz(n)(h:30001<n):wm (cz n):=agw (fun _ _=>rfl) (fun n h=>zMr n (by omega)) h
theorem zSg(n)(h:43000<n):hSg (cz n):=agu (fun _ _=>rfl) (fun n h=>zSf n (by omega)) (fun n h=>zOg n (by omega)) (fun n h=>zMz n (by omega)) h
theorem zNm(n)(h:0<n):nQ (cz n):=aeQ (fun _ _=>rfl) h
theorem zNn(n)(h:43000<n):hNn (cz n):=ae1 (fun _ _=>rfl) (fun n h=>z13 n (by omega)) (fun n h=>zOg n (by omega)) (fun n h=>zNm n (by omega)) h
theorem zNc(n)(h:43001<n):hNc (cz n):=aff (fun _ _=>rfl) (fun n h=>zNn n (by omega)) (fun n h=>zPN n (by omega)) h
theorem zHv(n)(h:5<n):hHv (cz n):=afs (fun _ _=>rfl) (fun n h=>zSq n (by omega)) (fun n h=>zZN n (by omega)) h
def aho:Plan:=⟨[0,1,2,3,4,5,6,7,8],[0,0,2,7,15,0,32,127,255]⟩
def hTh(call:AA):Prop:= ∀(F:List Sk.Id) (h0 h:AH) (R:List HE) (tr:Sk.Id) (kc:Gg) (fv:AV) (to:List Int) (f:Nat) (p:Pt),(fK fv ((lH f).map Ad))->(p.1<0->p.1= -1/\0<=p.2/\p.2<f)->(0<=p.1->p.1<to.length)->(Hb F h0 h (⟨tr,.cells (to.map Ad) 3,true⟩::R))->∃h',call (.func 31) [Am p,.hsl tr 0 to.length kc,fv] h=some (.ret (Am (jG to p)),h')/\Hb F h0 h' (⟨tr,.cells (to.map Ad) 3,true⟩::R)
theorem afy{hk:Ar}{n:Nat}(hno:NO hk 31)  (hn:0<n):hTh (EV hk n):=by
 intro F h0 h R tr kc fv to f p kE hp0 hp H
 obtain⟨n,rfl⟩:=Dz hn
 refine KR (tab:=fO) (D:=fun c=>True) hno Tryz.func31 rfl (by kernel_rfl) trivial fun call eu _ hrg Q hnone hQ=>?_
 have hfu:0<=n:=by omega
 refine H.xB fun i3 h H=>?_
 refine H.xA [.int .i64 0,.int .i64 0] fun i6 h H=>?_
 refine H.xL ?_
 conv=>arg 1;whnf
 cases e:decide (p.1<0)
 ·have e0:0<=p.1:=by simpa using e
  have e1:=hp e0
  have hm:jG to p=(to.getD p.1.toNat 0,p.2):=by unfold jG;rw[if_pos e0]
  rw[hm]at hQ
  have f1:(to.map Ad)[0+p.1.toNat*1]?=some (Ad (to.getD p.1.toNat 0)):=by
   rw[ajx,ajO,abG,aal,aaj (by omega)];rfl
  generalize to.getD p.1.toNat 0=d at *
  conv=>arg 1;whnf
  have hl:=H.ld (P:=Tryz.prog) (t:=3) (i:=tr) (T:=3) (w:=true) (by repeat(first|exact List.Mem.head _|refine List.Mem.tail _ ?_)) (by kernel_rfl) (by kernel_rfl) f1
  refine xR aho hnone hrg ?_
  refine H.xL ?_
  refine sH 1 e0 e1 ?_
  refine H.xL (hv:=f1) ?_
  refine H.xL ?_
  refine H.xJ fun h2 H2=>?_
  refine xO ?_
  conv=>arg 1;whnf
  exact Ac (Ab (.inl rfl) (Tv rfl (H2.oN (l:=[.int .i64 d,.int .i64 p.2]) (List.Mem.head _) (by kernel_rfl) (by kernel_rfl) (ajH rfl) rfl))) (hQ _ H2.tail.tail)
 ·obtain⟨a1,a2,a3⟩:=hp0 (by simpa using e)
  have hm:jG to p=(-1,p.2):=by unfold jG;rw[if_neg (by omega),<-a1]
  rw[hm]at hQ
  have f1:((lH f).map Ad)[p.2.toNat]?=some (Ad p.2):=by
   rw[abG,Dy (by simp[lH];omega),Y0 (by omega),show((p.2.toNat:Nat):Int)=p.2 by omega];rfl
  conv=>arg 1;whnf
  refine H.xL ?_
  refine sI kE (show p.2=((p.2.toNat:Nat):Int)by omega) f1 ?_
  refine H.xJ fun h H=>?_
  conv=>arg 1;whnf
  exact Ac (Ab (.inl rfl) (Tv rfl (H.oN (l:=[.int .i64 (-1),.int .i64 p.2]) (List.Mem.head _) (by kernel_rfl) (by kernel_rfl) (ajH rfl) rfl))) (hQ _ H.tail.tail)
theorem Jt{tm:List AV}{v0 v2 v3 v5 v8 v9 v10:AV}(hl:tm.length=76)(h0:tm[0]?=some v0)(h2:tm[2]?=some v2)(h3:tm[3]?=some v3)(h5:tm[5]?=some v5)(h8:tm[8]?=some v8)(h9:tm[9]?=some v9)(h10:tm[10]?=some v10):∃g:Nat->AV,tm=[v0,g 1,v2,v3,g 4,v5,g 6,g 7,v8,v9,v10,g 11,g 12,g 13,g 14,g 15,g 16,g 17,g 18,g 19,g 20,g 21,g 22,g 23,g 24,g 25,g 26,g 27,g 28,g 29,g 30,g 31,g 32,g 33,g 34,g 35,g 36,g 37,g 38,g 39,g 40,g 41,g 42,g 43,g 44,g 45,g 46,g 47,g 48,g 49,g 50,g 51,g 52,g 53,g 54,g 55,g 56,g 57,g 58,g 59,g 60,g 61,g 62,g 63,g 64,g 65,g 66,g 67,g 68,g 69,g 70,g 71,g 72,g 73,g 74,g 75]:=⟨fun i=>tm.getD i Aj,((((((((Kn.zero hl).put h0).put h2).put h3).put h5).put h8).put h9).put h10).eq.trans (by kernel_rfl)⟩
theorem Js{tm:List AV}{v0 v2 v3 v5 v8 v9 v11:AV}(hl:tm.length=76)(h0:tm[0]?=some v0)(h2:tm[2]?=some v2)(h3:tm[3]?=some v3)(h5:tm[5]?=some v5)(h8:tm[8]?=some v8)(h9:tm[9]?=some v9)(h11:tm[11]?=some v11):∃g:Nat->AV,tm=[v0,g 1,v2,v3,g 4,v5,g 6,g 7,v8,v9,g 10,v11,g 12,g 13,g 14,g 15,g 16,g 17,g 18,g 19,g 20,g 21,g 22,g 23,g 24,g 25,g 26,g 27,g 28,g 29,g 30,g 31,g 32,g 33,g 34,g 35,g 36,g 37,g 38,g 39,g 40,g 41,g 42,g 43,g 44,g 45,g 46,g 47,g 48,g 49,g 50,g 51,g 52,g 53,g 54,g 55,g 56,g 57,g 58,g 59,g 60,g 61,g 62,g 63,g 64,g 65,g 66,g 67,g 68,g 69,g 70,g 71,g 72,g 73,g 74,g 75]:=⟨fun i=>tm.getD i Aj,((((((((Kn.zero hl).put h0).put h2).put h3).put h5).put h8).put h9).put h11).eq.trans (by kernel_rfl)⟩
def MB(cells to:List Int):Nat->List Int
 |0=>List.replicate cells.length 0
 |i+1=>(MB cells to i).set (to.getD i 0).toNat (cells.getD i 0)
theorem Ov(cells to:List Int):∀i,(MB cells to i).length=cells.length
 |0=>aki
 |i+1=>by rw[MB,alp,Ov cells to i]
def WI(to:List Int)(w:Wr):Wr:=ou (jG to (wA w)) (jG to (wB w))
def FI(a:Nt)(to:List Int):Nt:=⟨MB a.cells to a.cells.length,a.free,a.wires.map (WI to)⟩
def adn(call:AA):Prop:= ∀(x w:AV) (s:List Ag) (nt:Nt) (r:Sk.Id) (k:Gg) (m:Nat) (h:AH),AR x s->fK w (nt.wires.map Az)->h.get r=some (.cells (nt.cells.map Ad) 3)->m=nt.cells.length->nt.wires.length<=1000000->(Ao s nt).1=0->
 call (.func 21) [x,.agg [.hsl r 0 m k,.int .i64 nt.free,w]] h=some (.ret (I5 (BA s nt)),h.set r .dead)
theorem aem:∀n:Nat,(List.replicate n (AV.int .i64 0)).flatMap AV.cells=(List.replicate n (0:Int)).map Ad
 |0=>rfl
 |n+1=>by rw[ak4,ak4,ajN,aem n];rfl
def ahc:Plan:=⟨[0,1,2,3,4,5,6,7,8],[0,1,0,4,12,28,63,0,255]⟩
def agW:Plan:=⟨[0,1,2,3,4,5,6,7,8,9,10,11,12],[0,1,0,0,12,28,0,64,0,448,960,2047,4095]⟩
def hMo(call:AA):Prop:= ∀(F:List Sk.Id) (h0 h:AH) (R:List HE) (x c w:AV) (s:List Ag) (a:Nt) (tr:Sk.Id) (kc:Gg) (fv:AV) (to:List Int),(AR x s)->(fQ s a)->(fK c (a.cells.map Ad))->(fK w (a.wires.map Az))->(fK fv ((lH a.free.toNat).map Ad))->(to.length=a.cells.length)->(∀i,i<a.cells.length->0<=to.getD i 0/\to.getD i 0<a.cells.length)->(a.wires.length<=30000)->((Ao s (FI a to)).1=0)->(Hb F h0 h (⟨tr,.cells (to.map Ad) 3,true⟩::R))->∃h',call (.func 8) [x,.agg [c,.int .i64 a.free,w],.hsl tr 0 to.length kc,fv] h=some (.ret (I5 (BA s (FI a to))),h')/\Hb F h0 h' (⟨tr,.cells (to.map Ad) 3,true⟩::R)
theorem aeD{hk:Ar}{n:Nat}(hno:NO hk 8)(dTh:UP hk 30000 hTh)(vB:UP hk 30000 adn)(hn:30001<n):hMo (EV hk n):=by
 intro F h0 h R x c w s a tr kc fv to hx ga hc hw kE hlt hto hV hck H
 obtain⟨n,rfl⟩:=Dz hn
 refine KR (tab:=fO) (D:=fun c=>hTh c/\adn c) hno Tryz.func8 rfl (by kernel_rfl) ⟨dTh n (by omega),vB n (by omega)⟩ fun call eu ⟨dTh,vB⟩ hrg Q hnone hQ=>?_
 have hfu:30001<=n:=by omega
 have sc:c.scalar=true:=Af hc
 have rM:w.scalar=true:=Af hw
 have hcl:=ga.cl
 refine H.xB (hs:=by simp only[adP,sc,rM];rfl) fun i5 h H=>?_
 refine H.xA [.aj,.int .i64 0,.aj] fun i8 h H=>?_
 conv=>arg 1;whnf
 refine xR ahc hnone hrg ?_
 refine H.xL ?_
 refine H.xL ?_
 refine sN hc ?_
 refine H.xWz 3 (.int .i64 0) 1 (a.cells.map Ad).length (by rw[aaq];omega) (fun ri h2 e1 e2 H2=>?_)
 conv=>arg 1;whnf
 simp only[e1,e2]
 refine H2.xW (.cells [.aj,.int .i64 0,.aj] 26) fun i9 h3 e3 e4 H3=>?_
 conv=>arg 1;whnf
 simp only[e3,e4]
 refine H3.xJ fun h4 H4=>?_
 have n1:=H2.neN e3 ri
 refine xO ?_
 clear n1 H H2 H3 e1 e2 e3 e4
 rw[aaq]at H4 ⊢
 have hz:=aem a.cells.length
 rw[show List.replicate a.cells.length (0:Int)=MB a.cells to 0 from rfl]at hz
 refine rounds (fun(i:Nat) tm h=>tm.length=76/\tm[0]?=some x/\tm[2]?=some (.hsl tr 0 to.length kc)/\tm[3]?=some fv/\tm[5]?=some (.ptr i5 0)/\tm[8]?=some (.ptr i8 0)/\tm[9]?=some (.ptr i9 0)/\tm[10]?=some (.int .i64 i)/\i<=a.cells.length/\
  Hb F h0 h (⟨i9,.cells [.hsl ri 0 a.cells.length (.known a.cells.length),.int .i64 a.free,.aj] 26,true⟩::⟨ri,.cells ((MB a.cells to i).map Ad) 3,true⟩::⟨i8,.cells [.aj,.int .i64 0,.aj] 26,true⟩::⟨i5,.cells [c,.int .i64 a.free,w] 26,true⟩::⟨tr,.cells (to.map Ad) 3,true⟩::R)) (fun i=>a.cells.length - i) (s0:=0) ?_ ?_ ?_
 ·refine⟨rfl,rfl,rfl,rfl,rfl,rfl,rfl,rfl,ajy _,?_⟩
  rw[<-hz];exact H4
 ·show a.cells.length - 0<n;omega
 clear H4
 rintro m' i tm h ⟨hl2,t0,t2,t3,t5,t8,t9,t10,hi,H⟩ hm ih
 obtain⟨g_,rfl⟩:=Jt hl2 t0 t2 t3 t5 t8 t9 t10
 clear hl2 t0 t2 t3 t5 t8 t9 t10
 refine H.xL ?_
 refine sN hc ?_
 rw[aaq]
 conv=>arg 1;whnf
 split
 ·rename_i hd
  have hlt2:i<a.cells.length:=by simp at hd;omega
  have f0:(0:Int)<=(i:Int):=by omega
  have f1:(i:Int)<(to.length:Int):=by omega
  have f2:(to.map Ad)[0+(i:Int).toNat*1]?=some (Ad (to.getD i 0)):=by
   rw[ajx,ajO,ace,abG,aal,aaj (by omega)];rfl
  have g2:(a.cells.map Ad)[i]?=some (Ad (a.cells.getD i 0)):=by
   rw[abG,aal,aaj hlt2];rfl
  obtain⟨d0,d1⟩:=hto i hlt2
  have em:MB a.cells to (i+1)=(MB a.cells to i).set (to.getD i 0).toNat (a.cells.getD i 0):=rfl
  have ml:=Ov a.cells to i
  generalize to.getD i 0=d at *
  generalize a.cells.getD i 0=u at *
  have z2:0+d.toNat*1+1<=((MB a.cells to i).map Ad).length:=by rw[aaq,ml];omega
  have z3:((MB a.cells to i).map Ad).set (0+d.toNat*1) (.int .i64 u)=(MB a.cells to (i+1)).map Ad:=by
   rw[em,aks,ajx,ajO];rfl
  have hl:=H.ld (P:=Tryz.prog) (t:=3) (i:=tr) (T:=3) (w:=true) (by repeat(first|exact List.Mem.head _|refine List.Mem.tail _ ?_)) (by kernel_rfl) (by kernel_rfl) f2
  refine xR agW hnone hrg ?_
  refine H.xL ?_
  refine sH 1 f0 f1 ?_
  refine H.xL (hv:=f2) ?_
  refine H.xL ?_
  refine sI hc rfl g2 ?_
  refine sH 1 d0 d1 ?_
  refine H.xV rfl rfl (fun h2 H2=>?_) (ho:=z2) (hc:=z3)
  refine xO ?_
  conv=>arg 1;whnf
  exact ih (i+1) _ _ ⟨rfl,rfl,rfl,rfl,rfl,rfl,rfl,sw (by omega),by omega,H2⟩ (by omega)
 rename_i hd
 have hge:i=a.cells.length:=by simp at hd;omega
 rw[hge]at H
 clear hd ih hm
 conv=>arg 1;whnf
 have hcM:MB a.cells to a.cells.length=(FI a to).cells:=rfl
 rw[hcM]at H
 refine rounds (fun(i:Nat) tm h=>tm.length=76/\tm[0]?=some x/\tm[2]?=some (.hsl tr 0 to.length kc)/\tm[3]?=some fv/\tm[5]?=some (.ptr i5 0)/\tm[8]?=some (.ptr i8 0)/\tm[9]?=some (.ptr i9 0)/\tm[11]?=some (.int .i64 i)/\i<=a.wires.length/\
  ∃wl G,eY wl (((a.wires.take i).map (WI to)).map Az) G/\Hb F h0 h (⟨i9,.cells [.hsl ri 0 a.cells.length (.known a.cells.length),.int .i64 a.free,wl] 26,true⟩::⟨ri,.cells ((FI a to).cells.map Ad) 3,true⟩::⟨i8,.cells [.aj,.int .i64 0,.aj] 26,true⟩::⟨i5,.cells [c,.int .i64 a.free,w] 26,true⟩::⟨tr,.cells (to.map Ad) 3,true⟩::(G++R))) (fun i=>a.wires.length - i) (s0:=0) ?_ ?_ ?_
 ·exact⟨rfl,rfl,rfl,rfl,rfl,rfl,rfl,rfl,ajy _,.aj,[],eY.nil,H⟩
 ·show a.wires.length - 0<n;omega
 clear H hi
 rintro m' i tm h ⟨hl2,t0,t2,t3,t5,t8,t9,t11,hi,wl,G,hG,H⟩ hm ih
 obtain⟨g_,rfl⟩:=Js hl2 t0 t2 t3 t5 t8 t9 t11
 clear hl2 t0 t2 t3 t5 t8 t9 t11
 refine H.xL ?_
 refine sN hw ?_
 rw[aaq]
 conv=>arg 1;whnf
 split
 ·rename_i hd
  have hlt2:i<a.wires.length:=by simp at hd;omega
  have g1:a.wires[i]?=some a.wires[i]:=aaj hlt2
  have hme:=gP (akv hlt2)
  have et:((a.wires.take (i+1)).map (WI to))=((a.wires.take i).map (WI to))++[WI to a.wires[i]]:=by rw[aj8,g1,ajC];rfl
  have gl:((a.wires.take i).map (WI to)).length<=1000000000:=by rw[aaq,ajE];omega
  generalize a.wires[i]=wr at *
  have g2:(a.wires.map Az)[i]?=some (Az wr):=by rw[abG,g1];rfl
  have pm:=fun p hp=>BH.1 (ga.ip p hp)
  have hn:∀p,p∈ends a.wires->p.1<0->p.1= -1/\0<=p.2/\p.2<(a.free.toNat:Nat):=fun p hp h=>by
   obtain⟨z1,z2,z3⟩:=EK (pm p hp) h
   exact⟨z1,z2,by omega⟩
  have hp:∀p,p∈ends a.wires->0<=p.1->p.1<to.length:=fun p hp h=>by
   have:=(AY (pm p hp) h).1;omega
  refine H.xL ?_
  refine sI hw rfl g2 ?_
  obtain⟨h1,q1,H1⟩:=dTh F h0 h _ tr kc fv to a.free.toNat (wA wr) kE (hn _ hme.1) (hp _ hme.1) (H.pu tr)
  obtain⟨pA,hA⟩:∃p,jG to (wA wr)=p:=⟨_,rfl⟩
  obtain⟨pB,hB⟩:∃p,jG to (wB wr)=p:=⟨_,rfl⟩
  have eW:WI to wr=ou pA pB:=by unfold WI;rw[hA,hB]
  rw[hA]at q1
  obtain⟨sU,uO⟩:=pA
  obtain⟨sV,uP⟩:=pB
  refine sC q1 ?_
  clear H
  refine H1.xA [.int .i64 0,.int .i64 0] fun i12 h2 H=>?_
  refine H.xJ (v:=Am (sU,uO)) fun h2 H=>?_
  refine H.xL ?_
  refine sI hw rfl g2 ?_
  obtain⟨h3,q3,H3⟩:=dTh F h0 h2 _ tr kc fv to a.free.toNat (wB wr) kE (hn _ hme.2) (hp _ hme.2) (H.pu tr)
  rw[hB]at q3
  refine sC q3 ?_
  clear H
  refine H3.xA [.int .i64 0,.int .i64 0] fun i13 h4 H=>?_
  refine H.xJ (v:=Am (sV,uP)) fun h4 H=>?_
  refine H.xL ?_
  refine H.xM 2 ?_
  refine H.xM 2 ?_
  refine H.xG hG (sU,uO,sV,uP) gl fun wl2 h5 G2 hG2 H5=>?_
  refine H5.xV hG2.cells hG2.scalar fun h6 H6=>?_
  conv=>arg 1;whnf
  refine ih (i+1) _ _ ⟨rfl,rfl,rfl,rfl,rfl,rfl,rfl,sw (by omega),by omega,wl2,G2,by rw[et,eW];exact hG2,(((((H6.pu tr).pu i5).pu i8).pu ri).pu i9).sb⟩ (by omega)
 rename_i hd
 have aiY:i=a.wires.length:=by simp at hd;omega
 rw[aiY,akw]at hG
 have hG':fK wl ((FI a to).wires.map Az):=hG.il
 have q:=vB x wl s (FI a to) ri (.known a.cells.length) a.cells.length h hx hG' (H.get (.tail _ (.head _))) (Ov _ _ _).symm (by show(a.wires.map _).length<=_;rw[aaq];omega) hck
 have H2:=H.set (i:=ri) (o':= .dead) (.there _ (.here _))
 have ec:=CV (enc:=Ad) (BA s (FI a to)).cells
 have ew:=CV (enc:=Az) (BA s (FI a to)).wires
 unfold I5 at q hQ
 generalize fJ Ad (BA s (FI a to)).cells=cv at *
 generalize fJ Az (BA s (FI a to)).wires=wv at *
 have s1:=Af ec
 have s2:=Af ew
 refine H.xM 3 ?_
 refine sC q ?_
 generalize h.set ri .dead=h5 at H2 ⊢
 refine H2.xJ (fun h6 H6=>?_) (hs:=by simp only[AV.cells,ajN,List.flatMap_nil,Dp ec,Dp ew,ajP,adP,acW,adk,s1,s2];rfl)
 conv=>arg 1;whnf
 exact Ac (Ab (.inl rfl) (Tv rfl (H6.oN (l:=[cv,.int .i64 (BA s (FI a to)).free,wv]) (.tail _ (.tail _ (List.Mem.head _))) (by kernel_rfl) (by kernel_rfl) (ajH rfl) rfl))) (hQ _ (H6.pu tr).sb)
theorem Ya{hk:Ar}{f:FuncId}{s:List AV->Option AV}{args:List AV}{h:AH}{r:Sk.Id}{cs:List AV}{T:TypeId}(e1:args.findSome? Yd=some r)(e2:h.get r=some (.cells cs T))(e3:cs.all Sc=true)(e4:(args.map (lN r cs)).findSome? Yd=none):Kv hk f s f args h=Bb hk f s f (args.map (lN r cs)) (h.set r .dead):=by
 unfold Kv
 rw[if_pos rfl]
 simp only[Kc,e1,e2,e3,e4,if_true]
theorem afp{x:AV}{l cs:List AV}{r:Sk.Id}(h:fK x l):lM r cs x=x:=by rcases h with⟨rfl,_⟩|⟨c,rfl⟩<;>rfl
theorem afB{x:AV}{l cs:List AV}{r:Sk.Id}(h:fK x l):lN r cs x=x:=by rcases h with⟨rfl,_⟩|⟨c,rfl⟩<;>rfl
theorem ab6{r:Sk.Id}{cs:List AV}{m:Nat}{k:Gg}(hm:cs.length=m):lM r cs (.hsl r 0 m k)= .fC cs .unk:=by
 show(if r=r/\cs.length=m then AV.fC cs .unk else .hsl r 0 m k)=_
 rw[if_pos ⟨rfl,hm⟩]
theorem acw(l:List Int):(l.map Ad).all Sc=true:=by simp[Ad,Sc]
theorem adx{hk hk0:Ar}{n:Nat}(hk':∀args h,hk 21 args h=Kv hk0 21 yG 21 args h)(hn:0<n):adn (Ah (Ak Tryz.prog eO hk) n):=fun x w s nt r k m h hx hw hg hm hl ok=>by
 have hv:Dc (.agg [.fC (nt.cells.map Ad) .unk,.int .i64 nt.free,w]) nt:=⟨_,w,rfl,.inr ⟨_,rfl⟩,hw⟩
 have e1:[x,.agg [.hsl r 0 m k,.int .i64 nt.free,w]].findSome? Yd=some r:=by
  simp only[List.findSome?_cons,abZ hx];rfl
 have e5:[x,.agg [.hsl r 0 m k,.int .i64 nt.free,w]].map (lN r (nt.cells.map Ad))=[x,.agg [.fC (nt.cells.map Ad) .unk,.int .i64 nt.free,w]]:=by
  simp only[aju,akz,afB hx]
  show[x,AV.agg ([.hsl r 0 m k,.int .i64 nt.free,w].map (lM r (nt.cells.map Ad)))]=_
  simp only[aju,akz,afp hw,ab6 (show(nt.cells.map Ad).length=m by rw[aaq,hm])];rfl
 refine Dr ?_ hn
 rw[hk',Ya e1 hg (acw _) (by rw[e5];exact abn hx hv),e5]
 refine CX (by simp[BJ,CZ hx,Fb hv]) ?_
 show(match Dn (Bc x),En (Bc (.agg [.fC (nt.cells.map Ad) .unk,.int .i64 nt.free,w]))with|some s,some n=>if n.wires.length<=1000000/\(Ao s n).1=0 then some (I5 (BA s n))else none|_,_=>none)=_
 rw[C9 hx,EZ hv];simp only[if_pos (And.intro hl ok)]
theorem ahU(n)(h:0<n):adn (cz n):=adx (hk0:=hz3) (fun _ _=>rfl) h
theorem zTh(n)(h:0<n):hTh (cz n):=afy (fun _ _=>rfl) h
theorem zMo(n)(h:30001<n):hMo (cz n):=aeD (fun _ _=>rfl) (fun n h=>zTh n (by omega)) (fun n h=>ahU n (by omega)) h
def hMs(call:AA):Prop:= ∀(F:List Sk.Id) (h0 h:AH) (R:List HE) (x c c' w w':AV) (s:List Ag) (a b:Nt) (tv:AV) (to:List Int),(AR x s)->(fK c (a.cells.map Ad))->(fK c' (b.cells.map Ad))->(fK w (a.wires.map Az))->(fK w' (b.wires.map Az))->((Ao s a).1=0)->((Ao s b).1=0)->(a.wires.length<=30000)->(b.wires.length<=30000)->(a.free=b.free)->(a.cells.length=b.cells.length)->(to.length=a.cells.length)->(SR tv to R)->(Hb F h0 h R)->∃h',call (.func 9) [x,.agg [c,.int .i64 a.free,w],.agg [c',.int .i64 b.free,w'],tv] h=some (.ret (.fD [.bool (II a b to),.int .i64 0]),h')/\Hb F h0 h' R
theorem afD{hk:Ar}{n:Nat}(hno:NO hk 9)(vo:UP hk 42999 vZ)(vv:UP hk 42999 wm)(hn:43000<n):hMs (EV hk n):=by
 intro F h0 h R x c c' w w' s a b tv to hx hc hc' hw hw' ok ok' hV hW hf hlc hlt hT H
 obtain⟨n,rfl⟩:=Dz hn
 refine KR (tab:=fO) (D:=fun c=>vZ c/\wm c) hno Tryz.func9 rfl (by kernel_rfl) ⟨vo n (by omega),vv n (by omega)⟩ fun call eu ⟨vo,vv⟩ hrg Q hnone hQ=>?_
 have hfu:43000<=n:=by omega
 have sc:c.scalar=true:=Af hc
 have sc':c'.scalar=true:=Af hc'
 have rM:w.scalar=true:=Af hw
 have rG:w'.scalar=true:=Af hw'
 have ga:=Cn ok
 have gb:=Cn ok'
 refine H.xB (hs:=by simp only[adP,sc,rM];rfl) fun i5 h H=>?_
 refine H.xB (hs:=by simp only[adP,sc',rG];rfl) fun i6 h H=>?_
 refine H.xM 3 ?_
 refine H.xM 3 ?_
 obtain⟨h1,q1,H1⟩:=vo F h0 h _ x c w c' w' s a b hx hc hw hc' hw' ok ok' hV hW H
 clear H
 refine sC q1 ?_
 conv=>arg 1;whnf
 refine H1.xM 3 ?_
 refine H1.xM 3 ?_
 obtain⟨h2,q2,H2⟩:=vv F h0 h1 (_::_::R) c c' w w' s a b tv to ga gb hf hlc hlt hc hc' hw hw' hV hW (hT.mono fun e he=> .tail _ (.tail _ he)) H1
 refine sC q2 ?_
 conv=>arg 1;whnf
 exact Ac (Ab (.inl rfl) rfl) (hQ _ H2.tail.tail)
end Go.Proofs.Nt
namespace Go.Sk
open Go.Proofs Go.Proofs.Nt
section
variable{α:Type}{k kp:AV->AH->Option α}{Q:Option α->Prop}{F:List Sk.Id}{h0 h:AH}{L:List HE}{x:Option α}
theorem Hb.xGr(H:Hb F h0 h L){l:List Int}{X:Cx}{t:TypeId}{r:Sk.Id}{kc:Gg}{T:TypeId}{w:Bool}(hm:(⟨r,.cells (l.map Ad) T,w⟩:HE)∈L)(hb:l.length<=1000000000)
  (y:∀l' h' G',iI Ad l' l->Hb F h0 h' (G'++L)->Q (k l' h')) (e:x=fq k kp (Bh X false .append #[t,t] [.aj,.hsl r 0 l.length kc] h):=by(conv=>lhs;whnf);try rfl) (u:Qj X.P t 1=true:=by kernel_rfl)
  (u1:X.P.underlying t=some (.slice 3):=by kernel_rfl) (u2:Ez X.P 3=some false:=by kernel_rfl):Q x:=by
 obtain⟨el,z,u,hn,hz,hn0,hbs,hzn,hzs⟩:=IQ u
 obtain rfl:3=el:=by rw[u1]at u;simpa using u
 have hhead:∀cs:List Int,Ba 1 (cs.map Ad)=true:=fun cs=>by cases cs<;>rfl
 have hx:CQ X.P 3 (.hsl r 0 l.length kc) h=some (l.map Ad):=by
  simp only[CQ,H.get hm,u2,hn]
  rw[if_pos (by rw[aaq];omega),aj6,ajQ (by rw[aaq];omega)]
 rw[e]
 by_cases hbe:l=[]
 ·subst hbe
  rw[akz]at hx
  have ha:AX X.P false #[t,t] .aj (.hsl r 0 ([]:List Int).length kc) h=some (.aj,h):=by
   unfold AX
   simp only[show(#[t,t]:Array TypeId)[0]?=some t from rfl,show(#[t,t]:Array TypeId)[1]?=some t from rfl,u,hx,hn,hz]
   rw[if_neg (by simp[Ba,hzn,hzs])]
   simp
  exact Aa (h:=h) (v:= .aj) (by show CS (AX X.P false #[t,t] .aj _ h)=_;rw[ha];rfl) (y .aj h [] (.inl ⟨rfl,rfl⟩) H)
 ·have hbb:(0+l.length)*X.P.bytesOf 3<=140737488355328:=aj3 (ald (by omega:0+l.length<=1000000000) hbs) (by decide)
  obtain⟨l',h',G',q1,q2,q3,_⟩:=Hb.app (P:=X.P) (types:= #[t,t]) (d:= .slice 3) (ys:=l.map Ad) (xs:=[]) (G:=[]) (x:= .hsl r 0 l.length kc) H eY.nil rfl rfl u u (fun k=>by simp) hx hn hz (by omega) hzn hzs (by simpa using hbe) (hhead _) rfl (by rw[aaq];exact hbb) (by rw[aaq];simp;omega)
  exact Aa (h:=h') (v:=l') q1 (y _ _ _ (iI.gr (by rw[adk]at q2;exact q2) hbe) q3)
end
def hCR(call:AA):Prop:= ∀(F:List Sk.Id) (h0 h:AH) (R:List HE) (r:Sk.Id) (kc:Gg) (T:TypeId) (w:Bool) (l:List Int),(⟨r,.cells (l.map Ad) T,w⟩:HE)∈R->l.length<=1000000000->Hb F h0 h R->∃h' v,call (.func 12) [.hsl r 0 l.length kc] h=some (.ret v,h')/\iI Ad v l/\Hb F h0 h' R
theorem af4{hk:Ar}{n:Nat}(hno:∀r m k h,hk 12 [.hsl r 0 m k] h=none)(hn:0<n):hCR (EV hk n):=by
 intro F h0 h R r kc T w l hm hb H
 obtain⟨n,rfl⟩:=Dz hn
 obtain⟨h',v,e,q⟩:∃h' v,B fO (EV hk n) (rg Tryz.prog eO hk n 12) n 12 Tryz.f12 [.hsl r 0 l.length kc] h=some (.ret v,h')/\(iI Ad v l/\Hb F h0 h' R):=by
  suffices hq:∀Q:Option (Aq × AH)->Prop,¬Q none->(∀h' v,iI Ad v l/\Hb F h0 h' R->Q (some (.ret v,h')))->Q (B fO (EV hk n) (rg Tryz.prog eO hk n 12) n 12 Tryz.f12 [.hsl r 0 l.length kc] h)from
   hq (fun y=> ∃h' v,y=some (.ret v,h')/\(iI Ad v l/\Hb F h0 h' R)) (by rintro⟨_,_,h,_⟩;cases h) fun h' v q=>⟨h',v,rfl,q⟩
  intro Q hnone hQ
  refine H.xGr hm hb fun l' h1 G nl H1=>?_
  conv=>arg 1;whnf
  rcases id nl with⟨rfl,e0⟩|⟨c,rfl,e0⟩<;>exact Ac (Ab (.inl rfl) rfl) (hQ _ _ ⟨nl,H1.drop⟩)
 exact⟨h',v,AJ fO (hno ..) Tryz.func12 rfl (by kernel_rfl) e,q⟩
end Go.Sk
namespace Go.Proofs.Nt
open Go.Sk
theorem X6{L:List Nat}{n:Nat}(h:L.length<n):∃p,p<n/\p ∉ L:=by
 refine ale fun hc=>?_
 have hs:∀p,p∈List.range n->p∈L:=fun p hp=>ale fun hm=>hc ⟨p,ajD.1 hp,hm⟩
 have:=List.Nodup.length_le_of_subset List.nodup_range hs
 rw[akG]at this
 omega
def RN(n p a:Nat):Nat:=if a<=p then p - a else p+n - a
theorem YS{n p a:Nat}(ha:a<n)(hp:p<n)(hne:a≠p):RN n p ((a+1) % n)<RN n p a:=by
 unfold RN
 by_cases h:a+1=n
 ·rw[h,Nat.mod_self]
  by_cases h2:a<=p
  ·omega
  ·rw[if_neg h2,if_pos (ajy _)];omega
 ·rw[Nat.mod_eq_of_lt (by omega)]
  split<;>split<;>omega
theorem aa6{n p a:Nat}(ha:a<n)(hp:p<n):RN n p a<n:=by
 unfold RN;split<;>omega
def gU(n:Nat)(L:List Nat):List Int:=(L.map fun(k:Nat)=>(k:Int))++List.replicate (n - L.length) 0
def oC(n:Nat)(L:List Nat):List Bool:=(List.range n).map fun p=>decide (p∈L)
theorem QH{n:Nat}{L:List Nat}(h:L.length<=n):(gU n L).length=n:=by simp[gU];omega
theorem QG(n:Nat)(L:List Nat):(oC n L).length=n:=by simp[oC]
theorem XQ{n:Nat}{L:List Nat}{p:Nat}(h:p<n):(oC n L)[p]?=some (decide (p∈L)):=by simp[oC,h]
theorem abY(n:Nat):gU n []=List.replicate n 0:=by simp[gU]
theorem acL(n:Nat):oC n []=List.replicate n false:=by
 apply List.ext_getElem<;>simp[oC]
theorem ac3{n:Nat}{L:List Nat}{p:Nat}(h:L.length<n):(gU n L).set L.length (p:Int)=gU n (L++[p]):=by
 unfold gU
 rw[akt _ _ (by simp),aaq,alg,show n - L.length=(n - (L++[p]).length)+1 by simp;omega,ak4]
 simp
theorem adj{n:Nat}{L:List Nat}{p:Nat}(h:p<n):(oC n L).set p true=oC n (L++[p]):=by
 apply aj7
 intro q
 rw[ajZ]
 by_cases hq:q<n
 ·rw[XQ hq,XQ hq,QG]
  by_cases e:p=q
  ·subst e;simp[hq]
  ·rw[if_neg e];simp[acS,alv e]
 ·have h1:(oC n L)[q]?=none:=by rw[acD];rw[QG];omega
  have h2:(oC n (L++[p]))[q]?=none:=by rw[acD];rw[QG];omega
  rw[h1,h2,if_neg (by omega)]
theorem Rb{n:Nat}{L:List Nat}(h:L.length=n):gU n L=L.map fun(k:Nat)=>(k:Int):=by simp[gU,h]
theorem XG{cells to:List Int}(h:to.length=cells.length):∀i,MB cells to i=ji to cells i
 |0=>by rw[MB,ji,h]
 |i+1=>by rw[MB,ji,XG h i]
theorem abH{a:Nt}{L:List Nat}(hn:L.Nodup)(hl:L.length=a.cells.length)(hlt:∀p∈L,p<a.cells.length) :
  jh a (FI a (gU a.cells.length L)) fun c=>(gU a.cells.length L).getD c.toNat 0:=by
 have e:gU a.cells.length L=L.map fun(k:Nat)=>(k:Int):=Rb hl
 have tl:(gU a.cells.length L).length=a.cells.length:=QH (by omega)
 have tn:(gU a.cells.length L).Nodup:=by
  rw[e];exact(List.Pairwise.map _ (fun x y h k=>h (by omega)) hn)
 have tr:∀c∈gU a.cells.length L,0<=c/\c<(gU a.cells.length L).length:=fun c hc=>by
  rw[tl];rw[e]at hc
  obtain⟨k,hk,rfl⟩:=ajA.1 hc
  have:=hlt k hk;omega
 have at1:∀c:Int,0<=c->c<a.cells.length->(gU a.cells.length L)[c.toNat]?=some ((gU a.cells.length L).getD c.toNat 0):=fun c c0 c1=>Dy (by omega)
 generalize gU a.cells.length L=to at *
 exact{
  fr:=rfl
  len:=(Ov _ _ _).symm
  rg:=fun c c0 c1=>by have:=tr _ (acg (at1 c c0 c1));omega
  inj:=fun c d c0 c1 d0 d1 h=>by
   have hc:=at1 c c0 c1
   have hd:=at1 d d0 d1
   rw[h]at hc
   have:=(List.getElem?_inj (by omega:c.toNat<to.length) tn).1 (hc.trans hd.symm)
   omega
  ag:=fun c c0 c1=>by
   show(MB a.cells to a.cells.length).getD _ 0=_
   rw[XG tl,<-tl]
   exact O3 tn tr _ (acu _) _ (by omega)
  wr:=rfl }
section
variable{s:List Ag}{a b:Nt}
theorem acZ(ga:fQ s a){L:List Nat}(hn:L.Nodup)(hl:L.length=a.cells.length)(hlt:∀p∈L,p<a.cells.length) :
  fQ s (FI a (gU a.cells.length L))/\fQ s (BA s (FI a (gU a.cells.length L)))/\iA s a (BA s (FI a (gU a.cells.length L))) fun c=>(gU a.cells.length L).getD c.toNat 0:=by
 obtain⟨g1,I⟩:=(abH hn hl hlt).yx ga
 exact⟨g1,g1.tidy.1,I.trans ga (Xl g1)⟩
theorem LH(ga:fQ s a)(gb:fQ s b):(DC s a b).isSome=true ↔ ∃f,iA s a b f:=by
 constructor
 ·intro h
  cases e:DC s a b with
  |none=>rw[e]at h;cases h
  |some to=>exact⟨_,(Ol ga gb e).1⟩
 ·rintro⟨f,I⟩
  rw[UG ga gb I];rfl
theorem Ut(ga:fQ s a)(gb:fQ s b):(DC s a b).isSome=(DC s b a).isSome:=by
 have h1:(DC s a b).isSome=true ↔ (DC s b a).isSome=true:=by
  rw[LH ga gb,LH gb ga]
  exact⟨fun⟨f,I⟩=>(I.symm ga gb).imp fun _ h=>h.1,fun⟨f,I⟩=>(I.symm gb ga).imp fun _ h=>h.1⟩
 cases e1:(DC s a b).isSome<;>cases e2:(DC s b a).isSome<;>simp_all
theorem Qi(ga:fQ s a)(gb:fQ s b):(DC s a b).isSome=decide (IV s a=IV s b):=by
 have h1:(DC s a b).isSome=true ↔ IV s a=IV s b:=by
  rw[LH ga gb,X0 ga gb]
  exact⟨fun⟨f,I⟩=>Vd ga gb I,fun h=>Vi ga gb h⟩
 cases e1:(DC s a b).isSome
 ·exact(decide_eq_false fun h=>by rw[h1.2 h]at e1;cases e1).symm
 ·exact(decide_eq_true (h1.1 e1)).symm
theorem ZT(ga:fQ s a)(gb:fQ s b){l:List Int}(h:DC s a b=some l):II a b l=true:=by
 obtain⟨I,hl⟩:=Ol ga gb h
 exact Oa ga gb hl I
theorem adK{c:Nt}(ga:fQ s a)(gb:fQ s b)(gc:fQ s c){to l:List Int}(ht:to.length=a.cells.length)(hn:to.Nodup)(hr:∀x∈to,0<=x/\x<to.length)(I:iA s a c fun x=>to.getD x.toNat 0)(h:DC s a b=some l):II c b (ji to l a.cells.length)=true:=by
 obtain⟨J,hl⟩:=Ol ga gb h
 obtain⟨g,K,k1,k2⟩:=I.symm ga gc
 have hlen:=I.len
 refine Oa gc gb (by rw[GH];omega) ((K.trans gc J).congr gc fun x x0 x1=>?_)
 have r:=K.rg x x0 x1
 have e:=k2 x x0 (by omega)
 have:=O3 (l:=l) hn hr to.length (acu _) (g x).toNat (by omega)
 rw[<-ht]
 rw[e]at this
 exact this
end
theorem ahB{oa ob:Operand}(A N:Int)(hN:N≠0)(h:AH):fF h (FH Tryz.prog .rem 3 oa ob (.int .i64 A) (.int .i64 N))=some (.ret (.int .i64 (A.tmod N)),h):=by
 have e:FH Tryz.prog .rem 3 oa ob (.int .i64 A) (.int .i64 N)=(if N=0 then none else some (.int .i64 (A.tmod N))):=by kernel_rfl
 rw[e,if_neg hN];rfl
theorem ZH{α:Type}{Q:Option α->Prop}{k kp:AV->AH->Option α}{r:Option (Aq × AH)}{v:AV}{h:AH}{x:Option α}(hr:r=some (.ret v,h))(hy:Q (k v h))(e:x=Db k kp r:=by(conv=>lhs;whnf);rfl):Q x:=by
 rw[e,hr];show Q (Sm v fun v=>k v h);rw[DW];exact hy
theorem ad6(a n:Nat):(a:Int).tmod (n:Int)=((a % n:Nat):Int):=rfl
def aeX:Plan:=⟨[0,2,4,6,1,3,5,7,8,9,10,11,12,13],[0,1,0,7,0,31,0,127,255,511,1023,1023,2047,8191]⟩
def aeu:Plan:=⟨[0,2,4,1,3,5,6,7,8,9,10,11,12,13],[0,1,0,7,0,31,63,127,255,255,255,511,3071,8191]⟩
def agk:Plan:=⟨[0,2,4,1,3,5,6,7,8,9,10,11,12,13],[0,1,0,7,0,31,63,127,255,255,255,511,3071,8191]⟩
def abt:Plan:=⟨[0,2,4,1,3,5,6,7,8,9,10,11,12,13],[0,1,0,7,0,31,63,127,255,255,255,511,3071,8191]⟩
def aa5:Plan:=⟨[0,2,1,3,4,5,6,7,8,9],[0,1,0,7,15,31,63,63,127,511]⟩
def acy:Plan:=⟨[0,2,1,3,4,5,6,7,8,9],[0,1,0,7,15,31,63,63,127,511]⟩
def agF:Plan:=⟨[0,2,4,6,1,3,5,7,8,9,10,11,12],[0,1,0,7,0,31,0,127,255,511,1023,1023,2047]⟩
def afS:Plan:=⟨[0,1,2,3,4,5,6,7,8,9,10],[0,0,0,6,14,0,0,96,224,511,1023]⟩
def aft:Plan:=⟨[0,2,4,6,1,3,5,7,8,9,10,11],[0,1,0,7,0,31,0,127,255,511,511,1023]⟩
theorem Kn.ex{tm:List AV}{N:Nat}(h:tm.length=N):∃g:Nat->AV,Kn tm N g:=⟨_,Kn.zero h⟩
theorem ae2{n:Nat}{L:List Nat}(hn:L.Nodup)(hl:L.length=n):(gU n L).Nodup:=by
 rw[Rb hl];exact(List.Pairwise.map _ (fun x y h k=>h (by omega)) hn)
theorem abq{n:Nat}{L:List Nat}(hl:L.length=n)(hlt:∀p∈L,p<n):∀c∈gU n L,0<=c/\c<(gU n L).length:=fun c hc=>by
 rw[QH (by omega)];rw[Rb hl]at hc
 obtain⟨k,hk,rfl⟩:=ajA.1 hc
 have:=hlt k hk;omega
def zn(z:UInt8):AV:= .int .u8 z.toNat
set_option maxRecDepth 60000 in
theorem bSb(call eu n)(x c w c' w' bv:AV)(s:List Ag)(a b:Nt)(bs:List UInt8)(hx:AR x s)(hc:fK c (a.cells.map Ad))(hw:fK w (a.wires.map Az))(hc':fK c' (b.cells.map Ad))(hw':fK w' (b.wires.map Az))(hbv:fK bv (bs.map zn))(l0:s.length<=4611686018427387904)(hnm:∀g∈s,g.1.length<=1152921504606846976)(l1:a.cells.length<=1152921504606846976)(l2:a.wires.length<=1152921504606846976)(l1':b.cells.length<=1152921504606846976)(l2':b.wires.length<=1152921504606846976)
  (dK3:hK3 call) (dHv:hHv call) (wu:∀h,call (.func 7) [] h=some (.ret (.bool true),h)) (dCA:hCA call) (dCN:wM call) (dMo:hMo call) (dMs:hMs call) (dCR:hCR call) (dSg:hSg call) (dNc:hNc call) (hrg:∀id ops st,eu id ops st=drawn ⟨Tryz.prog,eO,call⟩ 3 ops st) (hn:100000<n) (h:AH) :
  ∃h',B fO call eu n 3 Tryz.f3 [x,.agg [c,.int .i64 a.free,w],.agg [c',.int .i64 b.free,w'],bv] h=some (.ret (.bool true),h'):=by
 suffices hq:∀Q:Option (Aq × AH)->Prop,¬Q none->(∀h',Q (some (.ret (.bool true),h')))->Q (B fO call eu n 3 Tryz.f3 [x,.agg [c,.int .i64 a.free,w],.agg [c',.int .i64 b.free,w'],bv] h)from
  hq (fun y=> ∃h',y=some (.ret (.bool true),h')) (by rintro⟨_,h⟩;cases h) fun h'=>⟨h',rfl⟩
 intro Q hnone hQ
 have sc:c.scalar=true:=Af hc
 have lg:w.scalar=true:=Af hw
 have sc':c'.scalar=true:=Af hc'
 have sw':w'.scalar=true:=Af hw'
 have H0:=Hb.nil [] h
 refine H0.xB (hs:=by simp only[adP,sc,lg];rfl) fun i5 h1 H1=>?_
 refine H1.xB (hs:=by simp only[adP,sc',sw'];rfl) fun i6 h2 H2=>?_
 refine H2.xM 3 ?_
 refine sC (dK3 x _ s a _ hx ⟨c,w,rfl,hc,hw⟩ l2) ?_
 refine H2.xM 3 ?_
 refine sC (dK3 x _ s b _ hx ⟨c',w',rfl,hc',hw'⟩ l2') ?_
 refine H2.xM 3 ?_
 obtain⟨h3,q3,H3⟩:=dHv [] _ _ _ x c w s a hx hc hw l0 l1 l2 H2
 refine sC q3 ?_
 conv=>arg 1;whnf
 cases e0:O7 s a
 rotate_left
 ·conv=>arg 1;whnf
  refine sC (wu _) ?_
  conv=>arg 1;whnf
  exact Ac (Ab (.inl rfl) rfl) (hQ _)
 refine H3.xM 3 ?_
 obtain⟨h4,q4,H4⟩:=dHv [] _ _ _ x c' w' s b hx hc' hw' l0 l1' l2' H3
 refine sC q4 ?_
 conv=>arg 1;whnf
 cases e1:O7 s b
 rotate_left
 ·conv=>arg 1;whnf
  refine sC (wu _) ?_
  conv=>arg 1;whnf
  exact Ac (Ab (.inl rfl) rfl) (hQ _)
 conv=>arg 1;whnf
 cases e2:((Ao s a).1 != 0)
 rotate_left
 ·conv=>arg 1;whnf
  refine sC (wu _) ?_
  conv=>arg 1;whnf
  exact Ac (Ab (.inl rfl) rfl) (hQ _)
 conv=>arg 1;whnf
 cases e3:((Ao s b).1 != 0)
 rotate_left
 ·conv=>arg 1;whnf
  refine sC (wu _) ?_
  conv=>arg 1;whnf
  exact Ac (Ab (.inl rfl) rfl) (hQ _)
 have rV:(Ao s a).1=0:=by simpa using e2
 have qI:(Ao s b).1=0:=by simpa using e3
 obtain⟨b0,b1,b2⟩:=Us hnm e0
 obtain⟨_,b3,b4⟩:=Us hnm e1
 have ga:=Cn rV
 have gb:=Cn qI
 clear e0 e1 e2 e3 q3 q4 H0 H1 H2 H3
 refine H4.xL ?_
 refine sN hc ?_
 rw[aaq]
 refine H4.xZ 3 (.int .i64 0) a.cells.length (by omega) (fun ri h5 H5=>?_) (ha:=rfl)
 refine H5.xL ?_
 refine sN hc ?_
 rw[aaq]
 refine H5.xZ 4 (.bool false) a.cells.length (by omega) (fun rt h6 H=>?_) (ha:=rfl)
 rw[show List.replicate a.cells.length (AV.bool false)=(oC a.cells.length []).map AV.bool by rw[acL,ala],show List.replicate a.cells.length (AV.int .i64 0)=(gU a.cells.length []).map Ad by rw[abY,ala];rfl]at H
 clear H4 H5
 refine rounds (fun(L:List Nat) tm h'=>tm.length=285/\tm[0]?=some x/\tm[3]?=some bv/\tm[5]?=some (.ptr i5 0)/\tm[6]?=some (.ptr i6 0)/\tm[13]?=some (.hsl ri 0 a.cells.length (.known a.cells.length))/\tm[14]?=some (.hsl rt 0 a.cells.length (.known a.cells.length))/\tm[15]?=some (.int .i64 L.length)/\L.length<=a.cells.length/\L.Nodup/\(∀p∈L,p<a.cells.length)/\
  Hb [] h h' [⟨rt,.cells ((oC a.cells.length L).map AV.bool) 4,true⟩,⟨ri,.cells ((gU a.cells.length L).map Ad) 3,true⟩,⟨i6,.cells [c',.int .i64 b.free,w'] 26,true⟩,⟨i5,.cells [c,.int .i64 a.free,w] 26,true⟩]) (fun L=>a.cells.length - L.length) (s0:=[]) ?_ ?_ ?_
 ·exact⟨rfl,rfl,rfl,rfl,rfl,rfl,rfl,rfl,ajy _,List.nodup_nil,fun p hp=>(by cases hp),H⟩
 ·show a.cells.length - 0<n;omega
 clear H
 rintro m' L tm h7 ⟨hl2,t0,t3,t5,t6,kN,mU,ow,hi,hL,hLm,H⟩ hm ih
 obtain⟨g_,e_⟩:=Kn.ex hl2
 replace e_:=(((((((e_.put t0).put t3).put t5).put t6).put kN).put mU).put ow).eq
 dsimp only[Tp,ZL,Nat.beq,Nat.reduceAdd]at e_
 subst e_
 clear hl2 t0 t3 t5 t6 kN mU ow
 refine kM ?_
 conv=>arg 1;whnf
 split
 ·rename_i hd
  have hlt:L.length<a.cells.length:=by simp at hd;omega
  obtain⟨p,hp,hpL⟩:=X6 hlt
  refine sN hbv ?_
  rw[aaq]
  conv=>arg 1;whnf
  have hN0:(a.cells.length:Int)≠0:=by omega
  cases e:decide ((L.length:Int)<(bs.length:Int))
  case' false=>
   obtain⟨A,hA,hAe⟩:∃A:Nat,A<a.cells.length/\(0:Int)=(A:Int):=⟨0,by omega,rfl⟩
   conv=>arg 1;whnf
  case' true=>
   have hb1:L.length<bs.length:=by simpa using e
   have g2:(bs.map zn)[L.length]?=some (zn bs[L.length]):=by rw[abG,aaj hb1];rfl
   generalize bs[L.length]=z at g2
   obtain⟨A,hA,hAe⟩:∃A:Nat,A<a.cells.length/\(IntKind.i64.wrap (z.toNat:Int)).tmod (a.cells.length:Int)=(A:Int):=by
    refine⟨z.toNat % a.cells.length,Nat.mod_lt _ (by omega),?_⟩
    rw[Hu (by omega) (by have:=z.toNat_lt;omega)]
    exact ad6 _ _
   refine sI hbv rfl g2 ?_
   refine kM ?_
   refine ZH (ahB _ _ hN0 _) ?_
   conv=>arg 1;whnf
  all_goals
   refine rounds (fun(q:Nat) tm h'=>tm.length=285/\tm[0]?=some x/\tm[3]?=some bv/\tm[5]?=some (.ptr i5 0)/\tm[6]?=some (.ptr i6 0)/\tm[13]?=some (.hsl ri 0 a.cells.length (.known a.cells.length))/\tm[14]?=some (.hsl rt 0 a.cells.length (.known a.cells.length))/\tm[15]?=some (.int .i64 L.length)/\tm[16]?=some (.int .i64 q)/\q<a.cells.length/\
    Hb [] h h' [⟨rt,.cells ((oC a.cells.length L).map AV.bool) 4,true⟩,⟨ri,.cells ((gU a.cells.length L).map Ad) 3,true⟩,⟨i6,.cells [c',.int .i64 b.free,w'] 26,true⟩,⟨i5,.cells [c,.int .i64 a.free,w] 26,true⟩]) (fun q=>RN a.cells.length p q) (s0:=A) ?_ ?_ ?_
   ·exact⟨rfl,rfl,rfl,rfl,rfl,rfl,rfl,rfl,congrArg (fun z=>some (AV.int .i64 z)) hAe,hA,H⟩
   ·show RN a.cells.length p A<n;have:=aa6 hA hp;omega
   clear H
   rintro m2 q tm h8 ⟨hl2,t0,t3,t5,t6,kN,mU,ow,t16,hq,H⟩ hm2 ih2
   obtain⟨g_,e_⟩:=Kn.ex hl2
   replace e_:=((((((((e_.put t0).put t3).put t5).put t6).put kN).put mU).put ow).put t16).eq
   dsimp only[Tp,ZL,Nat.beq,Nat.reduceAdd]at e_
   subst e_
   clear hl2 t0 t3 t5 t6 kN mU ow t16
   have q0:(0:Int)<=(q:Int):=by omega
   have q1:(q:Int)<(a.cells.length:Int):=by omega
   have g3:((oC a.cells.length L).map AV.bool)[0+(q:Int).toNat*1]?=some (.bool (decide (q∈L))):=by
    rw[ajx,ajO,ace,abG,XQ hq];rfl
   refine sH 1 q0 q1 ?_
   refine H.xL (hv:=g3) ?_
   conv=>arg 1;whnf
   by_cases hqL:q∈L
   ·rw[show decide (q∈L)=true from decide_eq_true hqL]
    refine kM ?_
    refine ZH (ahB _ _ hN0 _) ?_
    conv=>arg 1;whnf
    have em:(IntKind.i64.wrap ((q:Int)+1)).tmod (a.cells.length:Int)=(((q+1) % a.cells.length:Nat):Int):=by
     rw[Hu (by omega) (by omega)];exact ad6 (q+1) _
    exact ih2 ((q+1) % a.cells.length) _ _ ⟨rfl,rfl,rfl,rfl,rfl,rfl,rfl,rfl,congrArg (fun z=>some (AV.int .i64 z)) em,Nat.mod_lt _ (by omega),H⟩ (YS hq hp (fun k=>hpL (k▸hqL)))
   ·rw[show decide (q∈L)=false from decide_eq_false hqL]
    have j0:(0:Int)<=(L.length:Int):=by omega
    have j1:(L.length:Int)<(a.cells.length:Int):=by omega
    refine sH 1 q0 q1 ?_
    refine H.xV rfl rfl (fun h9 H=>?_) (ho:=by rw[aaq,QG,ace];omega) (hc:=by rw[ajx,ajO,ace,<-aks,adj hq])
    refine sH 1 j0 j1 ?_
    refine H.xV rfl rfl (fun h9 H=>?_) (ho:=by rw[aaq,QH (by omega),ace];omega) (hc:=by rw[ajx,ajO,ace,show AV.int .i64 (q:Int)=Ad (q:Int)from rfl,<-aks,ac3 hlt])
    conv=>arg 1;whnf
    refine ih (L++[q]) _ _ ⟨rfl,rfl,rfl,rfl,rfl,rfl,rfl,?_,by simp;omega,?_,?_,H⟩ (by simp;omega)
    ·rw[abO];exact sw (by omega)
    ·exact ak0.2 ⟨hL,by simp,fun x hx y hy=>by rw[ajw.1 hy];rintro rfl;exact hqL hx⟩
    ·intro r hr
     rcases acS.1 hr with hr|hr
     ·exact hLm r hr
     ·rw[ajw.1 hr];exact hq
 rename_i hd
 have hge:L.length=a.cells.length:=by simp at hd;omega
 clear hd ih hm
 have H9:=H.tail
 clear H
 conv=>arg 1;whnf
 refine rounds (fun(i:Nat) tm h'=>tm.length=285/\tm[0]?=some x/\tm[5]?=some (.ptr i5 0)/\tm[6]?=some (.ptr i6 0)/\tm[13]?=some (.hsl ri 0 a.cells.length (.known a.cells.length))/\tm[18]?=some (.int .i64 i)/\i<=a.free.toNat/\
  ∃fv G,tm[17]?=some fv/\eY fv ((lH i).map Ad) G/\Hb [] h h' (⟨ri,.cells ((gU a.cells.length L).map Ad) 3,true⟩::⟨i6,.cells [c',.int .i64 b.free,w'] 26,true⟩::⟨i5,.cells [c,.int .i64 a.free,w] 26,true⟩::(G++[]))) (fun i=>a.free.toNat - i) (s0:=0) ?_ ?_ ?_
 ·exact⟨rfl,rfl,rfl,rfl,rfl,rfl,ajy _,.aj,[],rfl,eY.nil,H9⟩
 ·show a.free.toNat - 0<n;have:=ga.f1;omega
 clear H9 hi
 rintro m' i tm h7 ⟨hl2,t0,t5,t6,kN,oW,hi,fv,G,t17,hG,H⟩ hm ih
 obtain⟨g_,e_⟩:=Kn.ex hl2
 replace e_:=((((((e_.put t0).put t5).put t6).put kN).put t17).put oW).eq
 dsimp only[Tp,ZL,Nat.beq,Nat.reduceAdd]at e_
 subst e_
 clear hl2 t0 t5 t6 kN t17 oW
 refine H.xL ?_
 conv=>arg 1;whnf
 split
 ·rename_i hd
  have hlt:i<a.free.toNat:=by simp at hd;omega
  have hf1:=ga.f1
  have ei:lH (i+1)=lH i++[(i:Int)]:=by unfold lH;rw[akH,ajC];rfl
  refine H.xG hG (i:Int) (by simp[lH];omega) fun fv2 h8 G2 hG2 H=>?_
  conv=>arg 1;whnf
  rw[<-ei]at hG2
  exact ih (i+1) _ _ ⟨rfl,rfl,rfl,rfl,rfl,sw (by omega),by omega,fv2,G2,rfl,hG2,H⟩ (by omega)
 rename_i hd
 have hfe:i=a.free.toNat:=by simp at hd;omega
 rw[hfe]at hG
 clear hd ih hm
 obtain⟨gM,gC,IC⟩:=acZ ga hL hge hLm
 have tl:(gU a.cells.length L).length=a.cells.length:=QH (by omega)
 refine H.xM 3 ?_
 obtain⟨h8,q8,H8⟩:=dMo [] _ _ _ x c w s a ri (.known a.cells.length) fv (gU a.cells.length L) hx ga hc hw hG.il tl (fun j hj=>by have:=IC.rg (j:Int) (by omega) (by omega);rw[ace]at this;exact this) (by omega) (by rw[gM.nN]) H
 rw[tl]at q8
 obtain⟨nC,hnC⟩:∃y,BA s (FI a (gU a.cells.length L))=y:=⟨_,rfl⟩
 rw[hnC]at q8 gC IC
 have eC:=CV (enc:=Ad) nC.cells
 have eW:=CV (enc:=Az) nC.wires
 unfold I5 at q8
 obtain⟨cC,hcC⟩:∃y,fJ Ad nC.cells=y:=⟨_,rfl⟩
 obtain⟨wC,hwC⟩:∃y,fJ Az nC.wires=y:=⟨_,rfl⟩
 rw[hcC]at q8 eC
 rw[hwC]at q8 eW
 have s1:=Af eC
 have s2:=Af eW
 refine sC q8 ?_
 clear H q8
 refine H8.xA [.aj,.int .i64 0,.aj] fun i19 h9 H=>?_
 refine H.xJ (fun h9 H=>?_) (hs:=by simp only[AV.cells,ajN,List.flatMap_nil,Dp eC,Dp eW,ajP,adP,acW,adk,s1,s2];rfl)
 conv=>arg 1;whnf
 obtain⟨xs,hxs⟩:∃y,fJ jc s=y:=⟨_,rfl⟩
 have lF:AR xs s:=by rw[<-hxs];exact CV s
 have qA:=fun h=>dCA x s h hx (by omega)
 rw[hxs]at qA
 obtain⟨cA,hcA⟩:∃y,fJ Ad a.cells=y:=⟨_,rfl⟩
 obtain⟨rW,hwA⟩:∃y,fJ Az a.wires=y:=⟨_,rfl⟩
 have eA:fK cA (a.cells.map Ad):=by rw[<-hcA];exact CV _
 have tC:fK rW (a.wires.map Az):=by rw[<-hwA];exact CV _
 have qJ:=fun h=>dCN (.agg [c,.int .i64 a.free,w]) a h ⟨c,w,rfl,hc,hw⟩ (by omega) (by omega)
 unfold I5 at qJ
 rw[hcA,hwA]at qJ
 have lC1:nC.cells.length=a.cells.length:=IC.len.symm
 have lC2:nC.wires.length<=30000:=by rw[<-hnC];exact SI gM
 have zo:=fun h=>dCN (.agg [cC,.int .i64 nC.free,wC]) nC h ⟨cC,wC,rfl,eC,eW⟩ (by omega) (by omega)
 unfold I5 at zo
 rw[hcC,hwC]at zo
 have mC:II a nC (gU a.cells.length L)=true:=Oa ga gC tl IC
 refine xR aeX hnone hrg ?_
 refine H.xM 3 ?_
 refine H.xM 3 ?_
 refine sC (qA _) ?_
 refine sC (qJ _) ?_
 refine sC (zo _) ?_
 obtain⟨h10,lv,q10,nl,H10⟩:=dCR [] h h9 _ ri (.known a.cells.length) 3 true (gU a.cells.length L) (by repeat(first|exact List.Mem.head _|refine List.Mem.tail _ ?_)) (by omega) H
 rw[tl]at q10
 refine sC q10 ?_
 obtain⟨h11,q11,H11⟩:=dMs [] h h10 _ xs cA cC rW wC s a nC lv (gU a.cells.length L) lF eA eC tC eW rV (by rw[gC.nN]) (by omega) lC2 IC.fr IC.len tl (.inl nl.lQ) H10
 rw[mC]at q11
 refine sC q11 ?_
 refine xO ?_
 conv=>arg 1;whnf
 clear H H10 q10 q11
 refine xR aeu hnone hrg ?_
 refine H11.xM 3 ?_
 refine H11.xM 3 ?_
 refine sC (qA _) ?_
 refine sC (qJ _) ?_
 refine sC (zo _) ?_
 obtain⟨h12,sv,X,q12,⟨_,r12,wz⟩⟩:=dSg [] h h11 _ xs cA cC rW wC s a nC lF eA eC tC eW rV (by rw[gC.nN]) (by omega) lC2 H11
 rw[UG ga gC IC]at q12 r12
 obtain⟨ti,rfl,rfl⟩:=r12 _ rfl
 refine sC q12 ?_
 refine xO ?_
 conv=>arg 1;whnf
 simp only[acW,adk]at wz
 clear H11 q12 r12
 obtain⟨cB,hcB⟩:∃y,fJ Ad b.cells=y:=⟨_,rfl⟩
 obtain⟨wB,hwB⟩:∃y,fJ Az b.wires=y:=⟨_,rfl⟩
 have eB:fK cB (b.cells.map Ad):=by rw[<-hcB];exact CV _
 have vC:fK wB (b.wires.map Az):=by rw[<-hwB];exact CV _
 have rX:=fun h=>dCN (.agg [c',.int .i64 b.free,w']) b h ⟨c',w',rfl,hc',hw'⟩ (by omega) (by omega)
 unfold I5 at rX
 rw[hcB,hwB]at rX
 refine xR agk hnone hrg ?_
 refine wz.xM 3 ?_
 refine wz.xM 3 ?_
 refine sC (qA _) ?_
 refine sC (qJ _) ?_
 refine sC (rX _) ?_
 obtain⟨lT,sv,X,q13,⟨n13,r13,qK⟩⟩:=dSg [] h h12 _ xs cA cB rW wB s a b lF eA eB tC vC rV qI (by omega) (by omega) wz
 obtain⟨ta,nV⟩:∃y,IV s a=y:=⟨_,rfl⟩
 obtain⟨tb,htb⟩:∃y,IV s b=y:=⟨_,rfl⟩
 cases eS:DC s a b with
 |none=>
  obtain⟨rfl,rfl⟩:=n13 eS
  have zq:DC s b a=none:=by have:=Ut ga gb;rw[eS]at this;exact Option.not_isSome_iff_eq_none.1 (by rw[<-this];simp)
  have eS3:ta≠tb:=by have:=Qi ga gb;rw[eS]at this;rw[nV,htb]at this;exact of_decide_eq_false this.symm
  rw[eS]at q13
  rw[adk]at qK
  refine sC q13 ?_
  refine xO ?_
  clear wz
  conv=>arg 1;whnf
  refine xR abt hnone hrg ?_
  refine qK.xM 3 ?_
  refine qK.xM 3 ?_
  refine sC (qA _) ?_
  refine sC (rX _) ?_
  refine sC (qJ _) ?_
  obtain⟨om,sv2,X3,zu,⟨n14,_,rY⟩⟩:=dSg [] h lT _ xs cB cA wB rW s b a lF eB eA vC tC qI rV (by omega) (by omega) qK
  obtain⟨rfl,rfl⟩:=n14 zq
  rw[zq]at zu
  rw[adk]at rY
  refine sC zu ?_
  refine xO ?_
  clear qK
  conv=>arg 1;whnf
  refine xR aa5 hnone hrg ?_
  refine rY.xM 3 ?_
  refine sC (qA _) ?_
  refine sC (qJ _) ?_
  obtain⟨uL,zw,vD⟩:=dNc [] h om _ xs cA rW s a lF eA tC rV (by omega) rY
  rw[nV]at zw
  refine sC zw ?_
  refine xO ?_
  clear rY
  conv=>arg 1;whnf
  refine xR acy hnone hrg ?_
  refine vD.xM 3 ?_
  refine sC (qA _) ?_
  refine sC (rX _) ?_
  obtain⟨h16,q16,zx⟩:=dNc [] h uL _ xs cB wB s b lF eB vC qI (by omega) vD
  rw[htb]at q16
  refine sC q16 ?_
  refine xO ?_
  clear vD
  conv=>arg 1;whnf
  rw[show(!((none:Option (List Int)).isSome==(ta==tb)))=false by simp[eS3]]
  conv=>arg 1;whnf
  refine sN (show fK .aj ([]:List AV)from .inl ⟨rfl,rfl⟩) ?_
  conv=>arg 1;whnf
  refine sC (wu _) ?_
  conv=>arg 1;whnf
  exact Ac (Ab (.inl rfl) rfl) (hQ _)
 |some l=>
  obtain⟨ti2,rfl,rfl⟩:=r13 l eS
  obtain⟨l2,zq⟩:∃l2,DC s b a=some l2:=by have:=Ut ga gb;rw[eS]at this;exact Option.isSome_iff_exists.1 this.symm
  have eS3:ta=tb:=by have:=Qi ga gb;rw[eS]at this;rw[nV,htb]at this;exact of_decide_eq_true this.symm
  obtain⟨IL,hlL⟩:=Ol ga gb eS
  have mS:=ZT ga gb eS
  rw[eS]at q13
  simp only[acW,adk]at qK
  refine sC q13 ?_
  refine xO ?_
  clear wz
  conv=>arg 1;whnf
  refine xR abt hnone hrg ?_
  refine qK.xM 3 ?_
  refine qK.xM 3 ?_
  refine sC (qA _) ?_
  refine sC (rX _) ?_
  refine sC (qJ _) ?_
  obtain⟨om,sv2,X3,zu,⟨_,r14,rY⟩⟩:=dSg [] h lT _ xs cB cA wB rW s b a lF eB eA vC tC qI rV (by omega) (by omega) qK
  obtain⟨ti3,rfl,rfl⟩:=r14 l2 zq
  rw[zq]at zu
  simp only[acW,adk]at rY
  refine sC zu ?_
  refine xO ?_
  clear qK
  conv=>arg 1;whnf
  refine xR aa5 hnone hrg ?_
  refine rY.xM 3 ?_
  refine sC (qA _) ?_
  refine sC (qJ _) ?_
  obtain⟨uL,zw,vD⟩:=dNc [] h om _ xs cA rW s a lF eA tC rV (by omega) rY
  rw[nV]at zw
  refine sC zw ?_
  refine xO ?_
  clear rY
  conv=>arg 1;whnf
  refine xR acy hnone hrg ?_
  refine vD.xM 3 ?_
  refine sC (qA _) ?_
  refine sC (rX _) ?_
  obtain⟨h16,q16,zx⟩:=dNc [] h uL _ xs cB wB s b lF eB vC qI (by omega) vD
  rw[htb]at q16
  refine sC q16 ?_
  refine xO ?_
  clear vD
  conv=>arg 1;whnf
  rw[show(!((some l).isSome==(ta==tb)))=false by simp[eS3]]
  conv=>arg 1;whnf
  refine xR agF hnone hrg ?_
  refine zx.xM 3 ?_
  refine zx.xM 3 ?_
  refine sC (qA _) ?_
  refine sC (qJ _) ?_
  refine sC (rX _) ?_
  obtain⟨h17,rE,q17,nl2,H17⟩:=dCR [] h h16 _ ti2 (.known l.length) 3 true l (by repeat(first|exact List.Mem.head _|refine List.Mem.tail _ ?_)) (by omega) zx
  refine sC q17 ?_
  obtain⟨h18,q18,H18⟩:=dMs [] h h17 _ xs cA cB rW wB s a b rE l lF eA eB tC vC rV qI (by omega) (by omega) IL.fr IL.len hlL (.inl nl2.lQ) H17
  rw[mS]at q18
  refine sC q18 ?_
  refine xO ?_
  clear zx H17 q17 q18
  conv=>arg 1;whnf
  refine kM ?_
  refine kM ?_
  conv=>arg 1;whnf
  rw[show((l.length:Int) != (a.cells.length:Int))=false by simp[hlL]]
  conv=>arg 1;whnf
  refine kM ?_
  refine H18.xZ 3 (.int .i64 0) a.cells.length (by omega) (fun ro h19 H19=>?_) (ha:=rfl)
  have mO:=adK ga gb gC tl (ae2 hL hge) (abq hge hLm) IC eS
  have tr:=abq hge hLm
  obtain⟨to,hto⟩:∃y,gU a.cells.length L=y:=⟨_,rfl⟩
  rw[hto]at H19 tl mO tr
  have H:Hb [] h h19 [⟨ro,.cells (List.replicate a.cells.length (.int .i64 0)) 3,true⟩,⟨ti2,.cells (l.map Ad) 3,true⟩,⟨i19,.cells [cC,.int .i64 nC.free,wC] 26,true⟩,⟨ri,.cells (to.map Ad) 3,true⟩,⟨i6,.cells [c',.int .i64 b.free,w'] 26,true⟩]:=H19.sb
  clear H18 H19
  refine rounds (fun(i:Nat) tm h'=>tm.length=285/\tm[0]?=some x/\tm[6]?=some (.ptr i6 0)/\tm[13]?=some (.hsl ri 0 a.cells.length (.known a.cells.length))/\tm[19]?=some (.ptr i19 0)/\tm[25]?=some (.hsl ti2 0 l.length (.known l.length))/\tm[35]?=some (.hsl ro 0 a.cells.length (.known a.cells.length))/\tm[36]?=some (.int .i64 i)/\i<=a.cells.length/\
   Hb [] h h' [⟨ro,.cells ((ji to l i).map Ad) 3,true⟩,⟨ti2,.cells (l.map Ad) 3,true⟩,⟨i19,.cells [cC,.int .i64 nC.free,wC] 26,true⟩,⟨ri,.cells (to.map Ad) 3,true⟩,⟨i6,.cells [c',.int .i64 b.free,w'] 26,true⟩]) (fun i=>a.cells.length - i) (s0:=0) ?_ ?_ ?_
  ·refine⟨rfl,rfl,rfl,rfl,rfl,rfl,rfl,rfl,ajy _,?_⟩
   rw[show(ji to l 0).map Ad=List.replicate a.cells.length (.int .i64 0)by simp[ji,Ad,tl]]
   exact H
  ·show a.cells.length - 0<n;omega
  clear H
  rintro m' i tm h7 ⟨hl2,t0,t6,kN,oo,t25,t35,t36,hi,H⟩ hm ih
  obtain⟨g_,e_⟩:=Kn.ex hl2
  replace e_:=(((((((e_.put t0).put t6).put kN).put oo).put t25).put t35).put t36).eq
  dsimp only[Tp,ZL,Nat.beq,Nat.reduceAdd]at e_
  subst e_
  clear hl2 t0 t6 kN oo t25 t35 t36
  refine kM ?_
  conv=>arg 1;whnf
  split
  ·rename_i hd
   have hlt:i<a.cells.length:=by simp at hd;omega
   have f0:(0:Int)<=(i:Int):=by omega
   have f1:(i:Int)<(a.cells.length:Int):=by omega
   have f4:(i:Int)<(l.length:Int):=by omega
   have f2:(to.map Ad)[0+(i:Int).toNat*1]?=some (Ad (to.getD i 0)):=by
    rw[ajx,ajO,ace,abG,aal,aaj (by omega)];rfl
   have f3:(l.map Ad)[0+(i:Int).toNat*1]?=some (Ad (l.getD i 0)):=by
    rw[ajx,ajO,ace,abG,aal,aaj (by omega)];rfl
   obtain⟨d0,d1⟩:=tr (to.getD i 0) (by rw[aal,aaj (by omega)];exact akv _)
   have em:ji to l (i+1)=(ji to l i).set (to.getD i 0).toNat (l.getD i 0):=rfl
   have ml:=GH to l i
   generalize to.getD i 0=d at *
   generalize l.getD i 0=u at *
   rw[tl]at d1
   have z2:0+d.toNat*1+1<=((ji to l i).map Ad).length:=by rw[aaq,ml];omega
   have z3:((ji to l i).map Ad).set (0+d.toNat*1) (.int .i64 u)=(ji to l (i+1)).map Ad:=by
    rw[em,aks,ajx,ajO];rfl
   have hl1:=H.ld (P:=Tryz.prog) (t:=3) (i:=ri) (T:=3) (w:=true) (by repeat(first|exact List.Mem.head _|refine List.Mem.tail _ ?_)) (by kernel_rfl) (by kernel_rfl) f2
   have hl3:=H.ld (P:=Tryz.prog) (t:=3) (i:=ti2) (T:=3) (w:=true) (by repeat(first|exact List.Mem.head _|refine List.Mem.tail _ ?_)) (by kernel_rfl) (by kernel_rfl) f3
   refine xR afS hnone hrg ?_
   refine sH 1 f0 f1 ?_
   refine H.xL (hv:=f2) ?_
   refine sH 1 f0 f4 ?_
   refine H.xL (hv:=f3) ?_
   refine sH 1 d0 d1 ?_
   refine H.xV rfl rfl (fun h8 H8=>?_) (ho:=z2) (hc:=z3)
   refine xO ?_
   conv=>arg 1;whnf
   exact ih (i+1) _ _ ⟨rfl,rfl,rfl,rfl,rfl,rfl,rfl,sw (by omega),by omega,H8⟩ (by omega)
  rename_i hd
  have hie:i=a.cells.length:=by simp at hd;omega
  rw[hie]at H
  clear hd ih hm
  have ol:(ji to l a.cells.length).length=a.cells.length:=by rw[GH,tl]
  refine xR aft hnone hrg ?_
  refine H.xM 3 ?_
  refine H.xM 3 ?_
  refine sC (qA _) ?_
  refine sC (zo _) ?_
  refine sC (rX _) ?_
  obtain⟨h20,q20,H20⟩:=dMs [] h h7 _ xs cC cB wC wB s nC b (.hsl ro 0 a.cells.length (.known a.cells.length)) (ji to l a.cells.length) lF eC eB eW vC (by rw[gC.nN]) qI lC2 (by omega) (IC.fr.symm.trans IL.fr) (IC.len.symm.trans IL.len) (by omega) (.inr ⟨ro,_,_,true,by rw[ol],.head _⟩) H
  rw[mO]at q20
  refine sC q20 ?_
  refine xO ?_
  conv=>arg 1;whnf
  refine sC (wu _) ?_
  conv=>arg 1;whnf
  exact Ac (Ab (.inl rfl) rfl) (hQ _)
theorem zMs(n)(h:43000<n):hMs (cz n):=afD (fun _ _=>rfl) (fun n h=>zSf n (by omega)) (fun n h=>zMz n (by omega)) h
theorem zCR(n)(h:0<n):hCR (cz n):=af4 (fun _ _ _ _=>rfl) h
theorem ahq(x v v' bv:AV)(s:List Ag)(a b:Nt)(bs:List UInt8)(hx:AR x s)(hv:Dc v a)(hv':Dc v' b)(hbv:fK bv (bs.map zn))(hnm:∀g∈s,g.1.length<=1152921504606846976)(l0:s.length<=4611686018427387904)(l1:a.cells.length<=1152921504606846976)(l2:a.wires.length<=1152921504606846976)(l1':b.cells.length<=1152921504606846976)(l2':b.wires.length<=1152921504606846976) :
  ∃n h',Ah (Ak Tryz.prog eO zm) n (.func 3) [x,v,v',bv] .empty=some (.ret (.bool true),h'):=by
 obtain⟨c,w,rfl,hc,hw⟩:=hv
 obtain⟨c',w',rfl,hc',hw'⟩:=hv'
 obtain⟨N,hN⟩:∃N,N=200000:=⟨_,rfl⟩
 obtain⟨h',hb⟩:=bSb (cz N) (rg Tryz.prog eO zm N 3) N x c w c' w' bv s a b bs hx hc hw hc' hw' hbv l0 hnm l1 l2 l1' l2' (zK3 N (by omega)) (zHv N (by omega)) (zLw N (by omega)) (zCA N (by omega)) (zCN N (by omega)) (zMo N (by omega)) (zMs N (by omega)) (zCR N (by omega)) (zSg N (by omega)) (zNc N (by omega)) (fun _ _ _=>rfl) (by omega) .empty
 exact Cu fO rfl Tryz.func3 rfl (by kernel_rfl) hb
end Go.Proofs.Nt
namespace Go.Proofs.Nt
open Go.Sk Go.ChangeShapes Go.WideShapes
section
variable{H:Type}{enc:TypeId × Value->H}{w:World}{base:Nat}
theorem WR{sp:Nat->Bool}{held:Bool}{r:Reach}{b0:Nat}{v:Value}{d:DataW H}{ps:List MemPlace}(hval:Value.okWide Tryz.prog w r b0 27 v)(hd:DataW.Trod enc Tryz.prog w base sp held 27 v d ps):∃(x:AV) (t:List UInt8),bf (JR w) x v/\fK x (t.map zn):=by
 obtain⟨x,hx,h⟩:=YG (t:=27) (e:=5) (by kernel_rfl) (by kernel_rfl) (by kernel_rfl) hval hd
 rcases h with rfl|⟨s,c,rfl⟩
 ·exact⟨_,[],hx,.inl ⟨rfl,rfl⟩⟩
 ·exact⟨_,s,hx,.inr ⟨c,rfl⟩⟩
end
end Go.Proofs.Nt
namespace Go.Proofs.YtfpmanknbjakfaaGreatDoor.sameBack
open Go.Sk Go.ChangeShapes Go.WideShapes Go.ChangeAt Go.RowKit Go.Proofs.Nt
theorem own:ownKnob Tryz.prog.godebug=none:=by kernel_rfl
theorem laid:laidOutB Tryz.prog=true:=by kernel_rfl
theorem UE{P:Program}{W:World}{name:String}{k:IntKind}{zs:List Int}{g:Nat}{t e:TypeId}{n:Nat}
  (hg:P.globalNamed name=some g) (hty:(P.globals[g]?).map (·.type)=some t) (ht:P.underlying t=some (.array n e)) (he:P.underlying e=some (.int k)) (hce:P.cellsOf e=1) (hct:P.cellsOf t=n) :
  ∀{l:List (String × DataW Unit)} {ps:List MemPlace},(name,Lib.tabData k zs)∈l->DataW.LaidVars P W l ps->Lib.TabIs P W name k zs
 |[],_,h,_=>by cases h
 |(n',d)::r,ps,h,hl=>by
  obtain⟨g',t',cs,fuel,p,q,hg',ht',hvar,hd,hr,_⟩:=hl
  rcases adf.1 h with h|h
  ·simp only[abW]at h
   obtain⟨rfl,rfl⟩:=h
   obtain rfl:=aap (hg.symm.trans hg')
   obtain rfl:=aap (hty.symm.trans ht')
   unfold Lib.TabIs
   rw[hvar,<-Lib.cells_of_tab ht he hce hct hd]
  ·exact UE hg hty ht he hce hct h hr
theorem agz{W:World}(h:laidMetH Tryz.prog Rows.sameBackRow.laid W):Im0 W:=fun b cs q=>by
 obtain⟨ps,hv,_⟩:laidMet Tryz.prog Rows.sameBackRow.laid W:=h
 have ht:Lib.TabIs Tryz.prog W "internal/strconv.uint64pow10" .u64 Lib.pow10Tab:=UE (g:=1) (t:=204) (e:=191) (n:=20) (by kernel_rfl) (by kernel_rfl) (by kernel_rfl) (by kernel_rfl) (by kernel_rfl) (by kernel_rfl) (.tail _ (.tail _ (.head _))) hv
 simp only[vH]at q
 split at q
 ·rename_i hb
  subst hb
  cases q
  unfold Lib.TabIs World.var? at ht
  rw[show Tryz.prog.globalNamed "internal/strconv.uint64pow10" =some 1 by kernel_rfl]at ht
  simp only[ajK]at ht
  split at ht
  ·rename_i cs T fr hh
   cases ht
   exact⟨T,fr,hh⟩
  ·cases ht
 ·cases q
theorem Xp{H:Type}{P:Program}{B:Nat}{t0 t1 t2 t3:TypeId}{d0 d1 d2 d3:DataW H}(h:(DataW.weightsEach P ([t0,t1,t2,t3]++[]) ([d0,d1,d2,d3]++[])).all (· <=B)=true):(∀k∈d0.weights P t0,k<=B)/\(∀k∈d1.weights P t1,k<=B)/\(∀k∈d2.weights P t2,k<=B)/\(∀k∈d3.weights P t3,k<=B):=by
 simp only[ajP,DataW.weightsEach,List.all_append,aci,ajG,decide_eq_true_eq]at h
 exact h
theorem contract(H:Type)(enc:TypeId × Value->H)(W:World)(base:Nat)(args:Array Value)(ds gs:List (DataW H))(before:List MemPlace)
  (hval0:∀(j:Nat) t v,Tryz.f3.params[j]?=some t->args[j]?=some v->Value.okWide Tryz.prog W .any base t v)
  (hW:DataW.Whole enc Tryz.prog Tryz.f3.params.toList Rows.sameBackSpec.vars false W args.toList ds gs before)
  (hB:(DataW.weightsEach Tryz.prog (Tryz.f3.params.toList++(OpenSpec.ofChange Rows.sameBackSpec).bare.plain.varTypes Tryz.prog) (ds++gs)).all (· <=reachBytes)=true) (hL:laidMetH Tryz.prog Rows.sameBackRow.laid W) :
  Calls Tryz.prog 3 args W fun e W'=> ∃v,e= .returned v/\Rows.sameBackSpec.post enc Tryz.prog Tryz.f3 false true false false W args v W':=by
 have hval:∀(j:Nat) t v,Tryz.f3.params[j]?=some t->args[j]?=some v->Value.okWide Tryz.prog W .any base t v:=hval0
 have hW':=hW
 obtain⟨p,q,hA0,hV,rfl,hfz,hnd⟩:=hW
 have hA:DataW.TrodAll enc Tryz.prog W 0 (fun _=>true) true Tryz.f3.params.toList args.toList ds p:=hA0
 rw[Tryz.params3]at hA hval hB
 obtain⟨v0,vs0,d0,ds0,p0,q0,hargs,rfl,rfl,h0,r0⟩:=trodAll_cons hA
 obtain⟨v1,vs1,d1,ds1,p1,q1,aiZ,rfl,rfl,h1,r1⟩:=trodAll_cons r0
 obtain⟨v2,vs2,d2,ds2,p2,q2,ai0,rfl,rfl,h2,r2⟩:=trodAll_cons r1
 obtain⟨v3,vs3,d3,ds3,p3,q3,ai1,rfl,rfl,h3,r3⟩:=trodAll_cons r2
 obtain⟨rfl,rfl,rfl⟩:=trodAll_nil r3
 obtain rfl:args= #[v0,v1,v2,v3]:=by cases args;simp_all
 obtain⟨rfl,rfl⟩:=trodVars_none hV
 obtain⟨b0,b1,b2,b3⟩:=Xp hB
 obtain⟨x0,y0,hx0,hy0,ls0,ln0⟩:=ZJ (hval 0 22 v0 rfl rfl) h0 b0
 obtain⟨x1,y1,hx1,hy1,lc1,lw1⟩:=TQ (hval 1 26 v1 rfl rfl) h1 b1
 obtain⟨x2,y2,hx2,hy2,lc2,lw2⟩:=TQ (hval 2 26 v2 rfl rfl) h2 b2
 obtain⟨x3,y3,hx3,hy3⟩:=WR (hval 3 27 v3 rfl rfl) h3
 rw[show Tryz.prog.bytesOf 85=24 by kernel_rfl]at ls0
 rw[show Tryz.prog.bytesOf 3=8 by kernel_rfl]at lc1
 rw[show Tryz.prog.bytesOf 62=32 by kernel_rfl]at lw1
 rw[show Tryz.prog.bytesOf 3=8 by kernel_rfl]at lc2
 rw[show Tryz.prog.bytesOf 62=32 by kernel_rfl]at lw2
 have hrb:reachBytes=140737488351232:=rfl
 clear hA0 hval0
 simp only[ajP]at hW'
 obtain⟨m,h',he⟩:=ahq x0 x1 x2 x3 y0 y1 y2 y3 hy0 hy1 hy2 hy3 (fun g hg=>by have:=ln0 g hg;omega) (by omega) (by omega) (by omega) (by omega) (by omega)
 have hc:Calls Tryz.prog 3 #[v0,v1,v2,v3] W fun e w'=>e= .returned (.bool true)/\Below W.heap.size W w':=ab4 (eP:=[v0,v1,v2,v3]) ah7 W (.cons hx0 (.cons hx1 (.cons hx2 (.cons hx3 (.nil _))))) he (agz hL)
 refine hc.mono fun e W' ⟨he,hg⟩=>?_
 subst he
 exact⟨_,rfl,abS (T:=4) hW' rfl rfl (by kernel_rfl) Tryz.underlying4 laid (by kernel_rfl) hg⟩
def Rf:List (DataW Unit)->List Value
 |[]=>[]
 | .lit (.int k z)::r=> .int k z::Rf r
 |_::r=>Rf r
def SK:DataW Unit->Array Value
 | .agg l=>(Rf l).toArray
 |_=> #[]
noncomputable def lay(w:World)(b:Nat)(cs:Array Value):World:=
 { w with heap:=w.heap.modify b fun
     | .cells _ t frozen=> .cells cs t frozen
     |o=>o }
noncomputable def O8(os:Os):World:=lay (lay (lay (World.holding Tryz.prog os ⟨#[],#[],[]⟩) 2 (SK Rows.laid_math_bits_deBruijn32tab)) 3 (SK Rows.laid_math_bits_deBruijn64tab)) 1 (SK Rows.laid_internal_strconv_uint64pow10)
def Zn:Array Value:= #[.slice none 0 0,.agg #[.slice none 0 0,.int .i64 0,.slice none 0 0],.agg #[.slice none 0 0,.int .i64 0,.slice none 0 0],.slice none 0 0]
theorem abC(os:Os):laidMet Tryz.prog Rows.sameBackRow.laid ((O8 os).forCall (fun _ _=>0) ⟨#[],Zn,[]⟩).memory:=
 laidMet_of_run' 8 (by kernel_rfl) (by kernel_rfl)
theorem reads(os:Os){H:Type}(enc:TypeId × Value->H):∃places,DataW.whole enc Tryz.prog ((O8 os).forCall (fun _ _=>0) ⟨#[],Zn,[]⟩).memory Tryz.f3.params.toList Rows.sameBackSpec.vars false Zn.toList 8=some ([.nil,.agg [.nil,.lit (.int .i64 0),.nil],.agg [.nil,.lit (.int .i64 0),.nil],.nil],[],places):=
 ⟨[],by kernel_rfl⟩
set_option maxRecDepth 100000 in
theorem lifted(os:Os)(started:os.Started)(H:Type)(enc:TypeId × Value->H)(F:Stop.Interp) :
  ReturnsInHanded {} Tryz.checked os 3 .any ((OpenSpec.ofChange Rows.sameBackSpec).preRow enc Tryz.prog Tryz.f3 Rows.sameBackRow.domain false Rows.sameBackRow.laid) (((OpenSpec.ofChange Rows.sameBackSpec).at F).post enc Tryz.prog Tryz.f3 false true false false):=by
 obtain⟨places,hx⟩:=reads os enc
 refine returnsInHanded_of_row (C:=Tryz.checked) (s:=OpenSpec.ofChange Rows.sameBackSpec) own started (by kernel_rfl) Tryz.func3
  (witness_row_at (enc:=enc) (C:=Tryz.checked) false (O8 os) Zn rfl (by kernel_rfl) (by kernel_rfl) (by kernel_rfl)
   (OpenSpec.preRow_of_cond 8 hx (by kernel_rfl) (fun k hk=>by cases hk) (by kernel_rfl) (abC os))) ?_
 intro W base args ds gs before hval hW _ _ hB hL _ _
 exact contract H enc W base args ds gs before hval hW hB hL
theorem said:Rows.SameBackSaid:=
 OpenClaim.holds_of_cond 3 Tryz.f3 rfl rfl rfl rfl rfl rfl rfl ⟨rfl,rfl,rfl,rfl,rfl⟩ rfl rfl rfl rfl rfl (by kernel_rfl) Tryz.func3 (by kernel_rfl)
  (of_decide_eq_true (by kernel_rfl)) (by unfold Func.isWrapper;first|(rw[if_pos (by decide +kernel)];kernel_rfl)|(rw[if_neg (by decide +kernel)];exact⟨rfl,rfl⟩))
  (fun os started H enc _ F=>by rw[OpenClaim.pre_eq_preRow];exact lifted os started H enc F)
theorem plain(f:FuncId)(fn:Func)(hf:Tryz.pinned.checked.prog.funcNamed "skein/skeinlaw14.SameBack" =some f)(hfn:Tryz.pinned.checked.prog.funcs[f]?=some fn) :
  false=Tryz.pinned.checked.prog.looks []/\∀(j:Nat) t,fn.params[j]?=some t->Tryz.pinned.checked.prog.wantsStandIn t=false:=by
 obtain rfl:f=3:=aap ((show Tryz.prog.funcNamed "skein/skeinlaw14.SameBack" =some 3 by kernel_rfl).symm.trans hf) |>.symm
 obtain rfl:fn=Tryz.f3:=(aap (Tryz.func3.symm.trans hfn)).symm
 refine⟨by kernel_rfl,fun j t ht=>?_⟩
 rw[Tryz.params3]at ht
 have hm:t=22\/t=26\/t=26\/t=27:=by simpa using Array.mem_of_getElem? ht
 rcases hm with rfl|rfl|rfl|rfl
 ·exact(show Tryz.prog.wantsStandIn 22=false by kernel_rfl)
 ·exact(show Tryz.prog.wantsStandIn 26=false by kernel_rfl)
 ·exact(show Tryz.prog.wantsStandIn 26=false by kernel_rfl)
 ·exact(show Tryz.prog.wantsStandIn 27=false by kernel_rfl)
theorem proved:Rows.SameBackCardSaid:=
 Claim7.holds_tied_plain_at .later [] _ _ _ _ said (fun _ h=>by cases h) (by kernel_rfl) (fun _ h=>by cases h) sameBack_row_tie rfl ⟨rfl,rfl⟩ (by kernel_rfl) rfl plain (by kernel_rfl)
#print axioms proved
end Go.Proofs.YtfpmanknbjakfaaGreatDoor.sameBack
