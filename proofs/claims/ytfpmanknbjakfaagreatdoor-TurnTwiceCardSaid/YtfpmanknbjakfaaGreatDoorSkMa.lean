/-
  A global whose cells are known for good: the table that the card lists and strconv.Itoa reads.
-/
import Derived.Calls
import Derived.Lib.ItoaNum
import Derived.AtR
import Derived.Below
import Derived.Laws.Slices
import Derived.ChangeKeysEq
import Derived.Laws.StructEq
import Derived.Laws.CopyRow
import Derived.Laws.Entries
import Derived.Laws.IdiomMaps
import GoSem.Instr.MapUpdate
import Derived.Laws.Cells
import Derived.Laws.Append
import Derived.Laws.IdiomCopy
import Derived.Laws.MakeOwn
import Derived.Laws.BytesString
import Derived.IntWalk
set_option linter.unusedSimpArgs false
set_option linter.unusedVariables false
set_option maxHeartbeats 16000000
namespace Go
theorem aac:type_of% @Option.some.injEq:=@Option.some.injEq
theorem aae:type_of% @List.getElem?_eq_getElem:=@List.getElem?_eq_getElem
theorem aag:type_of% @Option.some.inj:=@Option.some.inj
theorem aah:type_of% @List.length_map:=@List.length_map
theorem aal:type_of% @List.getD_eq_getElem?_getD:=@List.getD_eq_getElem?_getD
theorem aan:type_of% @List.eq_nil_of_length_eq_zero:=@List.eq_nil_of_length_eq_zero
theorem aao:type_of% @List.getElem?_eq_some_iff:=@List.getElem?_eq_some_iff
theorem aaO:type_of% @List.length_append:=@List.length_append
theorem aaR:type_of% @List.getElem?_map:=@List.getElem?_map
theorem aaW:type_of% @Prod.mk.injEq:=@Prod.mk.injEq
theorem aa9:type_of% @List.append_assoc:=@List.append_assoc
theorem abn:type_of% @List.mem_of_getElem?:=@List.mem_of_getElem?
theorem abB:type_of% @Bool.and_eq_true:=@Bool.and_eq_true
theorem abR:type_of% @List.mem_append_right:=@List.mem_append_right
theorem ab5:type_of% @Nat.le_refl:=@Nat.le_refl
theorem acd:type_of% @Int.toNat_natCast:=@Int.toNat_natCast
theorem aco:type_of% @List.getElem?_eq_none:=@List.getElem?_eq_none
theorem acy:type_of% @List.all_cons:=@List.all_cons
theorem acD:type_of% @List.mem_cons:=@List.mem_cons
theorem acI:type_of% @List.mem_append:=@List.mem_append
theorem acM:type_of% @List.cons_append:=@List.cons_append
theorem acP:type_of% @List.drop_eq_getElem_cons:=@List.drop_eq_getElem_cons
theorem acX:type_of% @List.getElem?_cons_zero:=@List.getElem?_cons_zero
theorem adk:type_of% @List.mem_append_left:=@List.mem_append_left
theorem adH:type_of% @Int.toNat_of_nonneg:=@Int.toNat_of_nonneg
theorem adI:type_of% @List.getElem?_append_right:=@List.getElem?_append_right
theorem adM:type_of% @Nat.zero_le:=@Nat.zero_le
theorem adP:type_of% @List.length_cons:=@List.length_cons
theorem agV:type_of% @List.nil_append:=@List.nil_append
theorem ajr:type_of% @List.map_cons:=@List.map_cons
theorem ajs:type_of% @Nat.zero_add:=@Nat.zero_add
theorem ajt:type_of% @List.getElem?_append_left:=@List.getElem?_append_left
theorem aju:type_of% @List.length_take:=@List.length_take
theorem ajv:type_of% @Nat.le_of_ble_eq_true:=@Nat.le_of_ble_eq_true
theorem ajw:type_of% @Nat.lt_of_lt_of_le:=@Nat.lt_of_lt_of_le
theorem ajx:type_of% @List.map_append:=@List.map_append
theorem ajy:type_of% @List.mem_map:=@List.mem_map
theorem ajz:type_of% @List.all_eq_true:=@List.all_eq_true
theorem ajA:type_of% @List.mem_singleton:=@List.mem_singleton
theorem ajB:type_of% @Bool.false_eq_true:=@Bool.false_eq_true
theorem ajC:type_of% @List.drop_eq_nil_of_le:=@List.drop_eq_nil_of_le
theorem ajD:type_of% @List.mem_range:=@List.mem_range
theorem ajE:type_of% @Option.bind_some:=@Option.bind_some
theorem ajF:type_of% @Option.map_some:=@Option.map_some
theorem ajG:type_of% @List.getElem?_cons_succ:=@List.getElem?_cons_succ
theorem ajH:type_of% @Bool.or_eq_true:=@Bool.or_eq_true
theorem ajI:type_of% @Array.getElem?_eq_some_iff:=@Array.getElem?_eq_some_iff
theorem ajJ:type_of% @List.getElem_cons_zero:=@List.getElem_cons_zero
theorem ajK:type_of% @List.take_of_length_le:=@List.take_of_length_le
theorem ajL:type_of% @Nat.mul_one:=@Nat.mul_one
theorem ajM:type_of% @List.append_nil:=@List.append_nil
theorem ajN:type_of% @List.take_append_drop:=@List.take_append_drop
theorem ajO:type_of% @Nat.lt_or_ge:=@Nat.lt_or_ge
theorem ajP:type_of% @Nat.add_mul:=@Nat.add_mul
theorem ajQ:type_of% @Nat.mul_le_mul_right:=@Nat.mul_le_mul_right
theorem ajR:type_of% @List.dropLast_concat_getLast:=@List.dropLast_concat_getLast
theorem ajS:type_of% @Option.map_eq_some_iff:=@Option.map_eq_some_iff
theorem ajT:type_of% @Nat.le_trans:=@Nat.le_trans
theorem ajU:type_of% @List.mem_cons_of_mem:=@List.mem_cons_of_mem
theorem ajV:type_of% @List.cons.injEq:=@List.cons.injEq
theorem ajW:type_of% @Nat.eq_of_beq_eq_true:=@Nat.eq_of_beq_eq_true
theorem ajX:type_of% @List.drop_zero:=@List.drop_zero
theorem ajY:type_of% @List.ext_getElem?:=@List.ext_getElem?
theorem ajZ:type_of% @List.take_add_one:=@List.take_add_one
theorem aj0:type_of% @List.length_drop:=@List.length_drop
theorem aj1:type_of% @List.getElem?_set:=@List.getElem?_set
theorem aj2:type_of% @List.length_singleton:=@List.length_singleton
theorem aj3:type_of% @List.all_nil:=@List.all_nil
theorem aj4:type_of% @List.getElem_map:=@List.getElem_map
theorem aj5:type_of% @Array.getD_eq_getD_getElem?:=@Array.getD_eq_getD_getElem?
theorem aj6:type_of% @Bool.false_and:=@Bool.false_and
theorem aj7:type_of% @List.length_eq_zero_iff:=@List.length_eq_zero_iff
theorem aj8:type_of% @List.length_pos_iff:=@List.length_pos_iff
theorem aj9:type_of% @List.length_nil:=@List.length_nil
theorem akb:type_of% @List.nodup_cons:=@List.nodup_cons
theorem akc:type_of% @List.flatMap_cons:=@List.flatMap_cons
theorem akd:type_of% @List.mem_of_mem_take:=@List.mem_of_mem_take
theorem ake:type_of% @List.length_replicate:=@List.length_replicate
theorem akf:type_of% @List.getElem?_range:=@List.getElem?_range
theorem akg:type_of% @List.map_congr_left:=@List.map_congr_left
theorem akh:type_of% @List.take_length:=@List.take_length
theorem aki:type_of% @Nat.lt_irrefl:=@Nat.lt_irrefl
theorem akj:type_of% @Nat.add_assoc:=@Nat.add_assoc
theorem akk:type_of% @List.getElem?_replicate:=@List.getElem?_replicate
theorem akl:type_of% @List.map_set:=@List.map_set
theorem akm:type_of% @Array.getElem?_eq_none:=@Array.getElem?_eq_none
theorem akn:type_of% @List.foldl_cons:=@List.foldl_cons
theorem ako:type_of% @Nat.testBit_or:=@Nat.testBit_or
theorem akp:type_of% @List.pairwise_iff_getElem:=@List.pairwise_iff_getElem
theorem akq:type_of% @Nat.le_of_not_lt:=@Nat.le_of_not_lt
theorem akr:type_of% @List.perm_middle:=@List.perm_middle
theorem aks:type_of% @Bool.not_eq_true':=@Bool.not_eq_true'
theorem akt:type_of% @List.set_append_right:=@List.set_append_right
theorem aku:type_of% @List.mem_iff_getElem?:=@List.mem_iff_getElem?
theorem akv:type_of% @List.pairwise_cons:=@List.pairwise_cons
theorem akw:type_of% @List.length_range':=@List.length_range'
theorem akx:type_of% @Option.getD_some:=@Option.getD_some
theorem aky:type_of% @List.map_nil:=@List.map_nil
theorem akz:type_of% @Int.lt_or_le:=@Int.lt_or_le
theorem akA:type_of% @List.length_range:=@List.length_range
theorem akB:type_of% @List.take_succ_cons:=@List.take_succ_cons
theorem akC:type_of% @List.drop_succ_cons:=@List.drop_succ_cons
theorem akD:type_of% @List.take_zero:=@List.take_zero
theorem akE:type_of% @Array.getElem?_modify:=@Array.getElem?_modify
theorem akF:type_of% @List.perm_append_comm:=@List.perm_append_comm
theorem akG:type_of% @List.getElem_append_left:=@List.getElem_append_left
theorem akH:type_of% @List.getElem_mem:=@List.getElem_mem
theorem akI:type_of% @List.drop_length:=@List.drop_length
theorem akJ:type_of% @List.pairwise_append:=@List.pairwise_append
theorem akK:type_of% @Bool.true_and:=@Bool.true_and
theorem akL:type_of% @List.filter_cons_of_pos:=@List.filter_cons_of_pos
theorem akM:type_of% @List.filter_cons_of_neg:=@List.filter_cons_of_neg
theorem akN:type_of% @Bool.and_false:=@Bool.and_false
theorem akO:type_of% @List.getElem_take:=@List.getElem_take
theorem akP:type_of% @Array.ext':=@Array.ext'
theorem akQ:type_of% @List.foldl_append:=@List.foldl_append
theorem akR:type_of% @List.range_succ:=@List.range_succ
theorem akS:type_of% @List.map_const':=@List.map_const'
theorem akT:type_of% @List.Perm.append_right:=@List.Perm.append_right
theorem akU:type_of% @Option.isSome_none:=@Option.isSome_none
theorem akV:type_of% @List.set_cons_zero:=@List.set_cons_zero
theorem akW:type_of% @List.set_cons_succ:=@List.set_cons_succ
theorem akX:type_of% @Decidable.byContradiction:=@Decidable.byContradiction
theorem akY:type_of% @Bool.or_eq_false_iff:=@Bool.or_eq_false_iff
theorem akZ:type_of% @List.pairwise_map:=@List.pairwise_map
theorem ak0:type_of% @List.nodup_append:=@List.nodup_append
theorem ak1:type_of% @Bool.not_true:=@Bool.not_true
theorem ak2:type_of% @Nat.blt_eq:=@Nat.blt_eq
theorem ak3:type_of% @Nat.mul_le_mul:=@Nat.mul_le_mul
theorem ak4:type_of% @List.getElem?_take:=@List.getElem?_take
theorem ak5:type_of% @Nat.eq_zero_or_pos:=@Nat.eq_zero_or_pos
theorem ak6:type_of% @List.filter_append:=@List.filter_append
theorem ak7:type_of% @List.mem_mergeSort:=@List.mem_mergeSort
theorem ak8:type_of% @Nat.sub_self:=@Nat.sub_self
theorem ak9:type_of% @Bool.false_or:=@Bool.false_or
theorem ala:type_of% @Nat.one_mul:=@Nat.one_mul
theorem alb:type_of% @Nat.add_zero:=@Nat.add_zero
theorem alc:type_of% @Nat.mul_comm:=@Nat.mul_comm
theorem ald:type_of% @Nat.zero_mul:=@Nat.zero_mul
theorem ale:type_of% @List.map_map:=@List.map_map
end Go
namespace Go.Sk
def uN:Nat->Option (Array Value):=fun b=>if b=1 then some (Lib.pow10Tab.map fun z=>Value.int .u64 z).toArray else none
end Go.Sk
namespace Go.Sk
inductive Id where
 |h
 |o (p:Id)
 |i (p:Id)
 deriving DecidableEq
def Id.nat:Id->Nat
 | .h=>1
 | .o p=>2*p.nat
 | .i p=>2*p.nat+1
def Id.succ:Id->Id
 | .h=> .o .h
 | .o p=> .i p
 | .i p=> .o p.succ
theorem Id.qh:∀p:Id,0<p.nat
 | .h=>by simp[Id.nat]
 | .o p=>by have:=p.qh;simp[Id.nat];omega
 | .i p=>by simp[Id.nat]
theorem Id.eB:∀p:Id,p.succ.nat=p.nat+1
 | .h=>rfl
 | .o p=>rfl
 | .i p=>by simp[Id.succ,Id.nat,p.eB];omega
inductive gD (α:Type) where
 |e
 |n (l:gD α) (v:Option α) (r:gD α)
def gD.get{α:Type}:gD α->Id->Option α
 | .e,_=>none
 | .n _ v _,.h=>v
 | .n l _ _,.o p=>l.get p
 | .n _ _ r,.i p=>r.get p
def gD.set{α:Type}:Id->gD α->α->gD α
 | .h,.e,a=> .n .e (some a) .e
 | .h,.n l _ r,a=> .n l (some a) r
 | .o p,.e,a=> .n (gD.set p .e a) none .e
 | .o p,.n l v r,a=> .n (gD.set p l a) v r
 | .i p,.e,a=> .n .e none (gD.set p .e a)
 | .i p,.n l v r,a=> .n l v (gD.set p r a)
theorem gD.ak{α:Type}(a:α):∀(p:Id) (t:gD α) (q:Id),(gD.set p t a).get q=if q=p then some a else t.get q:=by
 intro p
 induction p with
 |h=>intro t q;cases t<;>cases q<;>simp[gD.set,gD.get]
 |o p ih=>intro t q;cases t<;>cases q<;>simp[gD.set,gD.get,ih]
 |i p ih=>intro t q;cases t<;>cases q<;>simp[gD.set,gD.get,ih]
inductive nH where
 |func (f:FuncId)
 |yield (l:Id)
 deriving DecidableEq
inductive Cap where
 |lit
 |full
 |own (g:Id) (e:Nat)
 |unk
 |pat (k m:Nat)
 deriving DecidableEq
inductive Jb where
 |known (c:Nat)
 |room (s:Nat)
 |unk
 deriving DecidableEq
inductive AV where
 |bool (b:Bool)
 |int (k:IntKind) (n:Int)
 |str (l:List UInt8)
 |fP
 |ptr (r:Id) (off:Nat)
 |ref (v:AV)
 |aj
 |eP (xs:List AV) (c:Cap)
 |hsl (r:Id) (off len:Nat) (cap:Jb)
 |fH
 |map (r:Id)
 |fn (f:nH) (first captured:List AV)
 |gL
 |iface (t:TypeId) (v:AV)
 |fB
 |agg (cs:List AV)
 |eU (vs:List AV)
instance:Inhabited AV:=⟨.eU []⟩
def Ak:AV:= .eU []
def AV.cells:AV->List AV
 | .agg cs=>cs
 |v=>[v]
def PX(k i:Nat):AV:=
 match k with
 |0=> .int .u8 (((282+7*i) % 256:Nat):Int)
 |1=> .int .i64 ((9437185+i:Nat):Int)
 |2=> .agg [.str [],.int .i64 ((9437185+i:Nat):Int)]
 |3=> .agg [.int .i64 0,.int .i64 0,.int .i64 0,.int .i64 ((9437185+i:Nat):Int)]
 |4=> .agg [.int .i64 0,.int .i64 ((9437185+i:Nat):Int)]
 |5=> .agg [.int .i64 ((9437185+i:Nat):Int),.int .i64 0]
 |_=> .int .i64 0
def Li(k:Nat):Nat:=
 match k with
 |0=>1
 |1=>1
 |2=>2
 |3=>4
 |4=>2
 |5=>2
 |_=>1
def QA(k i m:Nat):List AV:=(List.range m).map fun j=>PX k (i+j)
theorem Rp(k i:Nat):(PX k i).cells.length=Li k:=by
 unfold PX Li;split<;>rfl
theorem WR(k i m:Nat):(QA k i m).length=m:=by simp[QA]
theorem acE(k i m j:Nat)(hj:j<(QA k i m).length):(QA k i m)[j]=PX k (i+j):=by simp[QA]
inductive AO where
 |cells (cs:List AV) (T:TypeId)
 |map (es:List (AV × AV × Nat)) (clock:Nat)
 |jE (s:List UInt8) (pos:Nat)
 |jr (m:Option Id) (since:Nat) (seen:List Nat) (stepped:Nat)
 |loop (st:LoopState) (pending:Option Code) (fn:FuncId) (tm:List AV) (ps:Array Tmp) (assign body:Code) (defs:Id)
 |defs (open_:Bool)
 |fD (e:Nat)
 |dead
structure AH where
 t:gD AO
 next:Id
def AH.empty:AH:=⟨.e,.h⟩
def AH.get(h:AH)(r:Id):Option AO:=h.t.get r
def AH.set(h:AH)(r:Id)(o:AO):AH:=⟨gD.set r h.t o,h.next⟩
def AH.alloc(h:AH)(o:AO):AH:=⟨gD.set h.next h.t o,h.next.succ⟩
theorem AH.ak(h:AH)(r q:Id)(o:AO):(h.set r o).get q=if q=r then some o else h.get q:=gD.ak ..
theorem AH.au(h:AH)(q:Id)(o:AO):(h.alloc o).get q=if q=h.next then some o else h.get q:=gD.ak ..
theorem AH.fE(h:AH)(r:Id)(o:AO):(h.set r o).next=h.next:=rfl
theorem AH.bn(h:AH)(o:AO):(h.alloc o).next=h.next.succ:=rfl
def Fv:Value->Option AV
 | .bool b=>some (.bool b)
 | .int k n=>some (.int k n)
 | .string s=>some (.str s.data.toList)
 | .pointer none=>some .fP
 | .slice none 0 0=>some .aj
 | .map none=>some .fH
 | .nilFunc=>some .gL
 | .nilIface=>some .fB
 |_=>none
def ofConst:Value->Option AV
 | .agg cs=>(cs.toList.mapM Fv).map .agg
 | .tuple vs=>if vs.size=0 then some (.eU [])else none
 |v=>Fv v
def EM(P:Program)(t:TypeId):Option Bool:=
 match P.underlying t with
 |some (.struct _)=>some true
 |some (.array _ _)=>some true
 |some _=>some false
 |none=>none
def sizeT(P:Program)(t:TypeId):Option Nat:=(P.info? t).map (·.size)
def BL(P:Program)(t:TypeId):Option AV:=((P.info? t).bind (·.zero)).bind ofConst
def Ib(P:Program)(t:TypeId)(cs:List AV)(off:Nat):Option AV:=
 match EM P t with
 |some true=>(sizeT P t).map fun n=> .agg ((cs.drop off).take n)
 |some false=>cs[off]?
 |none=>none
def ahx(P:Program)(t:TypeId)(cs:List AV):Option AV:=
 match EM P t,cs with
 |some true,cs=>some (.agg cs)
 |some false,[v]=>some v
 |_,_=>none
def Iu(P:Program)(eq:TypeId->AV->AV->Option Bool)(xs ys:List AV):List Field->Option Bool
 |[]=>some true
 |f::fs=>
  if f.name≠ "_" then
   match Ib P f.type xs f.offset,Ib P f.type ys f.offset with
   |some a,some b=>
    match eq f.type a b with
    |some true=>Iu P eq xs ys fs
    |some false=>some false
    |none=>none
   |_,_=>none
  else Iu P eq xs ys fs
def La(P:Program)(eq:AV->AV->Option Bool)(elem:TypeId)(n:Nat)(xs ys:List AV):Nat->Nat->Option Bool
 |0,_=>some true
 |k+1,i=>
  match Ib P elem xs (i*n),Ib P elem ys (i*n)with
  |some a,some b=>
   match eq a b with
   |some true=>La P eq elem n xs ys k (i+1)
   |some false=>some false
   |none=>none
  |_,_=>none
def DW(P:Program):Nat->TypeId->AV->AV->Option Bool
 |0,_,_,_=>none
 |d+1,t,x,y=>
  match P.underlying t with
  |some .bool=>match x,y with| .bool a,.bool b=>some (a==b)|_,_=>none
  |some (.int _)=>match x,y with| .int k a,.int k' b=>if k=k' then some (a==b)else none|_,_=>none
  |some .string=>match x,y with| .str a,.str b=>some (a==b)|_,_=>none
  |some (.pointer e)=>
   match x,y with
   | .fP,.fP=>some true
   | .fP,.ptr _ _=>some false
   | .ptr _ _,.fP=>some false
   | .fP,.ref _=>some false
   | .ref _,.fP=>some false
   | .ptr a i,.ptr b j=>if a=b/\(sizeT P e).any (· ≠0)then some (i==j)else none
   |_,_=>none
  |some (.interface _)=>
   match x,y with
   | .fB,.fB=>some true
   | .fB,.iface _ _=>some false
   | .iface _ _,.fB=>some false
   | .iface tx vx,.iface ty vy=>
    if tx≠ty then some false
    else if(P.info? tx).any (·.comparable)then DW P d tx vx vy else none
   |_,_=>none
  |some (.struct fs)=>
   match x,y with
   | .agg xs,.agg ys=>if P.stoodInHeld t then none else Iu P (DW P d) xs ys fs.toList
   |_,_=>none
  |some (.array len elem)=>
   match x,y,sizeT P elem with
   | .agg xs,.agg ys,some n=>La P (DW P d elem) elem n xs ys len 0
   |_,_,_=>none
  |some (.slice _)=>
   match x,y with
   | .aj,.aj=>some true
   | .aj,.eP _ _=>some false
   | .aj,.hsl _ _ _ _=>some false
   | .eP _ _,.aj=>some false
   | .hsl _ _ _ _,.aj=>some false
   |_,_=>none
  |some (.map _ _)=>
   match x,y with
   | .fH,.fH=>some true
   | .fH,.map _=>some false
   | .map _,.fH=>some false
   |_,_=>none
  |some (.func _ _ _)=>
   match x,y with
   | .gL,.gL=>some true
   | .gL,.fn _ _ _=>some false
   | .fn _ _ _,.gL=>some false
   |_,_=>none
  |_=>none
def mY(P:Program)(t:TypeId)(x y:AV):Option Bool:=DW P 10000 t x y
def plainCell:AV->Bool
 | .bool _=>true
 | .int _ _=>true
 | .str _=>true
 |_=>false
def J6(P:Program)(ok:TypeId->AV->Bool)(cs:List AV):List Field->Bool
 |[]=>true
 |f::fs=>(if f.name≠ "_" then(match Ib P f.type cs f.offset with|some v=>ok f.type v|none=>false)else true)&&J6 P ok cs fs
def MI(P:Program)(ok:AV->Bool)(elem:TypeId)(n:Nat)(cs:List AV):Nat->Nat->Bool
 |0,_=>true
 |k+1,i=>(match Ib P elem cs (i*n)with|some v=>ok v|none=>false)&&MI P ok elem n cs k (i+1)
def Ga(P:Program):Nat->TypeId->AV->Bool
 |0,_,_=>false
 |d+1,t,v=>
  match P.underlying t with
  |some (.interface _)=>false
  |some (.array len elem)=>match v,sizeT P elem with| .agg cs,some n=>MI P (Ga P d elem) elem n cs len 0|_,_=>false
  |some (.struct fs)=>match v with| .agg cs=>J6 P (Ga P d) cs fs.toList|_=>false
  |some _=>true
  |none=>false
def Dj:AV->AV->Bool
 | .bool a,.bool b=>a==b
 | .int j a,.int k b=>j==k&&a==b
 | .str a,.str b=>a==b
 |_,_=>false
def BR:List AV->List AV->Bool
 |[],[]=>true
 |a::l,b::r=>Dj a b&&BR l r
 |_,_=>false
def D5:AV->AV->Bool
 | .agg a,.agg b=>BR a b
 |a,b=>Dj a b
def OQ(eq:AV->Option Bool)(k:AV):List (AV × AV × Nat)->Nat->Option (Option (Nat × AV × Nat))
 |[],_=>some none
 |(k',v,b)::es,i=>
  match eq k' with
  |some true=>if D5 k k' then some (some (i,v,b))else none
  |some false=>OQ eq k es (i+1)
  |none=>none
def EY(P:Program)(kt:TypeId)(k:AV)(es:List (AV × AV × Nat)):Option (Option (Nat × AV × Nat)):=
 if Ga P 10000 kt k then OQ (fun e=>mY P kt k e) k es 0 else none
def JM(op:BinOp)(k:IntKind)(x y:Int):Option Int:=
 let a:=BitVec.ofInt k.bits x
 let b:=BitVec.ofInt k.bits y
 match op with
 | .and=>some (k.wrap (a&&&b).toNat)
 | .or=>some (k.wrap (a|||b).toNat)
 | .xor=>some (k.wrap (a ^^^ b).toNat)
 | .andNot=>some (k.wrap (a&&& ~~~b).toNat)
 |_=>none
def Ki(op:BinOp)(k:IntKind)(a b:Int):Option AV:=
 match op with
 | .add=>some (.int k (k.wrap (a+b)))
 | .sub=>some (.int k (k.wrap (a - b)))
 | .mul=>some (.int k (k.wrap (a*b)))
 | .quo=>if b=0 then none else some (.int k (k.wrap (a.tdiv b)))
 | .rem=>if b=0 then none else some (.int k (a.tmod b))
 | .eql=>some (.bool (a==b))
 | .neq=>some (.bool (a != b))
 | .lss=>some (.bool (a<b))
 | .leq=>some (.bool (a<=b))
 | .gtr=>some (.bool (a>b))
 | .geq=>some (.bool (a>=b))
 | .and=>(JM .and k a b).map (.int k)
 | .or=>(JM .or k a b).map (.int k)
 | .xor=>(JM .xor k a b).map (.int k)
 | .andNot=>(JM .andNot k a b).map (.int k)
 |_=>none
def VB(op:BinOp)(k:IntKind)(x y:Int):Option AV:=
 if y<0 then none else
 let n:=min y.toNat k.bits
 match op with
 | .shl=>some (.int k (k.wrap (x*2 ^ n)))
 | .shr=>some (.int k (x.fdiv (2 ^ n)))
 |_=>none
def XP(op:BinOp)(x y:List UInt8):Option AV:=
 match op with
 | .add=>if x.length+y.length<=9223372036854775807 then some (.str (x++y))else none
 | .eql=>some (.bool (x==y))
 | .neq=>some (.bool (!(x==y)))
 | .lss=>some (.bool (Op.bytesLess x y))
 | .leq=>some (.bool (Op.bytesLess x y||x==y))
 | .gtr=>some (.bool (!(Op.bytesLess x y||x==y)))
 | .geq=>some (.bool (!Op.bytesLess x y))
 |_=>none
def IL(P:Program)(t:TypeId)(x y:Operand)(a b:AV):Bool:=
 match a,b with
 | .fB,.fB=>(match x with| .const _=>true|_=>false)||(match y with| .const _=>true|_=>false)
 | .agg _,.agg _=>!P.eqGuardType P.depth t
 |_,_=>true
def YB(P:Program)(op:BinOp)(t:TypeId)(ox oy:Operand)(x y:AV):Option AV:=
 if IL P t ox oy x y then
  match op with
  | .eql=>(mY P t x y).map .bool
  | .neq=>(mY P t x y).map fun b=> .bool (!b)
  |_=>none
 else none
def Ra(P:Program)(op:BinOp)(t:TypeId)(ox oy:Operand)(x y:AV):Option AV:=
 match x,y with
 | .int k a,.int k' b=>if k=k' then Ki op k a b else none
 | .str a,.str b=>XP op a b
 |x,y=>YB P op t ox oy x y
def Fw(P:Program)(op:BinOp)(t:TypeId)(ox oy:Operand)(x y:AV):Option AV:=
 match op with
 | .shl=>match x,y with| .int k a,.int _ b=>VB .shl k a b|_,_=>none
 | .shr=>match x,y with| .int k a,.int _ b=>VB .shr k a b|_,_=>none
 |op=>Ra P op t ox oy x y
def Xf(op:UnOp)(x:AV):Option AV:=
 match op,x with
 | .neg,.int k n=>Ki .sub k 0 n
 | .xor,.int k n=>Ki .xor k (if k.signed then -1 else k.max) n
 | .not,.bool b=>some (.bool !b)
 |_,_=>none
end Go.Sk
namespace Go.Sk
inductive Ar where
 |ret (v:AV)
 |iY (v:AV)
structure Cx where
 P:Program
 mu:FuncId->Nat->Bool
 call:nH->List AV->AH->Option (Ar × AH)
def Ay(tm:List AV):Operand->Option AV
 | .tmp t=>some (tm.getD t Ak)
 | .const v=>ofConst v
 | .global _=>none
 | .func f=>some (.fn (.func f) [] [])
def Av(P:Program)(t:TypeId)(p:AV)(h:AH):Option AV:=
 match p with
 | .ptr r off=>
  match h.get r,EM P t,sizeT P t with
  |some (.cells cs _),some true,some n=>if off+n<=cs.length then some (.agg ((cs.drop off).take n))else none
  |some (.cells cs _),some false,some _=>cs[off]?
  |_,_,_=>none
 | .ref v=>
  match EM P t,sizeT P t,v with
  |some true,some n,.agg cs=>if cs.length=n then some (.agg cs)else none
  |some false,some _,.agg _=>none
  |some false,some _,v=>some v
  |_,_,_=>none
 |_=>none
def setCells{α:Type}:List α->Nat->List α->List α
 |cs,_,[]=>cs
 |cs,off,v::vs=>setCells (cs.set off v) (off+1) vs
def AV.scalar:AV->Bool
 | .agg _=>false
 | .eU _=>false
 |_=>true
def Cg(P:Program)(t:TypeId)(p v:AV)(h:AH):Option AH:=
 match p with
 | .ptr r off=>
  match h.get r,sizeT P t with
  |some (.cells cs T),some n=>if v.cells.length=n/\off+n<=cs.length/\v.cells.all AV.scalar=true then some (h.set r (.cells (setCells cs off v.cells) T))else none
  |_,_=>none
 |_=>none
def LQ(elem:TypeId)(v:AV)(h:AH):Option (AV × AH):=if v.cells.all AV.scalar=true then some (.ptr h.next 0,h.alloc (.cells v.cells elem))else none
def Df(P:Program)(elem:TypeId)(x:AV)(h:AH):Option (List AV):=
 match x with
 | .aj=>some []
 | .eP xs _=>some xs
 | .hsl r off len _=>
  match h.get r,EM P elem,sizeT P elem with
  |some (.cells cs _),some true,some n=>if off+len*n<=cs.length then some ((List.range len).map fun i=> .agg ((cs.drop (off+i*n)).take n))else none
  |some (.cells cs _),some false,some 1=>if off+len<=cs.length then some ((cs.drop off).take len)else none
  |_,_,_=>none
 | .str l=>some (l.map fun b=> .int .u8 b.toNat)
 |_=>none
def TN(place:Nat->Option (Nat × Nat))(cells:List AV):List (Nat × AV)->Option (List AV)
 |[]=>some cells
 |(i,v)::rest=>
  match place i with
  |none=>none
  |some (off,size)=>
   if v.cells.length≠size||off+v.cells.length>cells.length then none
   else TN place (setCells cells off v.cells) rest
def adE(P:Program)(fs:Array Field):Option (List (Nat × Nat)):=fs.toList.mapM fun f=>(sizeT P f.type).map fun n=>(f.offset,n)
def SN(P:Program)(t:TypeId)(parts:List (Nat × AV)):Option AV:=
 match BL P t,P.underlying t with
 |some z,some (.struct fs)=>
  match adE P fs with
  |some pl=>(TN (pl[·]?) z.cells parts).map .agg
  |none=>none
 |some z,some (.array _ elem)=>
  match sizeT P elem with
  |some n=>(TN (fun i=>some (i*n,n)) z.cells parts).map .agg
  |none=>none
 |_,_=>none
def FP(n:Nat)(xs:List AV):List (Nat × AV)->Option (List AV)
 |[]=>some xs
 |(i,v)::rest=>if v.cells.length=n/\i<xs.length/\v.cells.all AV.scalar=true then FP n (xs.set i v) rest else none
def flat(xs:List AV):List AV:=xs.flatMap AV.cells
def FW(P:Program)(mu:Bool)(t:TypeId)(len:Nat)(parts:List (Nat × AV))(h:AH):Option (AV × AH):=
 match P.underlying t with
 |some (.slice elem)=>
  match sizeT P elem,BL P elem with
  |some n,some z=>
   if n=0\/len*n>16777216\/z.cells.length≠n\/z.cells.all AV.scalar=false then none else
   match FP n (List.replicate len z) parts with
   |some xs=>if mu then some (.hsl h.next 0 len (.known len),h.alloc (.cells (flat xs) elem))else some (.eP xs .lit,h)
   |none=>none
  |_,_=>none
 |_=>none
def FT(P:Program)(t:TypeId)(l c:AV)(h:AH):Option (AV × AH):=
 match P.underlying t,l,c with
 |some (.slice elem),.int _ l,.int _ c=>
  match sizeT P elem,BL P elem with
  |some n,some z=>
   if 0<=l/\l<=c/\z.cells.length=n/\z.cells.all AV.scalar=true/\0<n/\P.bytesOf elem*c<=140737488355328/\c<=140737488355328 then
    some (.hsl h.next 0 l.toNat (.known c.toNat),h.alloc (.cells ((List.replicate c.toNat z).flatMap AV.cells) elem))
   else none
  |_,_=>none
 |_,_,_=>none
def Bj(n:Nat):List AV->Bool
 |[]=>true
 |y::_=>y.cells.length==n
def Bg(P:Program)(mu:Bool)(argTypes:Array TypeId)(s x:AV)(h:AH):Option (AV × AH):=
 match argTypes[0]?,argTypes[1]? with
 |some t,some tx=>
  match P.underlying t,P.underlying tx with
  |_,some (.int _)=>none
  |some (.slice elem),some _=>
   match Df P elem x h,sizeT P elem,BL P elem with
   |some ys,some n,some z=>
    if n=0\/Bj n ys=false\/z.cells.length≠n\/z.cells.all AV.scalar=false then none else
    match s with
    | .aj=>
     if ys.length=0 then some (.aj,h)
     else if ys.length*P.bytesOf elem>140737488355328\/ys.length>140737488355328 then none
     else if mu then some (.hsl h.next 0 ys.length (.room n),h.alloc (.cells (flat ys) elem))
     else some (.eP ys (.own h.next ys.length),h.alloc (.fD ys.length))
    | .eP xs c=>
     if ys.length=0 then some (s,h)
     else if(xs.length+ys.length)*P.bytesOf elem>140737488355328\/xs.length+ys.length>140737488355328\/Bj n xs=false then none
     else match c with
      | .own g e=>
       match h.get g with
       |some (.fD e')=>if e=e'/\xs.length≠0 then some (.eP (xs++ys) (.own g (e+ys.length)),h.set g (.fD (e+ys.length)))else none
       |_=>none
      | .unk=>none
      | .pat _ _=>none
      |_=>
       if mu then some (.hsl h.next 0 (xs.length+ys.length) (.room n),h.alloc (.cells (flat (xs++ys)) elem))
       else some (.eP (xs++ys) (.own h.next (xs.length+ys.length)),h.alloc (.fD (xs.length+ys.length)))
    | .hsl r off len (.known cap)=>
     if ys.length=0 then some (s,h)
     else if(len+ys.length)*P.bytesOf elem>140737488355328\/len+ys.length>140737488355328 then none
     else match h.get r with
      |some (.cells cs T)=>
       if off+cap*n>cs.length then none
       else if len+ys.length<=cap then some (.hsl r off (len+ys.length) (.known cap),h.set r (.cells (setCells cs (off+len*n) (flat ys)) T))
       else if mu then some (.hsl h.next 0 (len+ys.length) (.room n),h.alloc (.cells ((cs.drop off).take (len*n)++flat ys) elem))
       else match Df P elem s h with
        |some xs=>if Bj n xs=true/\xs.length=len then some (.eP (xs++ys) (.own h.next (len+ys.length)),h.alloc (.fD (len+ys.length)))else none
        |none=>none
      |_=>none
    | .hsl r off len (.room rs)=>
     if ys.length=0 then some (s,h)
     else if(len+ys.length)*P.bytesOf elem>140737488355328\/len+ys.length>140737488355328 then none
     else match h.get r with
      |some (.cells cs T)=>
       if len*n<=cs.length/\off=0/\rs=n/\T=elem then some (.hsl h.next 0 (len+ys.length) (.room n),(h.set r .dead).alloc (.cells (cs.take (len*n)++flat ys) T))
       else none
      |_=>none
    |_=>none
   |_,_,_=>none
  |_,_=>none
 |_,_=>none
def uO(P:Program)(t:TypeId)(x:AV)(h:AH):Option AV:=
 match P.underlying t,x with
 |some .string,.str l=>some (.int .i64 l.length)
 |some (.array n _),_=>some (.int .i64 n)
 |some (.slice _),.aj=>some (.int .i64 0)
 |some (.slice _),.eP xs _=>some (.int .i64 xs.length)
 |some (.slice _),.hsl _ _ n _=>some (.int .i64 n)
 |some (.map _ _),.fH=>some (.int .i64 0)
 |some (.map _ _),.map r=>match h.get r with|some (.map es _)=>some (.int .i64 es.length)|_=>none
 |_,_=>none
def aes(P:Program)(t:TypeId)(x:AV):Option AV:=
 match P.underlying t,x with
 |some (.slice _),.aj=>some (.int .i64 0)
 |some (.slice _),.eP xs .lit=>some (.int .i64 xs.length)
 |some (.slice _),.eP xs .full=>some (.int .i64 xs.length)
 |some (.slice _),.hsl _ _ _ (.known c)=>some (.int .i64 c)
 |_,_=>none
def abw(P:Program)(argTypes:Array TypeId)(d x:AV)(h:AH):Option (AV × AH):=
 match argTypes[0]? with
 |some t=>
  match P.underlying t with
  |some (.slice elem)=>
   match Df P elem x h,sizeT P elem,d with
   |some ys,some n,.aj=>if n=0\/Bj n ys=false then none else some (.int .i64 0,h)
   |some ys,some n,.hsl r off len _=>
    match h.get r with
    |some (.cells cs T)=>
     let m:=Nat.min ys.length len
     if n=0\/Bj n ys=false\/off+len*n>cs.length then none
     else some (.int .i64 m,h.set r (.cells (setCells cs off (flat (ys.take m))) T))
    |_=>none
   |_,_,_=>none
  |_=>none
 |none=>none
def YV:AV->AV->Option AV
 | .int k x,.int _ y=>some (.int k (if y>x then y else x))
 |_,_=>none
def YR:AV->AV->Option AV
 | .int k x,.int _ y=>some (.int k (if y<x then y else x))
 |_,_=>none
def Ui(f:AV->AV->Option AV):AV->List AV->Option AV
 |x,[]=>some x
 |x,y::r=>match f x y with|some z=>Ui f z r|none=>none
def KX(m:AV)(h:AH):Option (List (AV × AV × Nat)):=
 match m with
 | .fH=>some []
 | .map r=>match h.get r with|some (.map es _)=>some es|_=>none
 |_=>none
def D9(P:Program)(t:TypeId)(m k:AV)(commaOk:Bool)(h:AH):Option AV:=
 match P.underlying t with
 |some (.map kt et)=>
  match KX m h with
  |some es=>
   match EY P kt k es with
   |some (some (_,v,_))=>some (if commaOk then .eU [v,.bool true]else v)
   |some none=>(BL P et).map fun z=>if commaOk then .eU [z,.bool false]else z
   |none=>none
  |none=>none
 |_=>none
def Bb{α:Type}:List α->Nat->(α->α)->List α
 |[],_,_=>[]
 |a::l,0,f=>f a::l
 |a::l,n+1,f=>a::Bb l n f
def DJ(P:Program)(t:TypeId)(m k v:AV)(h:AH):Option AH:=
 match P.underlying t,m with
 |some (.map kt _),.map r=>
  match h.get r with
  |some (.map es clock)=>
   match EY P kt k es with
   |some (some (i,_,_))=>some (h.set r (.map (Bb es i fun e=>(k,v,e.2.2)) clock))
   |some none=>some (h.set r (.map (es++[(k,v,clock)]) (clock+1)))
   |none=>none
  |_=>none
 |_,_=>none
def FV(P:Program)(t:TypeId)(m k:AV)(h:AH):Option (AV × AH):=
 match P.underlying t,m with
 |some (.map kt et),.map r=>
  match h.get r with
  |some (.map es clock)=>
   match EY P kt k es with
   |some (some (i,v,b))=>some (.eU [v,.int .i64 b],h.set r (.map (Bb es i fun e=>(k,e.2.1,e.2.2)) clock))
   |some none=>(BL P et).map fun z=>(.eU [z,.int .i64 clock],h.set r (.map (es++[(k,z,clock)]) (clock+1)))
   |none=>none
  |_=>none
 |_,_=>none
def Ig(b:Int):List (AV × AV × Nat)->Nat->Option Nat
 |[],_=>none
 |e::es,i=>if(e.2.2:Int)=b then some i else Ig b es (i+1)
def CV(m stamp v:AV)(h:AH):Option AH:=
 match m,stamp with
 | .map r,.int _ b=>
  match h.get r with
  |some (.map es clock)=>
   match Ig b es 0 with
   |some i=>some (h.set r (.map (Bb es i fun e=>(e.1,v,e.2.2)) clock))
   |none=>none
  |_=>none
 |_,_=>none
def U6(P:Program)(argTypes:Array TypeId)(m k:AV)(h:AH):Option AH:=
 match argTypes[0]? with
 |some t=>
  match P.underlying t with
  |some (.map kt _)=>
   match m with
   | .fH=>if Ga P 10000 kt k then some h else none
   | .map r=>
    match h.get r with
    |some (.map es clock)=>
     match EY P kt k es with
     |some (some (i,_,_))=>some (h.set r (.map (es.eraseIdx i) clock))
     |some none=>some h
     |none=>none
    |_=>none
   |_=>none
  |_=>none
 |none=>none
def I4(v:AV)(y:Nat):Option Nat:=
 match v with
 | .int _ i=>if 0<=i/\i<=(y:Int)then some i.toNat else none
 |_=>none
def Cq(v:Option AV)(y d:Nat):Option Nat:=
 match v with
 |some v=>I4 v y
 |none=>some d
def DX(len cap:Nat)(lo hi mx:Option AV):Option (Nat × Nat × Nat):=
 if hi.isNone&&mx.isSome then none else
 (Cq mx cap cap).bind fun m=>(Cq hi m len).bind fun h=>(Cq lo h 0).bind fun l=>some (l,h,m)
def Uq(P:Program)(elem:TypeId)(xs:List AV)(c:Cap)(lo hi mx:Option AV):Option AV:=
 match c,lo,mx,hi with
 | .pat k m,none,none,some (.int ki i)=>
  match I4 (.int ki i) (xs.length+m)with
  |some h=>if xs.length<h/\sizeT P elem=some (Li k)/\xs.all (fun v=>v.cells.length==Li k)=true then some (.eP (xs++QA k xs.length (h - xs.length)) (.pat k (xs.length+m - h)))else none
  |none=>none
 |_,_,_,_=>none
def EU(P:Program)(t:TypeId)(x:AV)(lo hi mx:Option AV):Option AV:=
 match P.underlying t,x with
 |some (.array n elem),.ptr r off=>
  match DX n n lo hi mx,sizeT P elem with
  |some (l,h,m),some s=>some (.hsl r (if m=l then off else off+l*s) (h - l) (.known (m - l)))
  |_,_=>none
 |some .string,.str s=>
  match mx with
  |some _=>none
  |none=>match DX s.length s.length lo hi none with
   |some (l,h,_)=>some (.str ((s.take h).drop l))
   |none=>none
 |some (.slice elem),.aj=>
  match DX 0 0 lo hi mx,sizeT P elem with
  |some _,some _=>some .aj
  |_,_=>none
 |some (.slice elem),.eP xs c=>
  match DX xs.length xs.length lo hi mx,sizeT P elem with
  |some (l,h,m),some s=>
   if l≠0/\Bj s xs=false then none else
   let ys:=(xs.take h).drop l
   match mx,c with
   |some _,_=>some (.eP ys (if h=m then .full else .unk))
   |none,.lit=>some (.eP ys (if h=xs.length then .full else .unk))
   |none,.full=>some (.eP ys (if h=xs.length then .full else .unk))
   |none,.own g e=>some (.eP ys (if h=xs.length then .own g e else .unk))
   |none,.unk=>some (.eP ys .unk)
   |none,.pat _ _=>some (.eP ys .unk)
  |_,_=>Uq P elem xs c lo hi mx
 |some (.slice elem),.hsl r off len (.known cap)=>
  match DX len cap lo hi mx,sizeT P elem with
  |some (l,h,m),some s=>some (.hsl r (if m=l then off else off+l*s) (h - l) (.known (m - l)))
  |_,_=>none
 |some (.slice elem),.hsl r off len c=>
  match mx with
  |some _=>
   match DX len len lo hi mx,sizeT P elem with
   |some (l,h,m),some s=>some (.hsl r (if m=l then off else off+l*s) (h - l) (.known (m - l)))
   |_,_=>none
  |none=>
   match DX len len lo hi none,sizeT P elem with
   |some (l,h,_),some s=>if l=0\/l<len then some (.hsl r (off+l*s) (h - l) (if c= .room s then c else .unk))else some (.eP [] .unk)
   |_,_=>none
 |_,_=>none
def NJ(P:Program)(t:TypeId)(cs:List AV)(off:Nat):Option AV:=
 match EM P t with
 |some true=>(sizeT P t).map fun n=> .ref (.agg ((cs.drop off).take n))
 |some false=>match cs[off]? with
  |some (.agg _)=>none
  |some u=>some (.ref u)
  |none=>none
 |none=>none
def I9(P:Program)(s:TypeId)(x:AV)(i:Nat):Option AV:=
 match P.underlying s with
 |some (.struct fs)=>
  match fs[i]? with
  |some f=>
   match sizeT P f.type,x with
   |some n,.ptr r off=>if n=0 then none else some (.ptr r (off+f.offset))
   |some n,.ref v=>if n=0 then none else NJ P f.type v.cells f.offset
   |_,_=>none
  |none=>none
 |_=>none
def RA(P:Program)(t:TypeId)(x:AV)(i:Nat):Option AV:=
 match P.underlying t,x with
 |some (.struct fs),.agg cs=>match fs[i]? with|some f=>Ib P f.type cs f.offset|none=>none
 |_,_=>none
def BH(P:Program)(t:TypeId)(x ix:AV):Option AV:=
 match P.underlying t,ix with
 |some (.array len elem),.int _ i=>
  match sizeT P elem with
  |some s=>
   if 0<=i/\i<(len:Int)then
    match x with
    | .ptr r off=>some (.ptr r (off+i.toNat*s))
    | .ref v=>NJ P elem v.cells (i.toNat*s)
    |_=>none
   else none
  |none=>none
 |some (.slice elem),.int _ i=>
  match sizeT P elem with
  |some s=>
   match x with
   | .eP xs _=>if 0<=i/\i<(xs.length:Int)then match xs[i.toNat]? with|some v=>if v.cells.length=s then some (.ref v)else none|none=>none else none
   | .hsl r off len _=>if 0<=i/\i<(len:Int)then some (.ptr r (off+i.toNat*s))else none
   |_=>none
  |none=>none
 |_,_=>none
def Nh(P:Program)(t:TypeId)(x ix:AV):Option AV:=
 match P.underlying t,x,ix with
 |some (.array len elem),.agg cs,.int _ i=>
  if 0<=i/\i<(len:Int)then match sizeT P elem with|some s=>Ib P elem cs (i.toNat*s)|none=>none else none
 |some .string,.str s,.int _ i=>if 0<=i then match s[i.toNat]? with|some b=>some (.int .u8 b.toNat)|none=>none else none
 |_,_,_=>none
def PU:List AV->Option (List UInt8)
 |[]=>some []
 | .int .u8 n::r=>(PU r).map (UInt8.ofNat n.toNat:: ·)
 |_=>none
def Ho(P:Program)(src dst:TypeId)(x:AV)(h:AH):Option (AV × AH):=
 match P.underlying src,P.underlying dst,x with
 |some _,some (.int k),.int _ n=>some (.int k (k.wrap n),h)
 |some _,some .string,.int _ n=>some (.str (Utf8.encode n).data.toList,h)
 |some _,some .string,.str s=>some (.str s,h)
 |some _,some (.slice e),.str s=>
  match P.underlying e with
  |some (.int .u8)=>if s.length>140737488355328 then none else some (.eP (s.map fun b=> .int .u8 b.toNat) (.own h.next s.length),h.alloc (.fD s.length))
  |_=>none
 |some (.slice _),some (.slice e),.hsl r off len cap=>
  match P.underlying e,h.get r with
  |some (.int .u8),some (.cells _ _)=>if src=dst then some (.hsl r off len cap,h)else none
  |_,_=>none
 |some (.slice e),some .string,x=>
  match P.underlying e,sizeT P e with
  |some (.int .u8),some 1=>match Df P e x h with|some xs=>(PU xs).map fun s=>(.str s,h)|none=>none
  |_,_=>none
 |_,_,_=>none
def Mw(s:List UInt8)(i:Nat):Nat × Nat:=Utf8.decode ⟨⟨s⟩⟩ i
def Rq(P:Program)(t:TypeId)(x:AV)(h:AH):Option (AV × AH):=
 match P.underlying t,x with
 |some .string,.str s=>some (.ptr h.next 0,h.alloc (.jE s 0))
 |some (.map _ _),.fH=>some (.ptr h.next 0,h.alloc (.jr none 0 [] 0))
 |some (.map _ _),.map r=>match h.get r with|some (.map _ clock)=>some (.ptr h.next 0,h.alloc (.jr (some r) clock [] clock))|_=>none
 |_,_=>none
def RX(it:AV)(isString:Bool)(h:AH):Option (AV × AH):=
 match it,isString with
 | .ptr r 0,true=>
  match h.get r with
  |some (.jE s pos)=>
   if pos<s.length then
    let cw:=Mw s pos
    some (.eU [.bool true,.int .i64 pos,.int .i32 cw.1],h.set r (.jE s (pos+cw.2)))
   else some (.eU [.bool false],h)
  |_=>none
 | .ptr r 0,false=>
  match h.get r with
  |some (.jr none _ _ _)=>some (.eU [.bool false],h)
  |some (.jr (some m) since seen last)=>
   match h.get m with
   |some (.map es clock)=>
    if !seen.isEmpty&&!es.isEmpty&&es.all (fun e=>e.2.2>=last)then none else
    let left:=es.filter fun e=>!seen.contains e.2.2
    let old:=left.filter fun e=>e.2.2<since
    let new:=left.filter fun e=>e.2.2>=since
    match old,new with
    |[],[]=>some (.eU [.bool false],h)
    |[e],[]=>some (.eU [.bool true,e.1,e.2.1],h.set r (.jr (some m) since (seen++[e.2.2]) clock))
    |_,_=>none
   |_=>none
  |_=>none
 |_,_=>none
def Ji(P:Program)(x:AV)(asserted:TypeId)(commaOk:Bool):Option AV:=
 match P.underlying asserted,x with
 |some (.interface _),.fB=>if commaOk then(BL P asserted).map fun z=> .eU [z,.bool false]else none
 |some (.interface want),.iface t v=>
  match P.info? t with
  |some i=>
   match Instr.missingMethod want i.methods with
   |none=>some (if commaOk then .eU [.iface t v,.bool true]else .iface t v)
   |some _=>if commaOk then(BL P asserted).map fun z=> .eU [z,.bool false]else none
  |none=>none
 |some _,.fB=>if commaOk then(BL P asserted).map fun z=> .eU [z,.bool false]else none
 |some _,.iface t v=>
  if t=asserted then some (if commaOk then .eU [v,.bool true]else v)
  else if commaOk then(BL P asserted).map fun z=> .eU [z,.bool false]else none
 |_,_=>none
def eX(h:AH):Option AV->Option (Ar × AH)
 |some v=>some (.ret v,h)
 |none=>none
def CS:Option (AV × AH)->Option (Ar × AH)
 |some (v,h)=>some (.ret v,h)
 |none=>none
def iy:Option AH->Option (Ar × AH)
 |some h=>some (.ret Ak,h)
 |none=>none
def Dh(tm:List AV):List Operand->Option (List AV)
 |[]=>some []
 |o::r=>match Ay tm o,Dh tm r with|some v,some l=>some (v::l)|_,_=>none
def Dc(tm:List AV):List (Nat × Operand)->Option (List (Nat × AV))
 |[]=>some []
 |(i,o)::r=>match Ay tm o,Dc tm r with|some v,some l=>some ((i,v)::l)|_,_=>none
def DZ(tm:List AV):Option Operand->Option (Option AV)
 |none=>some none
 |some o=>(Ay tm o).map some
def Bt(X:Cx)(mu:Bool)(b:Builtin)(argTypes:Array TypeId)(args:List AV)(h:AH):Option (Ar × AH):=
 match b,args with
 | .append,[s,x]=>CS (Bg X.P mu argTypes s x h)
 | .len,[x]=>match argTypes[0]? with|some t=>eX h (uO X.P t x h)|none=>none
 | .cap,[x]=>match argTypes[0]? with|some t=>eX h (aes X.P t x)|none=>none
 | .copy,[d,x]=>CS (abw X.P argTypes d x h)
 | .delete,[m,k]=>iy (U6 X.P argTypes m k h)
 | .max,x::r=>eX h (Ui YV x r)
 | .min,x::r=>eX h (Ui YR x r)
 | .panic,[.iface t v]=>some (.iY (.iface t v),h)
 |_,_=>none
def I6(X:Cx)(mu:Bool)(tm:List AV)(c:Call)(h:AH):Option (Ar × AH):=
 match Dh tm c.args.toList with
 |none=>none
 |some args=>
  match c.callee with
  | .builtin b=>Bt X mu b c.argTypes args h
  | .value f=>
   match Ay tm f with
   |some (.fn (.func k) first captured)=>X.call (.func k) (first++args++captured) h
   |some (.fn (.yield l) first captured)=>if captured.isEmpty then X.call (.yield l) (first++args) h else none
   |_=>none
  | .invoke _ _=>none
def Ci(X:Cx)(fn:FuncId)(tm:List AV)(o:Oper)(h:AH):Option (Ar × AH):=
 let P:=X.P
 match o.op with
 | .move x| .assign x=>eX h (Ay tm x)
 | .pick c a b=>match Ay tm c with|some (.bool true)=>eX h (Ay tm a)|some (.bool false)=>eX h (Ay tm b)|_=>none
 | .alloc elem=>match BL P elem with|some z=>CS (LQ elem z h)|none=>none
 | .box elem x=>match Ay tm x with|some v=>CS (LQ elem v h)|none=>none
 | .build t parts=>match Dc tm parts.toList with|some l=>eX h (SN P t l)|none=>none
 | .buildSlice t len parts=>match Dc tm parts.toList with|some l=>CS (FW P (o.dst.any (X.mu fn)) t len l h)|none=>none
 | .load t a=>match Ay tm a with|some p=>eX h (Av P t p h)|none=>none
 | .store t a x=>match Ay tm a,Ay tm x with|some p,some v=>iy (Cg P t p v h)|_,_=>none
 | .nilCheck x=>match Ay tm x with|some (.ptr r off)=>some (.ret (.ptr r off),h)|some (.ref v)=>some (.ret (.ref v),h)|some (.fn f a b)=>some (.ret (.fn f a b),h)|_=>none
 | .binOp op t x y _=>match Ay tm x,Ay tm y with|some a,some b=>eX h (Fw P op t x y a b)|_,_=>none
 | .unOp op _ x=>match Ay tm x with|some a=>eX h (Xf op a)|none=>none
 | .convert src dst x=>match Ay tm x with|some a=>CS (Ho P src dst a h)|none=>none
 | .makeInterface t x=>match P.underlying t,Ay tm x with|some (.interface _),_=>none|some _,some v=>some (.ret (.iface t v),h)|_,_=>none
 | .makeFunc (.func k) first captured=>match Dh tm first.toList,Dh tm captured.toList with|some a,some b=>some (.ret (.fn (.func k) a b),h)|_,_=>none
 | .makeMap t r=>
  match r with
  |none=>some (.ret (.map h.next),h.alloc (.map [] 0))
  |some x=>match P.underlying t,Ay tm x with|some (.map _ _),some (.int _ _)=>some (.ret (.map h.next),h.alloc (.map [] 0))|_,_=>none
 | .makeSlice t l c=>match Ay tm l,Ay tm c with|some a,some b=>CS (FT P t a b h)|_,_=>none
 | .slice t x lo hi mx=>match Ay tm x,DZ tm lo,DZ tm hi,DZ tm mx with|some v,some a,some b,some c=>eX h (EU P t v a b c)|_,_,_,_=>none
 | .fieldAddr s x f=>match Ay tm x with|some v=>eX h (I9 P s v f)|none=>none
 | .field t x f=>match Ay tm x with|some v=>eX h (RA P t v f)|none=>none
 | .indexAddr t x ix=>match Ay tm x,Ay tm ix with|some a,some b=>eX h (BH P t a b)|_,_=>none
 | .index t x ix=>match Ay tm x,Ay tm ix with|some a,some b=>eX h (Nh P t a b)|_,_=>none
 | .lookup t x ix ok=>match Ay tm x,Ay tm ix with|some a,some b=>eX h (D9 P t a b ok h)|_,_=>none
 | .mapUpdate t m k x| .insert t m k x=>match Ay tm m,Ay tm k,Ay tm x with|some a,some b,some c=>iy (DJ P t a b c h)|_,_,_=>none
 | .mapEntry t m k=>match Ay tm m,Ay tm k with|some a,some b=>CS (FV P t a b h)|_,_=>none
 | .entryStore _ m s x=>match Ay tm m,Ay tm s,Ay tm x with|some a,some b,some c=>iy (CV a b c h)|_,_,_=>none
 | .range t x=>match Ay tm x with|some v=>CS (Rq P t v h)|none=>none
 | .next it s=>match Ay tm it with|some v=>CS (RX v s h)|none=>none
 | .typeAssert x _ asserted ok=>match Ay tm x with|some v=>eX h (Ji P v asserted ok)|none=>none
 | .extract t ix=>match Ay tm t with|some (.eU vs)=>eX h vs[ix]?|_=>none
 | .call c=>I6 X (o.dst.any (X.mu fn)) tm c h
 | .panic x=>match Ay tm x with|some (.iface t v)=>some (.iY (.iface t v),h)|_=>none
 |_=>none
structure fO where
 tm:List AV
 df:List Id
 h:AH
inductive Bo where
 |normal
 |exit (id:Nat)
 |ret
 |iY (v:AV)
def IG(tm:List AV)(d:Option Tmp)(v:AV):List AV:=
 match d with
 |some d=>tm.set d v
 |none=>tm
def JE(ops:Array Oper)(tm:List AV)(j:Nat):Option Bool:=
 match(ops[j]?).bind (·.dst)with
 |some d=>match tm[d]? with|some (.bool b)=>some b|_=>none
 |none=>none
def BS(ops:Array Oper)(tm:List AV)(o:Oper):Bool:=
 match o.guard with
 |none=>true
 |some (j,want)=>JE ops tm j==some want
def Ic(X:Cx)(fn:FuncId)(ops:Array Oper):List Oper->fO->Option (Bo × fO)
 |[],s=>some (.normal,s)
 |o::r,s=>
  if BS ops s.tm o then
   match Ci X fn s.tm o s.h with
   |some (.ret v,h)=>Ic X fn ops r ⟨IG s.tm o.dst v,s.df,h⟩
   |some (.iY v,h)=>some (.iY v,⟨s.tm,s.df,h⟩)
   |none=>none
  else Ic X fn ops r ⟨IG s.tm o.dst Ak,s.df,s.h⟩
def iter(f:fO->Option (Bo × fO)):Nat->fO->Option (Bo × fO)
 |0,_=>none
 |n+1,s=>
  match f s with
  |some (.normal,s')=>iter f n s'
  |r=>r
def Xr(r:Option (Bo × fO))(f:fO->Option (Bo × fO)):Option (Bo × fO):=
 match r with
 |some (.normal,s)=>f s
 |r=>r
def outBlock(id:Nat)(r:Option (Bo × fO)):Option (Bo × fO):=
 match r with
 |some (.exit i,s)=>if i=id then some (.normal,s)else some (.exit i,s)
 |r=>r
def Gy(fn:FuncId)(rd:Option Id)(ps:Array Tmp)(assign body:Code)(s:fO):Option (Id × fO):=
 match rd with
 |some l=>
  match s.h.get l with
  |some (.loop _ _ _ _ _ _ _ d)=>some (s.h.next,⟨s.tm,s.df,s.h.alloc (.loop .ready none fn s.tm ps assign body d)⟩)
  |_=>none
 |none=>
  let h1:=s.h.alloc (.defs true)
  some (h1.next,⟨s.tm,s.h.next::s.df,h1.alloc (.loop .ready none fn s.tm ps assign body s.h.next)⟩)
def Cm(l:Id)(s:fO):Option (Bo × fO):=
 match s.h.get l with
 |some (.loop st pend fn tm ps assign body d)=>
  match st with
  | .busy=>none
  |_=>
   let s':fO:=⟨s.tm,s.df,s.h.set l (.loop .exhausted pend fn tm ps assign body d)⟩
   match pend with
   |none=>some (.normal,s')
   |some .ret=>some (.ret,s')
   |some (.exit id)=>some (.exit id,s')
   |_=>none
 |_=>none
def BX(X:Cx)(fn:FuncId)(rd:Option Id)(f:Operand)(ps:Array Tmp)(assign body:Code)(s:fO):Option (Bo × fO):=
 match Gy fn rd ps assign body s with
 |none=>none
 |some (l,s1)=>
  match Ay s.tm f with
  |some (.fn (.func k) first captured)=>
   match X.call (.func k) (first++[.fn (.yield l) [] []]++captured) s1.h with
   |some (.ret _,h2)=>Cm l ⟨s1.tm,s1.df,h2⟩
   |some (.iY v,h2)=>some (.iY v,⟨s1.tm,s1.df,h2⟩)
   |none=>none
  |_=>none
def AB(X:Cx)(dw:Nat->Array Oper->fO->Option (Bo × fO))(fn:FuncId)(rd:Option Id)(n:Nat):Code->fO->Option (Bo × fO)
 | .skip,s=>some (.normal,s)
 | .label _,s=>some (.normal,s)
 | .region id ops draw,s=>if draw then dw id ops s else Ic X fn ops ops.toList s
 | .seq a b,s=>Xr (AB X dw fn rd n a s) (AB X dw fn rd n b)
 | .cond c t e,s=>
  match Ay s.tm c with
  |some (.bool true)=>AB X dw fn rd n t s
  |some (.bool false)=>AB X dw fn rd n e s
  |_=>none
 | .block id b,s=>outBlock id (AB X dw fn rd n b s)
 | .loop b,s=>iter (AB X dw fn rd n b) n s
 | .scope b,s=>AB X dw fn rd n b s
 | .exit id,s=>some (.exit id,s)
 | .ret,s=>some (.ret,s)
 | .rangeFunc f ps assign body,s=>BX X fn rd f ps assign body s
 | .goto _,_=>none
 | .refuse _,_=>none
def GX(P:Program)(tm:List AV)(h:AH):ResultVar->Option AV
 | .tmp t=>some (tm.getD t Ak)
 | .cell a t=>Av P t (tm.getD a Ak) h
def Ch(P:Program)(tm:List AV)(h:AH):List ResultVar->Option (List AV)
 |[]=>some []
 |r::rs=>match GX P tm h r,Ch P tm h rs with|some v,some l=>some (v::l)|_,_=>none
def Ep:List AV->AV
 |[v]=>v
 |l=> .eU l
def CJ:List Id->AH->Option AH
 |[],h=>some h
 |d::ds,h=>
  match h.get d with
  |some (.defs true)=>CJ ds (h.set d (.defs false))
  |_=>none
def Eo(P:Program)(fn:Func)(r:Option (Bo × fO)):Option (Ar × AH):=
 match r with
 |some (.normal,s)|some (.ret,s)=>
  match CJ s.df s.h with
  |some h=>match Ch P s.tm h fn.results.toList with|some l=>some (.ret (Ep l),h)|none=>none
  |none=>none
 |some (.iY v,s)=>match CJ s.df s.h with|some h=>some (.iY v,h)|none=>none
 |_=>none
def BO(tm:List AV):List Tmp->List AV->List AV
 |t::ts,v::vs=>BO (tm.set t v) ts vs
 |_,_=>tm
def Du(l:Id)(f:LoopState->Option Code->Option (LoopState × Option Code))(h:AH):Option AH:=
 match h.get l with
 |some (.loop st pd fn tm ps assign body d)=>
  match f st pd with
  |some (st',p)=>some (h.set l (.loop st' p fn tm ps assign body d))
  |none=>none
 |_=>none
def Ei(l:Id)(r:Option (Bo × fO)):Option (Ar × AH):=
 match r with
 |some (.normal,s)=>match Du l (fun _ _=>some (.ready,none)) s.h with|some h=>some (.ret (.bool true),h)|none=>none
 |some (.ret,s)=>match Du l (fun _ _=>some (.done,some .ret)) s.h with|some h=>some (.ret (.bool false),h)|none=>none
 |some (.exit id,s)=>match Du l (fun _ _=>some (.done,some (.exit id))) s.h with|some h=>some (.ret (.bool false),h)|none=>none
 |_=>none
abbrev Am:=FuncId->List AV->AH->Option (AV × AH)
structure Ev where
 P:Program
 mu:FuncId->Nat->Bool
 hk:Am
 dw:Cx->FuncId->Nat->Array Oper->fO->Option (Bo × fO)
def Af(E:Ev):Nat->nH->List AV->AH->Option (Ar × AH)
 |0,_,_,_=>none
 |n+1,.func f,args,h=>
  match E.hk f args h with
  |some r=>some (.ret r.1,r.2)
  |none=>
   match E.P.funcs[f]? with
   |none=>none
   |some fn=>
    match fn.body with
    |none=>none
    |some c=>
     let X:Cx:=⟨E.P,E.mu,Af E n⟩
     Eo E.P fn (AB X (E.dw X f) f none n c ⟨args++List.replicate (fn.ntmps - args.length) Ak,[],h⟩)
 |n+1,.yield l,args,h=>
  match h.get l with
  |some (.loop _ _ fn tm ps assign body _)=>
   if args.length≠ps.size then none else
   let X:Cx:=⟨E.P,E.mu,Af E n⟩
   match AB X (E.dw X fn) fn (some l) n assign ⟨BO tm ps.toList args,[],h⟩with
   |some (.normal,s)=>
    match Du l (fun st pd=>match st with| .ready=>some (.busy,pd)|_=>none) s.h with
    |some h2=>if s.df.isEmpty then Ei l (AB X (E.dw X fn) fn (some l) n body ⟨s.tm,[],h2⟩)else none
    |none=>none
   |_=>none
  |_=>none
end Go.Sk
namespace Go.Sk
structure eF where
 base:Nat
 obj:Id->Option Nat
 fD:Id->Nat->Option (Nat × Nat × Nat)
 fQ:Nat->Nat->Option Value
 iW:Nat->Option Nat
structure eF.le (a b:eF):Prop where
 base:b.base=a.base
 obj:∀r x,a.obj r=some x->b.obj r=some x
 fD:∀g e x,a.fD g e=some x->b.fD g e=some x
 fQ:∀k o v,a.fQ k o=some v->b.fQ k o=some v
 iW:∀k z,a.iW k=some z->b.iW k=some z
theorem eF.le_refl(a:eF):a.le a:=⟨rfl,fun _ _ h=>h,fun _ _ _ h=>h,fun _ _ _ h=>h,fun _ _ h=>h⟩
theorem eF.le_trans{a b c:eF}(h:a.le b)(k:b.le c):a.le c:=
 ⟨k.base.trans h.base,fun r x e=>k.obj r x (h.obj r x e),fun g e x q=>k.fD g e x (h.fD g e x q),fun b o v q=>k.fQ b o v (h.fQ b o v q),fun b z q=>k.iW b z (h.iW b z q)⟩
def ae3:AV->Value
 | .int k n=> .int k n
 | .bool b=> .bool b
 | .str l=> .string ⟨⟨l⟩⟩
 |_=>Go.undef
def jF(ρ:eF)(c:Cap)(b end_ s len n:Nat):Prop:=
 match c with
 | .lit=>n=len
 | .full=>n=len
 | .own g e=>n=len\/∃z,ρ.fD g e=some (b,end_,z)/\end_+(n - len)*s<=z
 | .unk=>True
 | .pat k m=>n=len+m/\(m=0\/Li k=s)/\∀i j,i<m->j<s->ρ.fQ b (end_+i*s+j)=some (ae3 ((PX k (len+i)).cells.getD j Ak))
theorem jF.mono{ρ ρ':eF}(hl:ρ.le ρ'){c:Cap}{b x s len n:Nat}(h:jF ρ c b x s len n):jF ρ' c b x s len n:=by
 cases c with
 |lit=>exact h
 |full=>exact h
 |own g e=>exact h.imp id (fun⟨z,h1,h2⟩=>⟨z,hl.fD g e _ h1,h2⟩)
 |unk=>trivial
 |pat k m=>exact⟨h.1,h.2.1,fun i j hi hj=>hl.fQ _ _ _ (h.2.2 i j hi hj)⟩
def lG(ρ:eF)(c:Jb)(b off n:Nat):Prop:=
 match c with
 | .known c=>n=c
 | .room s=> ∃z,ρ.iW b=some z/\off+n*s<=z
 | .unk=>True
theorem lG.mono{ρ ρ':eF}(hl:ρ.le ρ'){c:Jb}{b off n:Nat}(h:lG ρ c b off n):lG ρ' c b off n:=by
 cases c with
 |known c=>exact h
 |room s=>exact let⟨z,h1,h2⟩:=h;⟨z,hl.iW _ _ h1,h2⟩
 |unk=>trivial
def l6(ρ:eF):nH->Fn->Prop
 | .func f,.func f'=>f=f'
 | .yield l,.yield b=>ρ.obj l=some b
 |_,_=>False
theorem l6.mono{ρ ρ':eF}(hl:ρ.le ρ'){f:nH}{g:Fn}(h:l6 ρ f g):l6 ρ' f g:=by
 cases f<;>cases g<;>simp_all [l6]
 exact hl.obj _ _ h
inductive bf (ρ:eF):AV->Value->Prop
 |bool (b:Bool):bf ρ (.bool b) (.bool b)
 |int (k:IntKind) (n:Int):bf ρ (.int k n) (.int k n)
 |str (l:List UInt8):bf ρ (.str l) (.string ⟨⟨l⟩⟩)
 |fP:bf ρ .fP (.pointer none)
 |ptr (r:Id) (off b:Nat) (h:ρ.obj r=some b):bf ρ (.ptr r off) (.pointer (some ⟨b,off,none⟩))
 |ref (v:AV) (b off:Nat) (c:Nat->Value) (hc:∀j,j<v.cells.length->ρ.fQ b (off+j)=some (c j))
  (hv:∀j (hj:j<v.cells.length),bf ρ v.cells[j] (c j)):bf ρ (.ref v) (.pointer (some ⟨b,off,none⟩))
 |aj:bf ρ .aj (.slice none 0 0)
 |eP (xs:List AV) (cap:Cap) (b off n s:Nat) (c:Nat->Nat->Value)
  (hs:∀i (hi:i<xs.length),xs[i].cells.length=s)
  (hc:∀i j,i<xs.length->j<s->ρ.fQ b (off+i*s+j)=some (c i j))
  (hv:∀i (hi:i<xs.length) j (hj:j<xs[i].cells.length),bf ρ xs[i].cells[j] (c i j))
  (hn:xs.length<=n) (hcap:jF ρ cap b (off+xs.length*s) s xs.length n) :
  bf ρ (.eP xs cap) (.slice (some ⟨b,off,none⟩) xs.length n)
 |hsl (r:Id) (off len:Nat) (cap:Jb) (b n:Nat) (h:ρ.obj r=some b) (hn:len<=n) (hcap:lG ρ cap b off n) :
  bf ρ (.hsl r off len cap) (.slice (some ⟨b,off,none⟩) len n)
 |fH:bf ρ .fH (.map none)
 |map (r:Id) (b:Nat) (h:ρ.obj r=some b):bf ρ (.map r) (.map (some b))
 |fn (f:nH) (g:Fn) (first captured:List AV) (lH qj:Array Value) (hf:l6 ρ f g)
  (h1:lH.size=first.length) (hv1:∀i (hi:i<first.length) (hj:i<lH.size),bf ρ first[i] lH[i])
  (h2:qj.size=captured.length) (hv2:∀i (hi:i<captured.length) (hj:i<qj.size),bf ρ captured[i] qj[i]) :
  bf ρ (.fn f first captured) (.func g lH qj)
 |gL:bf ρ .gL .nilFunc
 |iface (t:TypeId) (v:AV) (cv:Value) (h:bf ρ v cv):bf ρ (.iface t v) (.iface t cv)
 |fB:bf ρ .fB .nilIface
 |agg (cs:List AV) (eG:Array Value) (h1:eG.size=cs.length) (hv:∀i (hi:i<cs.length) (hj:i<eG.size),bf ρ cs[i] eG[i]) :
  bf ρ (.agg cs) (.agg eG)
 |eU (cs:List AV) (eG:Array Value) (h1:eG.size=cs.length) (hv:∀i (hi:i<cs.length) (hj:i<eG.size),bf ρ cs[i] eG[i]) :
  bf ρ (.eU cs) (.tuple eG)
theorem bf.mono{ρ ρ':eF}(hl:ρ.le ρ'){v:AV}{c:Value}(h:bf ρ v c):bf ρ' v c:=by
 induction h with
 |bool b=>exact .bool b
 |int k n=>exact .int k n
 |str l=>exact .str l
 |fP=>exact .fP
 |ptr r off b h=>exact .ptr r off b (hl.obj _ _ h)
 |ref v b off c hc _ ih=>exact .ref v b off c (fun j hj=>hl.fQ _ _ _ (hc j hj)) ih
 |aj=>exact .aj
 |eP xs cap b off n s c hs hc _ hn hcap ih=>exact .eP xs cap b off n s c hs (fun i j hi hj=>hl.fQ _ _ _ (hc i j hi hj)) ih hn (hcap.mono hl)
 |hsl r off len cap b n h hn hcap=>exact .hsl r off len cap b n (hl.obj _ _ h) hn (hcap.mono hl)
 |fH=>exact .fH
 |map r b h=>exact .map r b (hl.obj _ _ h)
 |fn f g a b ca cb hf h1 _ h2 _ ih1 ih2=>exact .fn f g a b ca cb (hf.mono hl) h1 ih1 h2 ih2
 |gL=>exact .gL
 |iface t v cv _ ih=>exact .iface t v cv ih
 |fB=>exact .fB
 |agg cs eG h1 _ ih=>exact .agg cs eG h1 ih
 |eU cs eG h1 _ ih=>exact .eU cs eG h1 ih
theorem abO(ρ:eF)(k i j:Nat)(hj:j<(PX k i).cells.length):bf ρ (PX k i).cells[j] (ae3 (PX k i).cells[j]):=by
 rw[Rp]at hj
 match k,hj with
 |0,hj=>obtain rfl:j=0:=by simp[Li]at hj;omega
        exact .int ..
 |1,hj=>obtain rfl:j=0:=by simp[Li]at hj;omega
        exact .int ..
 |2,hj=>match j,hj with
  |0,_=>exact .str _
  |1,_=>exact .int ..
 |3,hj=>match j,hj with
  |0,_=>exact .int ..
  |1,_=>exact .int ..
  |2,_=>exact .int ..
  |3,_=>exact .int ..
 |4,hj=>match j,hj with
  |0,_=>exact .int ..
  |1,_=>exact .int ..
 |5,hj=>match j,hj with
  |0,_=>exact .int ..
  |1,_=>exact .int ..
 |k+6,hj=>obtain rfl:j=0:=by simp[Li]at hj;omega
          exact .int ..
def dz(ρ:eF)(l:List AV)(c:List Value):Prop:=c.length=l.length/\∀i (hi:i<l.length) (hj:i<c.length),bf ρ l[i] c[i]
theorem dz.mono{ρ ρ':eF}(hl:ρ.le ρ'){l:List AV}{c:List Value}(h:dz ρ l c):dz ρ' l c:=⟨h.1,fun i hi hj=>(h.2 i hi hj).mono hl⟩
theorem dz.nil(ρ:eF):dz ρ [] []:=⟨rfl,fun i hi=>by simp at hi⟩
theorem dz.cons{ρ:eF}{v:AV}{c:Value}{l:List AV}{cl:List Value}(h:bf ρ v c)(hl:dz ρ l cl):dz ρ (v::l) (c::cl):=by
 refine⟨by simp[hl.1],fun i hi hj=>?_⟩
 cases i with
 |zero=>exact h
 |succ i=>exact hl.2 i (by simpa using hi) (by simpa using hj)
theorem dz.head{ρ:eF}{v:AV}{c:Value}{l:List AV}{cl:List Value}(h:dz ρ (v::l) (c::cl)):bf ρ v c:=h.2 0 (by simp) (by simp)
theorem dz.tail{ρ:eF}{v:AV}{c:Value}{l:List AV}{cl:List Value}(h:dz ρ (v::l) (c::cl)):dz ρ l cl:=
 ⟨by have:=h.1;simpa using this,fun i hi hj=>h.2 (i+1) (by simpa using hi) (by simpa using hj)⟩
theorem dz.append{ρ:eF}:∀{a:List AV} {ca:List Value} {b:List AV} {cb:List Value},dz ρ a ca->dz ρ b cb->dz ρ (a++b) (ca++cb)
 |[],[],_,_,_,h=>h
 |[],_::_,_,_,h,_=>by have:=h.1;simp at this
 |_::_,[],_,_,h,_=>by have:=h.1;simp at this
 |_::_,_::_,_,_,h,k=> .cons h.head (dz.append h.tail k)
theorem dz.take{ρ:eF}{l:List AV}{c:List Value}(n:Nat)(h:dz ρ l c):dz ρ (l.take n) (c.take n):=by
 refine⟨by simp[h.1],fun i hi hj=>?_⟩
 simp only[akO]
 exact h.2 i _ _
theorem dz.drop{ρ:eF}{l:List AV}{c:List Value}(n:Nat)(h:dz ρ l c):dz ρ (l.drop n) (c.drop n):=by
 refine⟨by simp[h.1],fun i hi hj=>?_⟩
 simp only[List.getElem_drop]
 exact h.2 _ _ _
theorem dz.set{ρ:eF}{l:List AV}{c:List Value}{v:AV}{x:Value}(n:Nat)(h:dz ρ l c)(hv:bf ρ v x):dz ρ (l.set n v) (c.set n x):=by
 refine⟨by simp[h.1],fun i hi hj=>?_⟩
 simp only[List.getElem_set]
 split
 ·exact hv
 ·exact h.2 _ _ _
theorem dz.getD{ρ:eF}{l:List AV}{c:List Value}{d:AV}{x:Value}(n:Nat)(h:dz ρ l c)(hd:bf ρ d x):bf ρ (l.getD n d) (c.getD n x):=by
 by_cases hn:n<l.length
 ·have hn':n<c.length:=by rw[h.1];exact hn
  simp only[List.getD,aae hn,aae hn',akx]
  exact h.2 _ _ _
 ·simp only[List.getD,aco (Nat.not_lt.1 hn),aco (by rw[h.1];exact Nat.not_lt.1 hn),Option.getD_none]
  exact hd
theorem dz.find{ρ:eF}{l:List AV}{c:List Value}{v:AV}{n:Nat}(h:dz ρ l c)(hv:l[n]?=some v):∃x,c[n]?=some x/\bf ρ v x:=by
 obtain⟨hn,rfl⟩:=aao.1 hv
 have hn':n<c.length:=by rw[h.1];exact hn
 exact⟨c[n],by simp[hn'],h.2 _ _ _⟩
theorem dz.replicate{ρ:eF}{v:AV}{x:Value}(n:Nat)(h:bf ρ v x):dz ρ (List.replicate n v) (List.replicate n x):=
 ⟨by simp,fun i hi hj=>by simpa using h⟩
def iH(ρ:eF)(l:List AV)(c:List Value):Prop:=l.length<=c.length/\∀i (hi:i<l.length) (hj:i<c.length),bf ρ l[i] c[i]
theorem dz.pre{ρ:eF}{l:List AV}{c:List Value}(h:dz ρ l c):iH ρ l c:=⟨by rw[h.1];exact ab5 _,h.2⟩
theorem dz.mH{ρ:eF}{l:List AV}{c:List Value}(h:dz ρ l c)(d:List Value):iH ρ l (c++d):=
 ⟨by rw[aaO,h.1];omega,fun i hi hj=>by rw[akG (by rw[h.1];exact hi)];exact h.2 i hi _⟩
theorem iH.mono{ρ ρ':eF}(hl:ρ.le ρ'){l:List AV}{c:List Value}(h:iH ρ l c):iH ρ' l c:=⟨h.1,fun i hi hj=>(h.2 i hi hj).mono hl⟩
theorem iH.find{ρ:eF}{l:List AV}{c:List Value}{v:AV}{n:Nat}(h:iH ρ l c)(hv:l[n]?=some v):∃x,c[n]?=some x/\bf ρ v x:=by
 obtain⟨hn,rfl⟩:=aao.1 hv
 have hn':n<c.length:=ajw hn h.1
 exact⟨c[n],by simp[hn'],h.2 _ _ _⟩
theorem iH.piece{ρ:eF}{l:List AV}{c:List Value}(h:iH ρ l c)(off n:Nat)(hle:off+n<=l.length):dz ρ ((l.drop off).take n) ((c.drop off).take n):=by
 have:=h.1
 refine⟨by simp only[aju,aj0];omega,fun i hi hj=>?_⟩
 simp only[akO,List.getElem_drop]
 exact h.2 _ _ _
theorem iH.set{ρ:eF}{l:List AV}{c:List Value}{v:AV}{x:Value}(n:Nat)(h:iH ρ l c)(hv:bf ρ v x):iH ρ (l.set n v) (c.set n x):=by
 refine⟨by simp[h.1],fun i hi hj=>?_⟩
 simp only[List.getElem_set]
 split
 ·exact hv
 ·exact h.2 _ _ _
theorem bf.jR{ρ:eF}{cs:List AV}{eG:List Value}(h:dz ρ cs eG):bf ρ (.agg cs) (.agg eG.toArray):=
 .agg cs _ (by simpa using h.1) (fun i hi hj=>by simpa using h.2 i hi (by simpa using hj))
theorem bf.gV{ρ:eF}{cs:List AV}{eG:List Value}(h:dz ρ cs eG):bf ρ (.eU cs) (.tuple eG.toArray):=
 .eU cs _ (by simpa using h.1) (fun i hi hj=>by simpa using h.2 i hi (by simpa using hj))
theorem bf.iA{ρ:eF}{cs:List AV}{c:Value}(h:bf ρ (.agg cs) c):∃eG:List Value,c= .agg eG.toArray/\dz ρ cs eG:=by
 cases h with
 |agg _ eG h1 hv=>exact⟨eG.toList,by simp,by simpa using h1,fun i hi hj=>by simpa using hv i hi (by simpa using hj)⟩
theorem bf.qm{ρ:eF}{cs:List AV}{c:Value}(h:bf ρ (.eU cs) c):∃eG:List Value,c= .tuple eG.toArray/\dz ρ cs eG:=by
 cases h with
 |eU _ eG h1 hv=>exact⟨eG.toList,by simp,by simpa using h1,fun i hi hj=>by simpa using hv i hi (by simpa using hj)⟩
theorem bf.undef(ρ:eF):bf ρ Ak Go.undef:=bf.gV (dz.nil ρ)
theorem bf.cells{ρ:eF}{v:AV}{c:Value}(h:bf ρ v c):dz ρ v.cells c.cells.toList:=by
 have key:∀{v:AV} {c:Value},bf ρ v c->dz ρ [v] [c]:=fun h=> .cons h (.nil ρ)
 cases h with
 |agg cs eG h1 hv=>exact⟨h1,fun i hi hj=>hv i hi hj⟩
 |bool b=>exact key (.bool b)
 |int k n=>exact key (.int k n)
 |str l=>exact key (.str l)
 |fP=>exact key .fP
 |ptr r off b h=>exact key (.ptr r off b h)
 |ref v b off c hc hv=>exact key (.ref v b off c hc hv)
 |aj=>exact key .aj
 |eP xs cap b off n s c hs hc hv hn hcap=>exact key (.eP xs cap b off n s c hs hc hv hn hcap)
 |hsl r off len cap b n h hn hcap=>exact key (.hsl r off len cap b n h hn hcap)
 |fH=>exact key .fH
 |map r b h=>exact key (.map r b h)
 |fn f g a b ca cb hf h1 hv1 h2 hv2=>exact key (.fn f g a b ca cb hf h1 hv1 h2 hv2)
 |gL=>exact key .gL
 |iface t v cv h=>exact key (.iface t v cv h)
 |fB=>exact key .fB
 |eU cs eG h1 hv=>exact key (.eU cs eG h1 hv)
def AO.live:AO->Prop
 | .fD _=>False
 | .dead=>False
 |_=>True
def ZL(ρ:eF)(e:AV × AV × Nat)(c:MapEntry):Prop:=bf ρ e.1 c.key/\bf ρ e.2.1 c.val/\c.born=e.2.2
def jS(ρ:eF)(o:AO)(x:Option Obj):Prop:=
 match o with
 | .cells cs T=> ∃(eG:List Value) (fr:Nat × Nat),x=some (.cells eG.toArray T fr)/\iH ρ cs eG/\(∀v∈eG,v.oneCell'=true)/\(fr=(0,0)\/fr=(eG.length,eG.length+1))
 | .map es clock=> ∃fZ:List MapEntry,x=some (.map fZ.toArray clock)/\fZ.length=es.length/\∀i (hi:i<es.length) (hj:i<fZ.length),ZL ρ es[i] fZ[i]
 | .jE s pos=>x=some (.stringIter ⟨⟨s⟩⟩ pos)
 | .jr m since seen st=> ∃cm,x=some (.mapIter cm since seen.toArray st)/\(match m with|none=>cm=none|some r=> ∃b,ρ.obj r=some b/\cm=some b)
 | .loop st pend _ tm ps assign body d=> ∃(lI:List Value) (db:Nat) (cfn:FuncId),x=some (.loop { state:=st,pending:=pend,fn:=cfn,tmps:=lI.toArray,params:=ps,assign:=assign,body:=body,defers:=db })/\dz ρ tm lI/\ρ.obj d=some db
 | .defs b=>x=some (.deferred (if b then some []else none))
 | .fD _=>True
 | .dead=>True
theorem jS.mono{ρ ρ':eF}(hl:ρ.le ρ'){o:AO}{x:Option Obj}(h:jS ρ o x):jS ρ' o x:=by
 cases o with
 |cells cs T=>obtain⟨eG,fr,e,hr,h1,h2⟩:=h;exact⟨eG,fr,e,hr.mono hl,h1,h2⟩
 |map es clock=>obtain⟨fZ,e,hn,hr⟩:=h;exact⟨fZ,e,hn,fun i hi hj=>let⟨a,b,c⟩:=hr i hi hj;⟨a.mono hl,b.mono hl,c⟩⟩
 |jE s pos=>exact h
 |jr m since seen st=>
  obtain⟨cm,e,hm⟩:=h
  refine⟨cm,e,?_⟩
  cases m with
  |none=>exact hm
  |some r=>obtain⟨b,hb,e2⟩:=hm;exact⟨b,hl.obj _ _ hb,e2⟩
 |loop st pend fn tm ps assign body d=>obtain⟨lI,db,cfn,e,hr,hd⟩:=h;exact⟨lI,db,cfn,e,hr.mono hl,hl.obj _ _ hd⟩
 |defs b=>exact h
 |fD e=>trivial
 |dead=>trivial
theorem Ou{n:Nat}{fr:Nat × Nat}(h:fr=(0,0)\/fr=(n,n+1)){o:Nat}(ho:o<n):¬(fr.1<=o/\o<fr.2):=by
 rcases h with rfl|rfl
 ·simp
 ·simp only;omega
def Own(ρ:eF)(h:AH)(b:Nat):Prop:=
 (∃r o,ρ.obj r=some b/\h.get r=some o/\o.live)\/(∃g e c,ρ.fD g e=some (b,c)/\h.get g=some (.fD e))
structure Rel (ρ:eF) (h:AH) (w:World):Prop where
 obj:∀r o b,h.get r=some o->ρ.obj r=some b->jS ρ o w.heap[b]?
 bound:∀r b,ρ.obj r=some b->ρ.base<=b/\b<w.heap.size/\r.nat<h.next.nat
 inj:∀r r' b,ρ.obj r=some b->ρ.obj r'=some b->h.get r≠some .dead->h.get r'≠some .dead->r=r'
 dom:∀r o,h.get r=some o->r.nat<h.next.nat
 fD:∀g e b c,h.get g=some (.fD e)->ρ.fD g e=some (b,c)->ρ.base<=b/\
  (∃eG T fr,w.heap[b]?=some (.cells eG T fr)/\eG.size=c.2/\∀o,c.1<=o->o<eG.size->¬(fr.1<=o/\o<fr.2))/\
  (∀o v,ρ.fQ b o=some v->o<c.1)/\(∀r,ρ.obj r=some b->h.get r=some .dead)
 gW:∀g e x,ρ.fD g e=some x->g.nat<h.next.nat/\x.1<w.heap.size
 iL:∀g e e' x,h.get g=some (.fD e)->ρ.fD g e'=some x->e'<=e
 gone:∀g o e x,h.get g=some o->ρ.fD g e=some x->∃e',o= .fD e'
 iR:∀g g' e e' b c c',h.get g=some (.fD e)->h.get g'=some (.fD e')->ρ.fD g e=some (b,c)->ρ.fD g' e'=some (b,c')->g=g'
 fQ:∀b o v,ρ.fQ b o=some v->w.cell? ⟨b,o,none⟩=some v
 one:∀b o v,ρ.fQ b o=some v->v.oneCell'=true
 iP:∀b o v r,ρ.fQ b o=some v->ρ.obj r=some b->h.get r=some .dead
 iW:∀b z,ρ.iW b=some z->∃eG T fr,w.heap[b]?=some (.cells eG T fr)/\z<=eG.size
 iT:∀b cs,uN b=some cs->b<ρ.base/\∃T fr,w.heap[b]?=some (.cells cs T fr)
structure Stp (ρ:eF) (h:AH) (w:World) (ρ':eF) (h':AH) (w':World):Prop where
 le:ρ.le ρ'
 next:h.next.nat<=h'.next.nat
 os:w'.os=w.os
 tape:w'.tape=w.tape
 output:w'.output=w.output
 size:w.heap.size<=w'.heap.size
 kept:∀b,b<w.heap.size->¬Own ρ h b->w'.heap[b]?=w.heap[b]?
 own:∀b,b<w.heap.size->Own ρ' h' b->Own ρ h b
 old:∀r x,r.nat<h.next.nat->ρ'.obj r=some x->ρ.obj r=some x
 fQ:∀b o v,b<w.heap.size->ρ'.fQ b o=some v->ρ.fQ b o=some v\/Own ρ h b
theorem Stp.refl(ρ:eF)(h:AH)(w:World):Stp ρ h w ρ h w:=⟨ρ.le_refl,ab5 _,rfl,rfl,rfl,ab5 _,fun _ _ _=>rfl,fun _ _ h=>h,fun _ _ _ e=>e,fun _ _ _ _ h=> .inl h⟩
theorem Stp.trans{ρ ρ1 ρ2:eF}{h h1 h2:AH}{w w1 w2:World}(a:Stp ρ h w ρ1 h1 w1)(b:Stp ρ1 h1 w1 ρ2 h2 w2):Stp ρ h w ρ2 h2 w2 where
 le:=eF.le_trans a.le b.le
 next:=ajT a.next b.next
 os:=b.os.trans a.os
 tape:=b.tape.trans a.tape
 output:=b.output.trans a.output
 size:=ajT a.size b.size
 kept:=fun k hk ho=>(b.kept k (ajw hk a.size) (fun h'=>ho (a.own k hk h'))).trans (a.kept k hk ho)
 own:=fun k hk ho=>a.own k hk (b.own k (ajw hk a.size) ho)
 old:=fun r x hr e=>a.old r x hr (b.old r x (ajw hr a.next) e)
 fQ:=fun k o v hk e=>(b.fQ k o v (ajw hk a.size) e).elim (a.fQ k o v hk) fun h'=> .inr (a.own k hk h')
theorem Own.base{ρ:eF}{h:AH}{w:World}(hR:Rel ρ h w){b:Nat}(ho:Own ρ h b):ρ.base<=b:=by
 rcases ho with⟨r,o,hr,_,_⟩|⟨g,e,c,hg,he⟩
 ·exact(hR.bound r b hr).1
 ·exact(hR.fD g e b c he hg).1
theorem Stp.below{ρ ρ':eF}{h h':AH}{w w':World}(hR:Rel ρ h w)(hs:Stp ρ h w ρ' h' w')(hb:ρ.base<=w.heap.size):RowKit.Below ρ.base w w':=
 ⟨hs.os,hs.tape,hs.output,hs.size,fun k hk=>hs.kept k (by omega) (fun ho=>by have:=ho.base hR;omega)⟩
theorem Rel.drew{ρ:eF}{h:AH}{w w':World}(hR:Rel ρ h w)(he:w'.heap=w.heap):Rel ρ h w' where
 obj:=by rw[he];exact hR.obj
 bound:=by rw[he];exact hR.bound
 inj:=hR.inj
 dom:=hR.dom
 fD:=by rw[he];exact hR.fD
 gW:=by rw[he];exact hR.gW
 iL:=hR.iL
 gone:=hR.gone
 iR:=hR.iR
 fQ:=fun b o v q=>by have:=hR.fQ b o v q;simpa[World.cell?,he]using this
 one:=hR.one
 iP:=hR.iP
 iW:=by rw[he];exact hR.iW
 iT:=by rw[he];exact hR.iT
theorem Rel.ext{ρ:eF}{h h':AH}{w:World}(hR:Rel ρ h w)(hg:∀r,h'.get r=h.get r)(hn:h'.next=h.next):Rel ρ h' w:=by
 constructor
 ·intro r o b;rw[hg];exact hR.obj r o b
 ·rw[hn];exact hR.bound
 ·intro r r' b;rw[hg,hg];exact hR.inj r r' b
 ·intro r o;rw[hg,hn];exact hR.dom r o
 ·intro g e b c h1 h2
  rw[hg]at h1
  obtain⟨a1,a2,a3,a4⟩:=hR.fD g e b c h1 h2
  exact⟨a1,a2,a3,fun r hr=>by rw[hg];exact a4 r hr⟩
 ·rw[hn];exact hR.gW
 ·intro g e e' x;rw[hg];exact hR.iL g e e' x
 ·intro g o e x;rw[hg];exact hR.gone g o e x
 ·intro g g' e e' b c c';rw[hg,hg];exact hR.iR g g' e e' b c c'
 ·exact hR.fQ
 ·exact hR.one
 ·intro b o v r;rw[hg];exact hR.iP b o v r
 ·exact hR.iW
 ·exact hR.iT
theorem bf.one{ρ:eF}{v:AV}{c:Value}(h:bf ρ v c)(hs:v.scalar=true):c.oneCell'=true:=by
 cases h<;>first|rfl|(simp[AV.scalar]at hs)
theorem dz.one{ρ:eF}{l:List AV}{c:List Value}(h:dz ρ l c)(hs:l.all AV.scalar=true):∀v∈c,v.oneCell'=true:=by
 intro v hv
 obtain⟨i,hi,rfl⟩:=List.getElem_of_mem hv
 have hi':i<l.length:=by rw[<-h.1];exact hi
 exact(h.2 i hi' hi).one (ajz.1 hs _ (akH hi'))
end Go.Sk
namespace Go.Sk
def eF.dh(ρ:eF)(r:Id)(b:Nat):eF:={ ρ with obj:=fun x=>if x=r then some b else ρ.obj x }
def eF.eZ(ρ:eF)(g:Id)(e:Nat)(x:Nat × Nat × Nat):eF:={ ρ with fD:=fun g' e'=>if g'=g/\e'=e then some x else ρ.fD g' e' }
def eF.fK(ρ:eF)(b c n:Nat)(f:Nat->Value):eF:={ ρ with fQ:=fun b' o=>if b'=b/\c<=o/\o<c+n then some (f (o - c))else ρ.fQ b' o }
theorem eF.fI{ρ:eF}{r:Id}{b:Nat}(h:ρ.obj r=none):ρ.le (ρ.dh r b):=
 ⟨rfl,fun x y e=>by
  have:x≠r:=by rintro rfl;rw[h]at e;cases e
  simpa[eF.dh,this]using e,fun _ _ _ e=>e,fun _ _ _ e=>e,fun _ _ e=>e⟩
theorem eF.gZ{ρ:eF}{g:Id}{e:Nat}{x:Nat × Nat × Nat}(h:ρ.fD g e=none):ρ.le (ρ.eZ g e x):=
 ⟨rfl,fun _ _ e=>e,fun g' e' y q=>by
  have:¬(g'=g/\e'=e):=by rintro⟨rfl,rfl⟩;rw[h]at q;cases q
  simpa[eF.eZ,this]using q,fun _ _ _ e=>e,fun _ _ e=>e⟩
theorem eF.jw{ρ:eF}{b c n:Nat}{f:Nat->Value}(h:∀o,c<=o->o<c+n->ρ.fQ b o=none):ρ.le (ρ.fK b c n f):=
 ⟨rfl,fun _ _ e=>e,fun _ _ _ e=>e,fun b' o v q=>by
  have:¬(b'=b/\c<=o/\o<c+n):=by rintro⟨rfl,h1,h2⟩;rw[h o h1 h2]at q;cases q
  simpa[eF.fK,this]using q,fun _ _ e=>e⟩
theorem eF.eY(ρ:eF)(r:Id)(b:Nat):(ρ.dh r b).obj r=some b:=by simp[eF.dh]
theorem eF.fJ(ρ:eF)(g:Id)(e:Nat)(x:Nat × Nat × Nat):(ρ.eZ g e x).fD g e=some x:=by simp[eF.eZ]
theorem eF.gX(ρ:eF)(b c n:Nat)(f:Nat->Value)(j:Nat)(h:j<n):(ρ.fK b c n f).fQ b (c+j)=some (f j):=by
 have h':c<=c+j/\c+j<c+n:=by omega
 simp[eF.fK,h]
theorem Rel.fresh{ρ:eF}{h:AH}{w:World}(hR:Rel ρ h w):h.get h.next=none:=by
 cases e:h.get h.next with
 |none=>rfl
 |some o=>exact absurd (hR.dom _ _ e) (aki _)
theorem Rel.fF{ρ:eF}{h:AH}{w:World}(hR:Rel ρ h w):ρ.obj h.next=none:=by
 cases e:ρ.obj h.next with
 |none=>rfl
 |some o=>exact absurd (hR.bound _ _ e).2.2 (aki _)
theorem Rel.gM{ρ:eF}{h:AH}{w:World}(hR:Rel ρ h w)(e:Nat):ρ.fD h.next e=none:=by
 cases q:ρ.fD h.next e with
 |none=>rfl
 |some o=>exact absurd (hR.gW _ _ _ q).1 (aki _)
theorem Rel.gP{ρ:eF}{h:AH}{w:World}(hR:Rel ρ h w)(o:Nat):ρ.fQ w.heap.size o=none:=by
 cases e:ρ.fQ w.heap.size o with
 |none=>rfl
 |some v=>have:=World.block_lt_of_cell? w _ (hR.fQ _ _ _ e);simp at this
structure iM (w w':World):Prop where
 os:w'.os=w.os
 tape:w'.tape=w.tape
 output:w'.output=w.output
 size:w.heap.size<=w'.heap.size
 block:∀k,k<w.heap.size->w'.heap[k]?=w.heap[k]?
theorem iM.alloc(w:World)(o:Obj):iM w { w with heap:=w.heap.push o }:=
 ⟨rfl,rfl,rfl,by simp,fun k hk=>by rw[Array.getElem?_push,if_neg (by omega)]⟩
theorem iM.drawn(w:World)(n:Nat):iM w { w with drawn:=n }:=⟨rfl,rfl,rfl,ab5 _,fun _ _=>rfl⟩
theorem iM.cell{w w':World}(h:iM w w'){a:Addr}{v:Value}(hc:w.cell? a=some v):w'.cell? a=some v:=by
 have:=World.block_lt_of_cell? w _ hc
 rw[World.cell?_of_block (w:=w) (h.block _ this)];exact hc
theorem Rel.grew{ρ:eF}{h:AH}{w w':World}(hR:Rel ρ h w)(hg:iM w w'):Rel ρ h w' where
 obj:=fun r o b h1 h2=>by rw[hg.block b (hR.bound r b h2).2.1];exact hR.obj r o b h1 h2
 bound:=fun r b h1=>let⟨a,b,c⟩:=hR.bound r b h1;⟨a,ajw b hg.size,c⟩
 inj:=hR.inj
 dom:=hR.dom
 fD:=fun g e b c h1 h2=>by
  obtain⟨a1,a2,a3,a4⟩:=hR.fD g e b c h1 h2
  exact⟨a1,by rw[hg.block b (hR.gW g e _ h2).2];exact a2,a3,a4⟩
 gW:=fun g e x h1=>let⟨a,b⟩:=hR.gW g e x h1;⟨a,ajw b hg.size⟩
 iL:=hR.iL
 gone:=hR.gone
 iR:=hR.iR
 fQ:=fun b o v q=>hg.cell (hR.fQ b o v q)
 one:=hR.one
 iP:=hR.iP
 iW:=fun b z q=>by
  obtain⟨eG,T,fr,h1,h2⟩:=hR.iW b z q
  have hb:b<w.heap.size:=by
   rcases ajO b w.heap.size with k|k
   ·exact k
   ·rw[akm k]at h1;cases h1
  exact⟨eG,T,fr,by rw[hg.block b hb];exact h1,h2⟩
 iT:=fun b cs q=>by
  obtain⟨h0,T,fr,h1⟩:=hR.iT b cs q
  have hb:b<w.heap.size:=by
   rcases ajO b w.heap.size with k|k
   ·exact k
   ·rw[akm k]at h1;cases h1
  exact⟨h0,T,fr,by rw[hg.block b hb];exact h1⟩
theorem Stp.grew{ρ:eF}{h:AH}{w w':World}(hg:iM w w'):Stp ρ h w ρ h w':=
 ⟨ρ.le_refl,ab5 _,hg.os,hg.tape,hg.output,hg.size,fun k hk _=>hg.block k hk,fun _ _ h=>h,fun _ _ _ e=>e,fun _ _ _ _ h=> .inl h⟩
theorem Qu{ρ:eF}{h:AH}{w:World}(hR:Rel ρ h w){r:Id}{o:AO}(hr:h.get r=some o):r≠h.next:=by
 rintro rfl;rw[hR.fresh]at hr;cases hr
theorem Rel.newObj{ρ:eF}{h:AH}{w:World}(hR:Rel ρ h w)(hbase:ρ.base<=w.heap.size)(o:AO)(ho:o.live)(x:Obj)
  (hx:jS (ρ.dh h.next w.heap.size) o (some x)) :
  Rel (ρ.dh h.next w.heap.size) (h.alloc o) { w with heap:=w.heap.push x }:=by
 have hle:ρ.le (ρ.dh h.next w.heap.size):=eF.fI hR.fF
 have hg:=iM.alloc w x
 have hR':=hR.grew hg
 have hat:∀b,ρ.obj h.next=some b->False:=fun b e=>by rw[hR.fF]at e;cases e
 constructor
 ·intro r o' b h1 h2
  rw[AH.au]at h1
  by_cases hr:r=h.next
  ·subst hr
   simp only[if_true,aac]at h1;subst h1
   simp only[eF.dh,if_true,aac]at h2;subst h2
   simpa using hx
  ·rw[if_neg hr]at h1
   simp only[eF.dh,if_neg hr]at h2
   exact(hR'.obj r o' b h1 h2).mono hle
 ·intro r b h1
  by_cases hr:r=h.next
  ·subst hr
   simp only[eF.dh,if_true,aac]at h1;subst h1
   exact⟨hbase,by simp,by simp[AH.bn,Id.eB]⟩
  ·simp only[eF.dh,if_neg hr]at h1
   obtain⟨a,b,c⟩:=hR'.bound r b h1
   exact⟨a,b,by simp only[AH.bn,Id.eB];omega⟩
 ·intro r r' b h1 h2 d1 d2
  rw[AH.au]at d1 d2
  by_cases hr:r=h.next
  ·by_cases hr':r'=h.next
   ·rw[hr,hr']
   ·subst hr
    simp only[eF.dh,if_true,aac,if_neg hr']at h1 h2
    have:=(hR.bound r' b h2).2.1;omega
  ·by_cases hr':r'=h.next
   ·subst hr'
    simp only[eF.dh,if_true,aac,if_neg hr]at h1 h2
    have:=(hR.bound r b h1).2.1;omega
   ·simp only[eF.dh,if_neg hr,if_neg hr']at h1 h2
    rw[if_neg hr]at d1;rw[if_neg hr']at d2
    exact hR.inj r r' b h1 h2 d1 d2
 ·intro r o' h1
  rw[AH.au]at h1
  simp only[AH.bn,Id.eB]
  by_cases hr:r=h.next
  ·subst hr;omega
  ·rw[if_neg hr]at h1;have:=hR.dom r o' h1;omega
 ·intro g e b c h1 h2
  rw[AH.au]at h1
  by_cases hr:g=h.next
  ·subst hr;simp only[if_true,aac]at h1;subst h1;exact ho.elim
  ·rw[if_neg hr]at h1
   obtain⟨a1,a2,a3,a4⟩:=hR'.fD g e b c h1 h2
   refine⟨a1,a2,a3,fun r hr2=>?_⟩
   rw[AH.au]
   by_cases hrn:r=h.next
   ·subst hrn
    simp only[eF.dh,if_true,aac]at hr2
    have:=(hR.gW g e _ h2).2;simp at this;omega
   ·rw[if_neg hrn];simp only[eF.dh,if_neg hrn]at hr2;exact a4 r hr2
 ·intro g e x' h1
  obtain⟨a,b⟩:=hR'.gW g e x' h1
  exact⟨by simp only[AH.bn,Id.eB];omega,b⟩
 ·intro g e e' x' h1 h2
  rw[AH.au]at h1
  by_cases hr:g=h.next
  ·subst hr;simp only[if_true,aac]at h1;subst h1;exact ho.elim
  ·rw[if_neg hr]at h1;exact hR.iL g e e' x' h1 h2
 ·intro g o' e x' h1 h2
  rw[AH.au]at h1
  by_cases hr:g=h.next
  ·subst hr;rw[show(ρ.dh h.next w.heap.size).fD=ρ.fD from rfl,hR.gM]at h2;cases h2
  ·rw[if_neg hr]at h1;exact hR.gone g o' e x' h1 h2
 ·intro g g' e e' b c c' h1 h2 h3 h4
  rw[AH.au]at h1 h2
  by_cases hr:g=h.next
  ·subst hr;simp only[if_true,aac]at h1;subst h1;exact ho.elim
  ·by_cases hr':g'=h.next
   ·subst hr';simp only[if_true,aac]at h2;subst h2;exact ho.elim
   ·rw[if_neg hr]at h1;rw[if_neg hr']at h2;exact hR.iR g g' e e' b c c' h1 h2 h3 h4
 ·exact hR'.fQ
 ·exact hR.one
 ·intro b o' v r h1 h2
  rw[AH.au]
  by_cases hr:r=h.next
  ·subst hr
   simp only[eF.dh,if_true,aac]at h2;subst h2
   rw[show(ρ.dh h.next w.heap.size).fQ=ρ.fQ from rfl,hR.gP]at h1;cases h1
  ·rw[if_neg hr];simp only[eF.dh,if_neg hr]at h2;exact hR.iP b o' v r h1 h2
 ·exact hR'.iW
 ·exact hR'.iT
theorem Stp.newObj{ρ:eF}{h:AH}{w:World}(hR:Rel ρ h w)(o:AO)(x:Obj) :
  Stp ρ h w (ρ.dh h.next w.heap.size) (h.alloc o) { w with heap:=w.heap.push x } where
 le:=eF.fI hR.fF
 next:=by simp only[AH.bn,Id.eB];omega
 os:=rfl
 tape:=rfl
 output:=rfl
 size:=by simp
 kept:=fun b hb _=>(iM.alloc w x).block b hb
 old:=fun r y hr e=>by
  have:r≠h.next:=by rintro rfl;omega
  simpa[eF.dh,this]using e
 fQ:=fun _ _ _ _ h=> .inl h
 own:=fun b hb ho=>by
  rcases ho with⟨r,o',hr,hg,hl⟩|⟨g,e,c,hg,he⟩
  ·by_cases hrn:r=h.next
   ·subst hrn;simp only[eF.dh,if_true,aac]at hr;omega
   ·simp only[eF.dh,if_neg hrn]at hr
    rw[AH.au,if_neg hrn]at hg
    exact .inl ⟨r,o',hr,hg,hl⟩
  ·rw[AH.au]at he
   by_cases hgn:g=h.next
   ·subst hgn;rw[show(ρ.dh h.next w.heap.size).fD=ρ.fD from rfl,hR.gM]at hg;cases hg
   ·rw[if_neg hgn]at he;exact .inr ⟨g,e,c,hg,he⟩
structure Wrote (w w':World) (b:Nat) (x:Obj):Prop where
 os:w'.os=w.os
 tape:w'.tape=w.tape
 output:w'.output=w.output
 size:w'.heap.size=w.heap.size
 here:w'.heap[b]?=some x
 block:∀k,k≠b->w'.heap[k]?=w.heap[k]?
theorem Rel.setObj{ρ:eF}{h:AH}{w w':World}(hR:Rel ρ h w){r:Id}{b:Nat}{o o':AO}{x:Obj}(hr:h.get r=some o)(hl:o.live)(hb:ρ.obj r=some b)
  (ho:o'.live) (hw:Wrote w w' b x) (hsz:∀eG T fr,w.heap[b]?=some (.cells eG T fr)->∃jy T' fr',x= .cells jy T' fr'/\jy.size=eG.size) (hx:jS ρ o' (some x)):Rel ρ (h.set r o') w':=by
 have hnd:h.get r≠some .dead:=by rw[hr];rintro⟨⟩;exact hl
 have same:∀{q:Id},(h.set r o').get q≠some .dead->h.get q≠some .dead:=by
  intro q hq;rw[AH.ak]at hq
  by_cases e:q=r
  ·subst e;exact hnd
  ·rwa [if_neg e]at hq
 have dead:∀{q:Id},h.get q=some .dead->(h.set r o').get q=some .dead:=by
  intro q hq;rw[AH.ak]
  by_cases e:q=r
  ·subst e;exact absurd hq hnd
  ·rwa [if_neg e]
 have jG:∀{q:Id} {e:Nat},(h.set r o').get q=some (.fD e)->h.get q=some (.fD e):=by
  intro q e hq;rw[AH.ak]at hq
  by_cases e':q=r
  ·rw[if_pos e']at hq;simp only[aac]at hq;subst hq;exact ho.elim
  ·rwa [if_neg e']at hq
 constructor
 ·intro q oq bq h1 h2
  rw[AH.ak]at h1
  by_cases e:q=r
  ·subst e
   rw[if_pos rfl]at h1;simp only[aac]at h1;subst h1
   rw[hb]at h2;simp only[aac]at h2;subst h2
   rw[hw.here];exact hx
  ·rw[if_neg e]at h1
   by_cases hd:oq= .dead
   ·subst hd;trivial
   ·have hne:bq≠b:=by
     rintro rfl
     exact e (hR.inj q r bq h2 hb (by rw[h1];simpa using hd) hnd)
    rw[hw.block bq hne];exact hR.obj q oq bq h1 h2
 ·intro q bq h1;rw[hw.size];exact hR.bound q bq h1
 ·intro q q' bq h1 h2 d1 d2;exact hR.inj q q' bq h1 h2 (same d1) (same d2)
 ·intro q oq h1
  rw[AH.ak]at h1
  by_cases e:q=r
  ·subst e;exact hR.dom q o hr
  ·rw[if_neg e]at h1;exact hR.dom q oq h1
 ·intro g e bg c h1 h2
  obtain⟨a1,a2,a3,a4⟩:=hR.fD g e bg c (jG h1) h2
  have hne:bg≠b:=by
   rintro rfl
   exact hnd (a4 r hb)
  exact⟨a1,by rw[hw.block bg hne];exact a2,a3,fun q hq=>dead (a4 q hq)⟩
 ·intro g e y h1;rw[hw.size];exact hR.gW g e y h1
 ·intro g e e' y h1 h2;exact hR.iL g e e' y (jG h1) h2
 ·intro g og e y h1 h2
  rw[AH.ak]at h1
  by_cases e':g=r
  ·subst e'
   obtain⟨e2,h3⟩:=hR.gone g o e y hr h2
   subst h3;exact hl.elim
  ·rw[if_neg e']at h1;exact hR.gone g og e y h1 h2
 ·intro g g' e e' bg c c' h1 h2 h3 h4;exact hR.iR g g' e e' bg c c' (jG h1) (jG h2) h3 h4
 ·intro bi oi v h1
  have hne:bi≠b:=by
   rintro rfl
   exact hnd (hR.iP bi oi v r h1 hb)
  rw[World.cell?_of_block (w:=w) (hw.block bi hne)];exact hR.fQ bi oi v h1
 ·exact hR.one
 ·intro bi oi v q h1 h2;exact dead (hR.iP bi oi v q h1 h2)
 ·intro b' z q
  obtain⟨eG,T,fr,h1,h2⟩:=hR.iW b' z q
  by_cases e:b'=b
  ·subst e
   obtain⟨jy,T',fr',rfl,h3⟩:=hsz eG T fr h1
   exact⟨jy,T',fr',hw.here,by omega⟩
  ·exact⟨eG,T,fr,by rw[hw.block b' e];exact h1,h2⟩
 ·intro b' cs q
  obtain⟨h0,T,fr,h1⟩:=hR.iT b' cs q
  have hge:=(hR.bound r b hb).1
  exact⟨h0,T,fr,by rw[hw.block b' (by omega)];exact h1⟩
theorem Stp.setObj{ρ:eF}{h:AH}{w w':World}{r:Id}{b:Nat}{o o':AO}{x:Obj}(hr:h.get r=some o)(hl:o.live)(hb:ρ.obj r=some b)(ho:o'.live)
  (hw:Wrote w w' b x):Stp ρ h w ρ (h.set r o') w' where
 le:=ρ.le_refl
 next:=ab5 _
 os:=hw.os
 tape:=hw.tape
 output:=hw.output
 size:=by rw[hw.size];exact ab5 _
 kept:=fun k _ hn=>hw.block k (by rintro rfl;exact hn (.inl ⟨r,o,hb,hr,hl⟩))
 old:=fun _ _ _ e=>e
 fQ:=fun _ _ _ _ h=> .inl h
 own:=fun k _ hk=>by
  rcases hk with⟨q,oq,h1,h2,h3⟩|⟨g,e,c,h1,h2⟩
  ·rw[AH.ak]at h2
   by_cases e:q=r
   ·subst e;exact .inl ⟨q,o,h1,hr,hl⟩
   ·rw[if_neg e]at h2;exact .inl ⟨q,oq,h1,h2,h3⟩
  ·rw[AH.ak]at h2
   by_cases e':g=r
   ·rw[if_pos e']at h2;simp only[aac]at h2;subst h2;exact ho.elim
   ·rw[if_neg e']at h2;exact .inr ⟨g,e,c,h1,h2⟩
end Go.Sk
namespace Go.Sk
theorem Rel.jh{ρ:eF}{h:AH}{w:World}(hR:Rel ρ h w)(b c n:Nat)(f:Nat->Value)
  (hc:∀j,j<n->w.cell? ⟨b,c+j,none⟩=some (f j)) (h1:∀j,j<n->(f j).oneCell'=true) (hn:∀o,c<=o->o<c+n->ρ.fQ b o=none)
  (ho:∀r,ρ.obj r=some b->h.get r=some .dead)
  (hg:∀g e c',h.get g=some (.fD e)->ρ.fD g e=some (b,c')->c+n<=c'.1):Rel (ρ.fK b c n f) h w:=by
 have hle:ρ.le (ρ.fK b c n f):=eF.jw hn
 constructor
 ·intro r o b' h1 h2;exact(hR.obj r o b' h1 h2).mono hle
 ·exact hR.bound
 ·exact hR.inj
 ·exact hR.dom
 ·intro g e b' c' h1 h2
  obtain⟨a1,a2,a3,a4⟩:=hR.fD g e b' c' h1 h2
  refine⟨a1,a2,fun o v q=>?_,a4⟩
  simp only[eF.fK]at q
  split at q
  ·rename_i hh
   obtain⟨rfl,h3,h4⟩:=hh
   have:=hg g e c' h1 h2;omega
  ·exact a3 o v q
 ·exact hR.gW
 ·exact hR.iL
 ·exact hR.gone
 ·exact hR.iR
 ·intro b' o v q
  simp only[eF.fK]at q
  split at q
  ·rename_i hh
   obtain⟨rfl,h3,h4⟩:=hh
   simp only[aac]at q;subst q
   have:=hc (o - c) (by omega)
   rwa [show c+(o - c)=o by omega]at this
  ·exact hR.fQ b' o v q
 ·intro b' o v q
  simp only[eF.fK]at q
  split at q
  ·rename_i hh
   obtain⟨rfl,h3,h4⟩:=hh
   simp only[aac]at q;subst q
   exact h1 _ (by omega)
  ·exact hR.one b' o v q
 ·intro b' o v r q h2
  simp only[eF.fK]at q
  split at q
  ·rename_i hh
   obtain⟨rfl,h3,h4⟩:=hh
   exact ho r h2
  ·exact hR.iP b' o v r q h2
 ·exact hR.iW
 ·exact hR.iT
theorem Stp.jh{ρ0 ρ:eF}{h0 h:AH}{w0 w:World}(hs:Stp ρ0 h0 w0 ρ h w)(b c n:Nat)(f:Nat->Value)(hn:∀o,c<=o->o<c+n->ρ.fQ b o=none)
  (hb:w0.heap.size<=b\/Own ρ0 h0 b):Stp ρ0 h0 w0 (ρ.fK b c n f) h w where
 le:=eF.le_trans hs.le (eF.jw hn)
 next:=hs.next
 os:=hs.os
 tape:=hs.tape
 output:=hs.output
 size:=hs.size
 kept:=hs.kept
 own:=hs.own
 old:=hs.old
 fQ:=fun k o v hk e=>by
  by_cases hkb:k=b
  ·subst hkb
   rcases hb with hb|hb
   ·omega
   ·exact .inr hb
  ·refine hs.fQ k o v hk ?_
   simp only[eF.fK]at e
   rw[if_neg (fun q=>hkb q.1)]at e
   exact e
theorem Rel.ku{ρ:eF}{h:AH}{w:World}(hR:Rel ρ h w)(cs:Array Value)(T:TypeId)(n:Nat)(hn:n<=cs.size)(h1:∀j,j<n->(cs.getD j Go.undef).oneCell'=true) :
  Rel (ρ.fK w.heap.size 0 n (fun j=>cs.getD j Go.undef)) h { w with heap:=w.heap.push (.cells cs T) }:=by
 have hR':=hR.grew (iM.alloc w (.cells cs T))
 refine hR'.jh _ _ _ _ (fun j hj=>?_) h1 (fun o _ _=>hR.gP o) (fun r hr=>?_) (fun g e c' _ h2=>?_)
 ·have:j<cs.size:=by omega
  simp[World.cell?,this]
 ·have:=(hR.bound r _ hr).2.1;omega
 ·have:=(hR.gW g e _ h2).2;simp at this
theorem Stp.ku{ρ:eF}{h:AH}{w:World}(hR:Rel ρ h w)(x:Obj)(n:Nat)(f:Nat->Value) :
  Stp ρ h w (ρ.fK w.heap.size 0 n f) h { w with heap:=w.heap.push x }:=
 Stp.jh (Stp.grew (iM.alloc w x)) _ _ _ _ (fun o _ _=>hR.gP o) (.inl (ab5 _))
structure Xi (ρ:eF) (h:AH) (w:World) (b:Nat) (c:Nat × Nat):Prop where
 base:ρ.base<=b
 cells:∃eG T fr,w.heap[b]?=some (.cells eG T fr)/\eG.size=c.2/\∀o,c.1<=o->o<eG.size->¬(fr.1<=o/\o<fr.2)
 fQ:∀o v,ρ.fQ b o=some v->o<c.1
 obj:∀r,ρ.obj r=some b->h.get r=some .dead
theorem lt_of_block{w:World}{b:Nat}{x:Obj}(h:w.heap[b]?=some x):b<w.heap.size:=by
 rcases ajO b w.heap.size with q|q
 ·exact q
 ·rw[akm q]at h;cases h
theorem Rel.kC{ρ:eF}{h:AH}{w:World}(hR:Rel ρ h w)(e b:Nat)(c:Nat × Nat)(he:Xi ρ h w b c)
  (hg:∀g' e1 c1,h.get g'=some (.fD e1)->ρ.fD g' e1=some (b,c1)->False):Rel (ρ.eZ h.next e (b,c)) (h.alloc (.fD e)) w:=by
 obtain⟨eG,T,fr,hbl,hfr⟩:=he.cells
 have hlt:=lt_of_block hbl
 constructor
 ·intro r o b' h1 h2
  rw[AH.au]at h1
  by_cases hr:r=h.next
  ·subst hr;rw[show(ρ.eZ h.next e (b,c)).obj=ρ.obj from rfl,hR.fF]at h2;cases h2
  ·rw[if_neg hr]at h1;exact(hR.obj r o b' h1 h2).mono (eF.gZ (hR.gM e))
 ·intro r b' h1;obtain⟨a1,a2,a3⟩:=hR.bound r b' h1;exact⟨a1,a2,by simp only[AH.bn,Id.eB];omega⟩
 ·intro r r' b' h1 h2 d1 d2
  have n1:r≠h.next:=by rintro rfl;rw[show(ρ.eZ h.next e (b,c)).obj=ρ.obj from rfl,hR.fF]at h1;cases h1
  have n2:r'≠h.next:=by rintro rfl;rw[show(ρ.eZ h.next e (b,c)).obj=ρ.obj from rfl,hR.fF]at h2;cases h2
  rw[AH.au,if_neg n1]at d1;rw[AH.au,if_neg n2]at d2
  exact hR.inj r r' b' h1 h2 d1 d2
 ·intro r o h1
  rw[AH.au]at h1
  simp only[AH.bn,Id.eB]
  by_cases hr:r=h.next
  ·subst hr;omega
  ·rw[if_neg hr]at h1;have:=hR.dom r o h1;omega
 ·intro g e' b' c' h1 h2
  rw[AH.au]at h1
  have dead:∀r,ρ.obj r=some b'->h.get r=some .dead->(h.alloc (.fD e)).get r=some .dead:=fun r h3 h4=>by
   rw[AH.au,if_neg]
   ·exact h4
   ·rintro rfl;rw[hR.fresh]at h4;cases h4
  by_cases hr:g=h.next
  ·subst hr
   simp only[if_true,aac,AO.fD.injEq]at h1;subst h1
   rw[eF.fJ]at h2;simp only[aac,aaW]at h2;obtain⟨rfl,rfl⟩:=h2
   exact⟨he.base,⟨eG,T,fr,hbl,hfr⟩,he.fQ,fun r h3=>dead r h3 (he.obj r h3)⟩
  ·rw[if_neg hr]at h1
   simp only[eF.eZ,hr,false_and,if_false]at h2
   obtain⟨a1,a2,a3,a4⟩:=hR.fD g e' b' c' h1 h2
   exact⟨a1,a2,a3,fun r h3=>dead r h3 (a4 r h3)⟩
 ·intro g e' x h1
  simp only[AH.bn,Id.eB]
  simp only[eF.eZ]at h1
  split at h1
  ·rename_i hh;simp only[aac]at h1;subst h1;exact⟨by rw[hh.1];omega,hlt⟩
  ·obtain⟨a1,a2⟩:=hR.gW g e' x h1;exact⟨by omega,a2⟩
 ·intro g e1 e2 x h1 h2
  rw[AH.au]at h1
  simp only[eF.eZ]at h2
  by_cases hr:g=h.next
  ·subst hr
   simp only[if_true,aac,AO.fD.injEq]at h1;subst h1
   split at h2
   ·rename_i hh;omega
   ·rw[hR.gM]at h2;cases h2
  ·rw[if_neg hr]at h1;rw[if_neg (by simp[hr])]at h2;exact hR.iL g e1 e2 x h1 h2
 ·intro g o e1 x h1 h2
  rw[AH.au]at h1
  by_cases hr:g=h.next
  ·rw[if_pos hr]at h1;simp only[aac]at h1;exact⟨e,h1.symm⟩
  ·rw[if_neg hr]at h1;simp only[eF.eZ,hr,false_and,if_false]at h2;exact hR.gone g o e1 x h1 h2
 ·intro g g' e1 e2 b' c1 c2 h1 h2 h3 h4
  rw[AH.au]at h1 h2
  by_cases hr:g=h.next
  ·by_cases hr':g'=h.next
   ·rw[hr,hr']
   ·subst hr
    simp only[if_true,aac,AO.fD.injEq]at h1;subst h1
    rw[if_neg hr']at h2
    rw[eF.fJ]at h3;simp only[aac,aaW]at h3;obtain⟨rfl,rfl⟩:=h3
    simp only[eF.eZ,hr',false_and,if_false]at h4
    exact(hg g' e2 c2 h2 h4).elim
  ·by_cases hr':g'=h.next
   ·subst hr'
    simp only[if_true,aac,AO.fD.injEq]at h2;subst h2
    rw[if_neg hr]at h1
    rw[eF.fJ]at h4;simp only[aac,aaW]at h4;obtain⟨rfl,rfl⟩:=h4
    simp only[eF.eZ,hr,false_and,if_false]at h3
    exact(hg g e1 c1 h1 h3).elim
   ·rw[if_neg hr]at h1;rw[if_neg hr']at h2
    simp only[eF.eZ,hr,hr',false_and,if_false]at h3 h4
    exact hR.iR g g' e1 e2 b' c1 c2 h1 h2 h3 h4
 ·exact hR.fQ
 ·exact hR.one
 ·intro b' o v r h1 h2
  have:=hR.iP b' o v r h1 h2
  rw[AH.au,if_neg]
  ·exact this
  ·rintro rfl;rw[hR.fresh]at this;cases this
 ·exact hR.iW
 ·exact hR.iT
theorem Stp.kC{ρ0 ρ:eF}{h0 h:AH}{w0 w:World}(hR:Rel ρ h w)(e b:Nat)(c:Nat × Nat)(hb:w0.heap.size<=b)(hs:Stp ρ0 h0 w0 ρ h w) :
  Stp ρ0 h0 w0 (ρ.eZ h.next e (b,c)) (h.alloc (.fD e)) w where
 le:=eF.le_trans hs.le (eF.gZ (hR.gM e))
 next:=by have:=hs.next;simp only[AH.bn,Id.eB];omega
 os:=hs.os
 tape:=hs.tape
 output:=hs.output
 size:=hs.size
 kept:=hs.kept
 old:=hs.old
 fQ:=hs.fQ
 own:=fun k hk ho=>by
  rcases ho with⟨r,o',hr,hg,hl⟩|⟨g,e',c',hg,he⟩
  ·have n1:r≠h.next:=by rintro rfl;rw[show(ρ.eZ h.next e (b,c)).obj=ρ.obj from rfl,hR.fF]at hr;cases hr
   rw[AH.au,if_neg n1]at hg
   exact hs.own k hk (.inl ⟨r,o',hr,hg,hl⟩)
  ·rw[AH.au]at he
   by_cases hgn:g=h.next
   ·subst hgn
    simp only[if_true,aac,AO.fD.injEq]at he;subst he
    rw[eF.fJ]at hg;simp only[aac,aaW]at hg;omega
   ·rw[if_neg hgn]at he;simp only[eF.eZ,hgn,false_and,if_false]at hg;exact hs.own k hk (.inr ⟨g,e',c',hg,he⟩)
theorem Rel.jH{ρ:eF}{h:AH}{w:World}(hR:Rel ρ h w){g:Id}{e:Nat}(hge:h.get g=some (.fD e))(e' b:Nat)(c:Nat × Nat)(hlt:e<e')
  (he:Xi ρ h w b c) (hg:∀g' e1 c1,g'≠g->h.get g'=some (.fD e1)->ρ.fD g' e1=some (b,c1)->False) :
  Rel (ρ.eZ g e' (b,c)) (h.set g (.fD e')) w:=by
 obtain⟨eG,T,fr,hbl,hfr⟩:=he.cells
 have hb:=lt_of_block hbl
 have hnone:ρ.fD g e'=none:=by
  cases q:ρ.fD g e' with
  |none=>rfl
  |some x=>have:=hR.iL g e e' x hge q;omega
 have dead:∀{r:Id},h.get r=some .dead->(h.set g (.fD e')).get r=some .dead:=by
  intro r h4
  rw[AH.ak,if_neg]
  ·exact h4
  ·rintro rfl;rw[hge]at h4;cases h4
 have kD:∀{r:Id},(h.set g (.fD e')).get r≠some .dead->h.get r≠some .dead:=fun hd h4=>hd (dead h4)
 constructor
 ·intro r o b' h1 h2
  rw[AH.ak]at h1
  by_cases hr:r=g
  ·rw[if_pos hr]at h1;simp only[aac]at h1;subst h1;trivial
  ·rw[if_neg hr]at h1;exact(hR.obj r o b' h1 h2).mono (eF.gZ hnone)
 ·exact hR.bound
 ·intro r r' b' h1 h2 d1 d2;exact hR.inj r r' b' h1 h2 (kD d1) (kD d2)
 ·intro r o h1
  rw[AH.ak]at h1
  by_cases hr:r=g
  ·subst hr;exact hR.dom r _ hge
  ·rw[if_neg hr]at h1;exact hR.dom r o h1
 ·intro g1 e1 b' c' h1 h2
  rw[AH.ak]at h1
  by_cases hr:g1=g
  ·subst hr
   simp only[if_true,aac,AO.fD.injEq]at h1;subst h1
   rw[eF.fJ]at h2;simp only[aac,aaW]at h2;obtain⟨rfl,rfl⟩:=h2
   exact⟨he.base,⟨eG,T,fr,hbl,hfr⟩,he.fQ,fun r h3=>dead (he.obj r h3)⟩
  ·rw[if_neg hr]at h1
   simp only[eF.eZ,hr,false_and,if_false]at h2
   obtain⟨a1,a2,a3,a4⟩:=hR.fD g1 e1 b' c' h1 h2
   exact⟨a1,a2,a3,fun r h3=>dead (a4 r h3)⟩
 ·intro g1 e1 x h1
  simp only[eF.eZ]at h1
  split at h1
  ·rename_i hh;simp only[aac]at h1;subst h1;exact⟨by rw[hh.1];exact hR.dom g _ hge,hb⟩
  ·exact hR.gW g1 e1 x h1
 ·intro g1 e1 e2 x h1 h2
  rw[AH.ak]at h1
  simp only[eF.eZ]at h2
  by_cases hr:g1=g
  ·subst hr
   simp only[if_true,aac,AO.fD.injEq]at h1;subst h1
   split at h2
   ·rename_i hh;omega
   ·have:=hR.iL g1 e e2 x hge h2;omega
  ·rw[if_neg hr]at h1;rw[if_neg (by simp[hr])]at h2;exact hR.iL g1 e1 e2 x h1 h2
 ·intro g1 o e1 x h1 h2
  rw[AH.ak]at h1
  by_cases hr:g1=g
  ·rw[if_pos hr]at h1;simp only[aac]at h1;exact⟨e',h1.symm⟩
  ·rw[if_neg hr]at h1;simp only[eF.eZ,hr,false_and,if_false]at h2;exact hR.gone g1 o e1 x h1 h2
 ·intro g1 g2 e1 e2 b' c1 c2 h1 h2 h3 h4
  rw[AH.ak]at h1 h2
  by_cases hr:g1=g
  ·by_cases hr':g2=g
   ·rw[hr,hr']
   ·subst hr
    simp only[if_true,aac,AO.fD.injEq]at h1;subst h1
    rw[if_neg hr']at h2
    rw[eF.fJ]at h3;simp only[aac,aaW]at h3;obtain⟨rfl,rfl⟩:=h3
    simp only[eF.eZ,hr',false_and,if_false]at h4
    exact(hg g2 e2 c2 hr' h2 h4).elim
  ·by_cases hr':g2=g
   ·subst hr'
    simp only[if_true,aac,AO.fD.injEq]at h2;subst h2
    rw[if_neg hr]at h1
    rw[eF.fJ]at h4;simp only[aac,aaW]at h4;obtain⟨rfl,rfl⟩:=h4
    simp only[eF.eZ,hr,false_and,if_false]at h3
    exact(hg g1 e1 c1 hr h1 h3).elim
   ·rw[if_neg hr]at h1;rw[if_neg hr']at h2
    simp only[eF.eZ,hr,hr',false_and,if_false]at h3 h4
    exact hR.iR g1 g2 e1 e2 b' c1 c2 h1 h2 h3 h4
 ·exact hR.fQ
 ·exact hR.one
 ·intro b' o v r h1 h2;exact dead (hR.iP b' o v r h1 h2)
 ·exact hR.iW
 ·exact hR.iT
theorem Rel.ji{ρ:eF}{h:AH}{w w':World}(hR:Rel ρ h w){g:Id}{e b:Nat}{c:Nat × Nat}(hge:h.get g=some (.fD e))(hgb:ρ.fD g e=some (b,c))
  {eG jy:Array Value} {T:TypeId} {fr:Nat × Nat} (hbl:w.heap[b]?=some (.cells eG T fr)) (hsz:jy.size=eG.size) (hlow:∀o,o<c.1->jy[o]?=eG[o]?)
  (hw:Wrote w w' b (.cells jy T fr)):Rel ρ h w':=by
 obtain⟨p1,⟨ajd,T0,fr0,r9,vK⟩,p3,p4⟩:=hR.fD g e b c hge hgb
 rw[hbl]at r9;simp only[aac,Obj.cells.injEq]at r9;obtain⟨rfl,rfl,rfl⟩:=r9
 constructor
 ·intro r o b' h1 h2
  by_cases hb:b'=b
  ·subst hb;have:=p4 r h2;rw[h1]at this;simp only[aac]at this;subst this;trivial
  ·rw[hw.block b' hb];exact hR.obj r o b' h1 h2
 ·intro r b' h1;rw[hw.size];exact hR.bound r b' h1
 ·exact hR.inj
 ·exact hR.dom
 ·intro g1 e1 b' c' h1 h2
  obtain⟨a1,a2,a3,a4⟩:=hR.fD g1 e1 b' c' h1 h2
  refine⟨a1,?_,a3,a4⟩
  by_cases hb:b'=b
  ·subst hb
   obtain rfl:=hR.iR g1 g e1 e b' c' c h1 hge h2 hgb
   rw[h1]at hge;simp only[aac,AO.fD.injEq]at hge;subst hge
   rw[h2]at hgb;simp only[aac,aaW,true_and]at hgb;subst hgb
   exact⟨jy,T,fr,hw.here,hsz.trans vK.1,fun o h3 h4=>vK.2 o h3 (by rw[<-hsz];exact h4)⟩
  ·rw[hw.block b' hb];exact a2
 ·intro g1 e1 x h1;rw[hw.size];exact hR.gW g1 e1 x h1
 ·exact hR.iL
 ·exact hR.gone
 ·exact hR.iR
 ·intro b' o v q
  have h0:=hR.fQ b' o v q
  by_cases hb:b'=b
  ·subst hb
   have hlt:=p3 o v q
   simp only[World.cell?,hbl]at h0
   simp only[World.cell?,hw.here]
   simpa[hlow o hlt]using h0
  ·rw[World.cell?_of_block (w:=w) (hw.block b' hb)];exact h0
 ·exact hR.one
 ·exact hR.iP
 ·intro b' z q
  obtain⟨cs,T1,fr1,h1,h2⟩:=hR.iW b' z q
  by_cases e1:b'=b
  ·subst e1
   rw[hbl]at h1;simp only[aac,Obj.cells.injEq]at h1;obtain⟨rfl,rfl,rfl⟩:=h1
   exact⟨jy,T,fr,hw.here,by omega⟩
  ·exact⟨cs,T1,fr1,by rw[hw.block b' e1];exact h1,h2⟩
 ·intro b' cs q
  obtain⟨h0,T1,fr1,h1⟩:=hR.iT b' cs q
  have hge:=(hR.fD g e b c hge hgb).1
  exact⟨h0,T1,fr1,by rw[hw.block b' (by omega)];exact h1⟩
theorem Stp.ji{ρ:eF}{h:AH}{w w':World}{g:Id}{e b:Nat}{c:Nat × Nat}(hge:h.get g=some (.fD e))(hgb:ρ.fD g e=some (b,c)){x:Obj}(hw:Wrote w w' b x):Stp ρ h w ρ h w':=
 ⟨ρ.le_refl,ab5 _,hw.os,hw.tape,hw.output,by rw[hw.size];exact ab5 _,fun k _ hn=>hw.block k (by rintro rfl;exact hn (.inr ⟨g,e,c,hgb,hge⟩)),fun _ _ h=>h,fun _ _ _ e=>e,fun _ _ _ _ h=> .inl h⟩
theorem Stp.jH{ρ0 ρ:eF}{h0 h:AH}{w w0:World}(hR:Rel ρ h w){g:Id}{e:Nat}(hge:h.get g=some (.fD e))(e' b:Nat)(c:Nat × Nat)(hlt:e<e')
  (hb:w0.heap.size<=b\/∃c0,ρ.fD g e=some (b,c0)) (hs:Stp ρ0 h0 w0 ρ h w):Stp ρ0 h0 w0 (ρ.eZ g e' (b,c)) (h.set g (.fD e')) w where
 le:=eF.le_trans hs.le <|eF.gZ (by
  cases q:ρ.fD g e' with
  |none=>rfl
  |some x=>have:=hR.iL g e e' x hge q;omega)
 next:=hs.next
 os:=hs.os
 tape:=hs.tape
 output:=hs.output
 size:=hs.size
 kept:=hs.kept
 old:=hs.old
 fQ:=hs.fQ
 own:=fun k hk ho=>by
  rcases ho with⟨r,o',hr,hg,hl⟩|⟨g1,e1,c1,hg,he⟩
  ·rw[AH.ak]at hg
   by_cases hrg:r=g
   ·rw[if_pos hrg]at hg;simp only[aac]at hg;subst hg;exact hl.elim
   ·rw[if_neg hrg]at hg;exact hs.own k hk (.inl ⟨r,o',hr,hg,hl⟩)
  ·rw[AH.ak]at he
   by_cases hgn:g1=g
   ·subst hgn
    simp only[if_true,aac,AO.fD.injEq]at he;subst he
    rw[eF.fJ]at hg;simp only[aac,aaW]at hg
    rcases hb with hb|⟨c0,hb⟩
    ·omega
    ·exact hs.own k hk (.inr ⟨g1,e,c0,by rw[<-hg.1];exact hb,hge⟩)
   ·rw[if_neg hgn]at he;simp only[eF.eZ,hgn,false_and,if_false]at hg;exact hs.own k hk (.inr ⟨g1,e1,c1,hg,he⟩)
end Go.Sk
namespace Go.Sk
variable{P:Program}{ρ:eF}
theorem GD{t:TypeId}{b:Bool}(h:EM P t=some b)(w:World):(isAgg t).run P w= .ok b w:=by
 unfold EM at h
 cases hu:P.underlying t with
 |none=>rw[hu]at h;cases h
 |some d=>rw[hu]at h;simp only[isAgg,Sem.run_bind,run_underlying hu,Result.andThen_ok];cases d<;>simp_all
theorem AZ{t:TypeId}{n:Nat}(h:sizeT P t=some n)(w:World):(sizeOf t).run P w= .ok n w:=by
 unfold sizeT at h
 cases hi:P.info? t with
 |none=>rw[hi]at h;cases h
 |some i=>rw[hi]at h;simp only[ajF,aac]at h;subst h;simp[sizeOf,typeInfo,hi]
theorem bf.of_cell{v:Value}{a:AV}(h:Fv v=some a):bf ρ a v:=by
 cases v with
 |bool b=>simp only[Fv,aac]at h;subst h;exact .bool b
 |int k n=>simp only[Fv,aac]at h;subst h;exact .int k n
 |string s=>simp only[Fv,aac]at h;subst h;obtain⟨⟨l⟩⟩:=s;exact .str l
 |pointer a=>cases a<;>simp[Fv]at h;subst h;exact .fP
 |slice a n c=>
  simp only[Fv]at h
  split at h<;>simp_all
  subst h;exact .aj
 |map r=>cases r<;>simp[Fv]at h;subst h;exact .fH
 |nilFunc=>simp only[Fv,aac]at h;subst h;exact .gL
 |nilIface=>simp only[Fv,aac]at h;subst h;exact .fB
 |_=>simp[Fv]at h
theorem dz.of_cells:∀{l:List Value} {a:List AV},l.mapM Fv=some a->dz ρ a l
 |[],a,h=>by simp at h;subst h;exact .nil ρ
 |v::l,a,h=>by
  simp only[List.mapM_cons,Option.bind_eq_bind,Option.pure_def]at h
  cases hv:Fv v with
  |none=>rw[hv]at h;simp at h
  |some x=>
   cases hl:l.mapM Fv with
   |none=>rw[hv,hl]at h;simp at h
   |some y=>rw[hv,hl]at h;simp at h;subst h;exact .cons (.of_cell hv) (dz.of_cells hl)
theorem bf.kE{v:Value}{a:AV}(h:ofConst v=some a):bf ρ a v:=by
 cases v with
 |agg cs=>
  simp only[ofConst]at h
  cases hc:cs.toList.mapM Fv with
  |none=>rw[hc]at h;cases h
  |some l=>
   rw[hc]at h;simp only[ajF,aac]at h;subst h
   have:=bf.jR (dz.of_cells (ρ:=ρ) hc)
   simpa using this
 |tuple vs=>
  simp only[ofConst]at h
  split at h
  ·rename_i h0
   simp only[aac]at h;subst h
   have:vs= #[]:=Array.eq_empty_of_size_eq_zero h0
   subst this;exact bf.gV (.nil ρ)
  ·cases h
 |_=>exact .of_cell h
theorem Fh{t:TypeId}{z:AV}(h:BL P t=some z)(w:World):∃cz,(zeroValue t).run P w= .ok cz w/\bf ρ z cz:=by
 unfold BL at h
 cases hi:P.info? t with
 |none=>rw[hi]at h;cases h
 |some i=>
  rw[hi]at h
  simp only[ajE]at h
  cases hz:i.zero with
  |none=>rw[hz]at h;cases h
  |some v=>
   rw[hz]at h
   exact⟨v,by simp[zeroValue,typeInfo,hi,hz],.kE h⟩
theorem F7{t:TypeId}{cs:List AV}{eG:List Value}{off:Nat}{v:AV}(hl:dz ρ cs eG)(h:Ib P t cs off=some v)(w:World) :
  ∃cv,(part t eG.toArray off).run P w= .ok cv w/\bf ρ v cv:=by
 unfold Ib at h
 cases ha:EM P t with
 |none=>rw[ha]at h;cases h
 |some b=>
  rw[ha]at h
  cases b with
  |true=>
   simp only at h
   cases hs:sizeT P t with
   |none=>rw[hs]at h;cases h
   |some n=>
    rw[hs]at h;simp only[ajF,aac]at h;subst h
    refine⟨.agg ((eG.drop off).take n).toArray,?_,bf.jR ((hl.drop off).take n)⟩
    simp[part,GD ha,AZ hs]
  |false=>
   simp only at h
   obtain⟨x,hx,hr⟩:=hl.find h
   exact⟨x,by simp[part,GD ha,hx],hr⟩
theorem KH(d:Nat)(ih:∀t x y b cx cy (w:World),DW P d t x y=some b->bf ρ x cx->bf ρ y cy->(Op.equalIn d t cx cy).run P w= .ok b w)
  {xs ys:List AV} {sj su:List Value} (hx:dz ρ xs sj) (hy:dz ρ ys su) (w:World) :
  ∀(fs:List Field) (b:Bool),Iu P (DW P d) xs ys fs=some b->(Op.eqFields d sj.toArray su.toArray fs).run P w= .ok b w
 |[],b,h=>by simp only[Iu,aac]at h;subst h;rfl
 |f::fs,b,h=>by
  unfold Iu at h
  unfold Op.eqFields
  split at h
  ·rename_i hn
   rw[if_pos hn]
   cases ha:Ib P f.type xs f.offset with
   |none=>rw[ha]at h;simp at h
   |some a=>
    cases hb:Ib P f.type ys f.offset with
    |none=>rw[ha,hb]at h;simp at h
    |some c=>
     rw[ha,hb]at h
     simp only at h
     obtain⟨ca,h1,r1⟩:=F7 hx ha w
     obtain⟨cc,h2,r2⟩:=F7 hy hb w
     simp only[Sem.run_bind,h1,h2,Result.andThen_ok]
     cases he:DW P d f.type a c with
     |none=>rw[he]at h;simp at h
     |some e=>
      rw[he]at h
      rw[ih _ _ _ _ _ _ w he r1 r2]
      cases e with
      |true=>simp only at h;simpa using KH d ih hx hy w fs b h
      |false=>simp only[aac]at h;subst h;simp
  ·rename_i hn
   rw[if_neg hn]
   exact KH d ih hx hy w fs b h
theorem P8(d:Nat)(elem n:TypeId)(ih:∀t x y b cx cy (w:World),DW P d t x y=some b->bf ρ x cx->bf ρ y cy->(Op.equalIn d t cx cy).run P w= .ok b w)
  {xs ys:List AV} {sj su:List Value} (hx:dz ρ xs sj) (hy:dz ρ ys su) (w:World) (b:Bool):∀(k i:Nat),La P (DW P d elem) elem n xs ys k i=some b->
  (do
   for j in List.range' i k do
    let a <-part elem sj.toArray (j*n)
    let c <-part elem su.toArray (j*n)
    if !(<-Op.equalIn d elem a c)then return false
   pure true:Sem Bool).run P w= .ok b w
 |0,i,h=>by simp only[La,aac]at h;subst h;rfl
 |k+1,i,h=>by
  unfold La at h
  cases ha:Ib P elem xs (i*n)with
  |none=>rw[ha]at h;simp at h
  |some a=>
   cases hb:Ib P elem ys (i*n)with
   |none=>rw[ha,hb]at h;simp at h
   |some c=>
    rw[ha,hb]at h
    simp only at h
    obtain⟨ca,h1,r1⟩:=F7 hx ha w
    obtain⟨cc,h2,r2⟩:=F7 hy hb w
    simp only[List.range'_succ,List.forIn_cons,Sem.run_bind,h1,h2,Result.andThen_ok]
    cases he:DW P d elem a c with
    |none=>rw[he]at h;simp at h
    |some e=>
     rw[he]at h
     rw[ih _ _ _ _ _ _ w he r1 r2]
     cases e with
     |true=>
      simp only at h
      have:=P8 d elem n ih hx hy w b k (i+1) h
      simpa using this
     |false=>simp only[aac]at h;subst h;simp
theorem Z9:∀(d:Nat) (t:TypeId) (x y:AV) (b:Bool) (cx cy:Value) (w:World),DW P d t x y=some b->bf ρ x cx->bf ρ y cy->(Op.equalIn d t cx cy).run P w= .ok b w:=by
 intro d
 induction d with
 |zero=>intro t x y b cx cy w h;simp[DW]at h
 |succ d ih=>
  intro t x y b cx cy w h hx hy
  unfold DW at h
  cases hu:P.underlying t with
  |none=>rw[hu]at h;simp at h
  |some ty=>
   rw[hu]at h
   cases ty with
   |bool=>
    simp only at h
    cases x<;>cases y<;>simp at h
    subst h;cases hx;cases hy;simp[Op.equalIn,run_underlying hu]
   |int k=>
    simp only at h
    cases x<;>cases y<;>simp at h
    obtain⟨rfl,rfl⟩:=h;cases hx;cases hy;simp[Op.equalIn,run_underlying hu]
   |string=>
    simp only at h
    cases x<;>cases y<;>simp at h
    subst h;cases hx;cases hy
    rw[run_equalIn_string w d t _ _ hu,ByteArray.toList_eq,ByteArray.toList_eq]
   |pointer e=>
    simp only at h
    cases x<;>cases y<;>simp at h
    ·subst h;cases hx;cases hy;simp[Op.equalIn,run_underlying hu]
    ·subst h;cases hx;cases hy;simp[Op.equalIn,run_underlying hu]
    ·subst h;cases hx;cases hy;simp[Op.equalIn,run_underlying hu]
    ·subst h;cases hx;cases hy;simp[Op.equalIn,run_underlying hu]
    ·rename_i r1 o1 r2 o2
     obtain⟨⟨rfl,hs⟩,rfl⟩:=h
     cases hx with|ptr _ _ b1 h1=>
     cases hy with|ptr _ _ b2 h2=>
     rw[h1]at h2;simp only[aac]at h2;subst h2
     cases hn:sizeT P e with
     |none=>rw[hn]at hs;simp at hs
     |some n=>
      rw[hn]at hs
      have hn0:n≠0:=by simpa using hs
      simp[Op.equalIn,run_underlying hu,AZ hn,hn0,sameAddr]
      by_cases e:o1=o2
      ·subst e;simp
      ·have:(({ block:=b1,off:=o1,spot:=none }:Addr)== { block:=b1,off:=o2,spot:=none })=false:=by
        rw[beq_eq_false_iff_ne];intro q;cases q;exact e rfl
       simp[this,e]
    ·subst h;cases hx;cases hy;simp[Op.equalIn,run_underlying hu]
   |slice e=>
    simp only at h
    cases x<;>cases y<;>simp at h<;>subst h<;>cases hx<;>cases hy<;>simp[Op.equalIn,run_underlying hu]
   |map k e=>
    simp only at h
    cases x<;>cases y<;>simp at h<;>subst h<;>cases hx<;>cases hy<;>simp[Op.equalIn,run_underlying hu]
   |func a c e=>
    simp only at h
    cases x<;>cases y<;>simp at h<;>subst h<;>cases hx<;>cases hy<;>simp[Op.equalIn,run_underlying hu]
   |interface ms=>
    simp only at h
    cases x<;>cases y<;>simp at h
    ·rename_i tx vx ty vy
     cases hx with|iface _ _ cvx hvx=>
     cases hy with|iface _ _ cvy hvy=>
     by_cases e:tx=ty
     ·subst e
      rw[if_pos rfl]at h
      cases hi:P.info? tx with
      |none=>rw[hi]at h;simp at h
      |some i=>
       rw[hi]at h
       by_cases hc:i.comparable
       ·simp only[Option.any_some,hc,if_true]at h
        have:=ih tx vx vy b cvx cvy w h hvx hvy
        simp[Op.equalIn,run_underlying hu,typeInfo,hi,hc,this]
       ·simp[hc]at h
     ·rw[if_neg e]at h;simp only[aac]at h;subst h
      simp[Op.equalIn,run_underlying hu,e]
    ·subst h;cases hx;cases hy;simp[Op.equalIn,run_underlying hu]
    ·subst h;cases hx;cases hy;simp[Op.equalIn,run_underlying hu]
    ·subst h;cases hx;cases hy;simp[Op.equalIn,run_underlying hu]
   |struct fs=>
    simp only at h
    cases x<;>cases y<;>simp at h
    rename_i xs ys
    obtain⟨hst,h⟩:=h
    obtain⟨sj,rfl,lx⟩:=hx.iA
    obtain⟨su,rfl,ly⟩:=hy.iA
    have hf:P.fieldsOf t=fs:=by simp[Program.fieldsOf,hu]
    rw[run_equalIn_struct w d t _ _ (by rw[hf];exact hu) hst,hf]
    exact KH d ih lx ly w fs.toList b h
   |array len elem=>
    simp only at h
    cases hn:sizeT P elem with
    |none=>rw[hn]at h;cases x<;>cases y<;>simp at h
    |some n=>
     rw[hn]at h
     cases x<;>cases y<;>simp at h
     rename_i xs ys
     obtain⟨sj,rfl,lx⟩:=hx.iA
     obtain⟨su,rfl,ly⟩:=hy.iA
     have:=P8 d elem n ih lx ly w b len 0 h
     simp only[Op.equalIn,Sem.run_bind,run_underlying hu,AZ hn,Result.andThen_ok]
     rw[Std.Legacy.Range.forIn_eq_forIn_range']
     simpa using this
   |_=>simp at h
theorem UE{t:TypeId}{x y:AV}{b:Bool}{cx cy:Value}(w:World)(h:mY P t x y=some b)(hx:bf ρ x cx)(hy:bf ρ y cy):(Op.equal t cx cy).run P w= .ok b w:=
 Z9 10000 t x y b cx cy w h hx hy
end Go.Sk
namespace Go.Sk
variable{P:Program}{ρ:eF}
theorem Gg(r:Result PUnit):(r.andThen fun _ w'=> .ok () w')=r:=by cases r<;>rfl
theorem MX(empty:Bool)(d:Nat)(ih:∀t v cv (w:World),Ga P d t v=true->bf ρ v cv->(Instr.checkKey empty d t cv).run P w= .ok () w)
  {cs:List AV} {eG:List Value} (hl:dz ρ cs eG) (w:World):∀(fs:List Field),J6 P (Ga P d) cs fs=true->
  (do
   for f in fs do
    if f.name≠ "_" then Instr.checkKey empty d f.type (<-part f.type eG.toArray f.offset)
   pure ():Sem Unit).run P w= .ok () w
 |[],_=>rfl
 |f::fs,h=>by
  simp only[J6,abB]at h
  obtain⟨h1,h2⟩:=h
  have zn:=MX empty d ih hl w fs h2
  simp only[List.forIn_cons,Sem.run_bind]
  split
  ·rename_i hn
   rw[if_pos hn]at h1
   cases ha:Ib P f.type cs f.offset with
   |none=>rw[ha]at h1;simp at h1
   |some v=>
    rw[ha]at h1
    obtain⟨cv,hp,hr⟩:=F7 hl ha w
    simp only[Sem.run_bind,hp,Result.andThen_ok,ih _ _ _ w h1 hr]
    simpa[Gg]using zn
  ·simpa[Gg]using zn
theorem NN(empty:Bool)(d:Nat)(elem n:TypeId)(ih:∀t v cv (w:World),Ga P d t v=true->bf ρ v cv->(Instr.checkKey empty d t cv).run P w= .ok () w)
  (hn:sizeT P elem=some n) {cs:List AV} {eG:List Value} (hl:dz ρ cs eG) (w:World):∀(k i:Nat),MI P (Ga P d elem) elem n cs k i=true->
  (do
   for j in List.range' i k do Instr.checkKey empty d elem (<-part elem eG.toArray (j*(<-sizeOf elem)))
   pure ():Sem Unit).run P w= .ok () w
 |0,i,_=>rfl
 |k+1,i,h=>by
  simp only[MI,abB]at h
  obtain⟨h1,h2⟩:=h
  have zn:=NN empty d elem n ih hn hl w k (i+1) h2
  cases ha:Ib P elem cs (i*n)with
  |none=>rw[ha]at h1;simp at h1
  |some v=>
   rw[ha]at h1
   obtain⟨cv,hp,hr⟩:=F7 hl ha w
   simp only[List.range'_succ,List.forIn_cons,Sem.run_bind,AZ hn,hp,Result.andThen_ok,ih _ _ _ w h1 hr]
   simpa[Gg]using zn
theorem run_checkKey(empty:Bool):∀(d:Nat) (t:TypeId) (v:AV) (cv:Value) (w:World),Ga P d t v=true->bf ρ v cv->(Instr.checkKey empty d t cv).run P w= .ok () w:=by
 intro d
 induction d with
 |zero=>intro t v cv w h;simp[Ga]at h
 |succ d ih=>
  intro t v cv w h hv
  unfold Ga at h
  cases hu:P.underlying t with
  |none=>rw[hu]at h;simp at h
  |some ty=>
   rw[hu]at h
   cases ty with
   |interface ms=>simp at h
   |array len elem=>
    simp only at h
    cases hn:sizeT P elem with
    |none=>rw[hn]at h;cases v<;>simp at h
    |some n=>
     rw[hn]at h
     cases v<;>simp at h
     obtain⟨eG,rfl,hl⟩:=hv.iA
     have:=NN empty d elem n ih hn hl w len 0 h
     simp only[Instr.checkKey,Sem.run_bind,run_underlying hu,Result.andThen_ok]
     rw[Std.Legacy.Range.forIn_eq_forIn_range']
     simpa[Gg]using this
   |struct fs=>
    simp only at h
    cases v<;>simp at h
    obtain⟨eG,rfl,hl⟩:=hv.iA
    have:=MX empty d ih hl w fs.toList h
    simp only[Instr.checkKey,Sem.run_bind,run_underlying hu,Result.andThen_ok]
    rw[<-Array.forIn_toList]
    simpa[Gg]using this
   |_=>simp[Instr.checkKey,run_underlying hu]
theorem bf.plainCell{a b:AV}{ca cb:Value}(h:Dj a b=true)(ha:bf ρ a ca)(hb:bf ρ b cb):ca=cb/\(∀n,Instr.sameBits n ca cb=true):=by
 cases a<;>cases b<;>simp[Dj]at h
 ·subst h;cases ha;cases hb;exact⟨rfl,fun n=>by cases n<;>simp[Instr.sameBits]⟩
 ·obtain⟨rfl,rfl⟩:=h;cases ha;cases hb;exact⟨rfl,fun n=>by cases n<;>simp[Instr.sameBits]⟩
 ·subst h;cases ha;cases hb;exact⟨rfl,fun n=>by cases n<;>simp[Instr.sameBits,beq_toListBytes]⟩
theorem dz.kF:∀{a b:List AV} {ca cb:List Value},BR a b=true->dz ρ a ca->dz ρ b cb->ca=cb/\(∀n,(ca.zip cb).all (fun x=>Instr.sameBits n x.1 x.2)=true)
 |[],[],[],[],_,_,_=>⟨rfl,fun _=>rfl⟩
 |[],[],[],_::_,_,_,h=>by have:=h.1;simp at this
 |[],[],_::_,_,_,h,_=>by have:=h.1;simp at this
 |[],_::_,_,_,h,_,_=>by simp[BR]at h
 |_::_,[],_,_,h,_,_=>by simp[BR]at h
 |_::_,_::_,[],_,_,h,_=>by have:=h.1;simp at this
 |_::_,_::_,_::_,[],_,_,h=>by have:=h.1;simp at this
 |a::l,b::r,ca::cl,cb::cr,h,ha,hb=>by
  simp only[BR,abB]at h
  obtain⟨e1,f1⟩:=bf.plainCell h.1 ha.head hb.head
  obtain⟨e2,f2⟩:=dz.kF h.2 ha.tail hb.tail
  exact⟨by rw[e1,e2],fun n=>by simp only[List.zip_cons_cons,acy,f1 n,f2 n,Bool.and_true]⟩
theorem bf.plain{a b:AV}{ca cb:Value}(h:D5 a b=true)(ha:bf ρ a ca)(hb:bf ρ b cb):Instr.sameBits 10000 ca cb=true:=by
 cases a with
 |agg as=>
  cases b with
  |agg bs=>
   obtain⟨eG,rfl,hl⟩:=ha.iA
   obtain⟨cds,rfl,hm⟩:=hb.iA
   obtain⟨rfl,hf⟩:=dz.kF (by simpa[D5]using h) hl hm
   have:=hf 9999
   simp only[Instr.sameBits,beq_self_eq_true,akK]
   simpa using this
  |_=>simp[D5,Dj]at h
 |_=>cases b<;>exact(bf.plainCell (by simpa[D5]using h) ha hb).2 _
theorem MW{kt:TypeId}{d:TypeDesc}{a b:Value}{r:Bool}(hu:P.underlying kt=some d)(h:Instr.sameNow d a b=some r)(w:World):(Op.equal kt a b).run P w= .ok r w:=by
 unfold Instr.sameNow at h
 split at h
 ·split at h
  ·rename_i hk;subst hk;simp only[aac]at h;subst h;exact run_equalIn_int w 9999 kt _ _ _ _ hu
  ·cases h
 ·simp only[aac]at h;subst h
  rw[show Op.equal kt=Op.equalIn (9999+1) kt from rfl,run_equalIn_string w 9999 kt _ _ hu,beq_toListBytes]
 ·simp only[aac]at h;subst h;exact run_equalIn_bool' w 9999 kt _ _ hu
 ·cases h
def gq(ρ:eF)(es:List (AV × AV × Nat))(fZ:List MapEntry):Prop:=fZ.length=es.length/\∀i (hi:i<es.length) (hj:i<fZ.length),ZL ρ es[i] fZ[i]
theorem gq.head{e:AV × AV × Nat}{es:List (AV × AV × Nat)}{c:MapEntry}{fZ:List MapEntry}(h:gq ρ (e::es) (c::fZ)):ZL ρ e c:=h.2 0 (by simp) (by simp)
theorem gq.tail{e:AV × AV × Nat}{es:List (AV × AV × Nat)}{c:MapEntry}{fZ:List MapEntry}(h:gq ρ (e::es) (c::fZ)):gq ρ es fZ:=
 ⟨by have:=h.1;simpa using this,fun i hi hj=>h.2 (i+1) (by simpa using hi) (by simpa using hj)⟩
def Found(k:AV)(es:List (AV × AV × Nat))(i0:Nat)(r:Option (Nat × AV × Nat)):Prop:=
 match r with
 |none=>True
 |some (i,v,b)=>i0<=i/\∃k',es[i - i0]?=some (k',v,b)/\D5 k k'=true
def Ry(fZ:List MapEntry)(i0:Nat)(r:Option (Nat × AV × Nat))(q:Option (Nat × Value)):Prop:=
 match r,q with
 |none,none=>True
 |some (i,_,_),some (j,cv)=>j=i/\(fZ[i - i0]?).map (·.val)=some cv
 |_,_=>False
theorem Ut{kt:TypeId}{d:TypeDesc}(hu:P.underlying kt=some d){k:AV}{ck:Value}(hk:bf ρ k ck)(w:World) :
  ∀(es:List (AV × AV × Nat)) (fZ:List MapEntry) (i:Nat) (r:Option (Nat × AV × Nat)),gq ρ es fZ->OQ (fun e=>mY P kt k e) k es i=some r->
   Found k es i r/\(∃q,(Instr.findAsking kt ck fZ i).run P w= .ok q w/\Ry fZ i r q)/\(∀q,Instr.findNow d ck fZ i=some q->Ry fZ i r q)
 |[],[],i,r,_,h=>by
  simp only[OQ,aac]at h;subst h
  exact⟨trivial,⟨none,rfl,trivial⟩,fun q hq=>by simp only[Instr.findNow,aac]at hq;subst hq;trivial⟩
 |[],_::_,_,_,h,_=>by have:=h.1;simp at this
 |_::_,[],_,_,h,_=>by have:=h.1;simp at this
 |(k',v,b)::es,c::fZ,i,r,he,h=>by
  have hh:=he.head
  unfold OQ at h
  cases hq:mY P kt k k' with
  |none=>simp[hq]at h
  |some t=>
   have hrun:=UE w hq hk hh.1
   cases t with
   |true=>
    simp only[hq]at h
    split at h
    ·rename_i hp
     simp only[aac]at h;subst h
     refine⟨⟨ab5 _,k',by simp,hp⟩,⟨some (i,c.val),?_,rfl,by simp⟩,?_⟩
     ·simp[Instr.findAsking,hrun]
     ·intro q hf
      simp only[Instr.findNow]at hf
      split at hf
      ·simp only[aac]at hf;subst hf;exact⟨rfl,by simp⟩
      ·rename_i hs
       have:=MW (P:=P) hu hs w
       rw[hrun]at this;cases this
      ·cases hf
    ·cases h
   |false=>
    simp only[hq]at h
    obtain⟨f1,⟨q,f2,f3⟩,f4⟩:=Ut hu hk w es fZ (i+1) r he.tail h
    have up:∀q,Ry fZ (i+1) r q->Ry (c::fZ) i r q:=by
     intro q hf
     cases r with
     |none=>
      cases q with
      |none=>trivial
      |some y=>exact hf.elim
     |some x=>
      obtain⟨j,v',b'⟩:=x
      cases q with
      |none=>exact hf.elim
      |some y=>
       obtain⟨e1,e2⟩:=hf
       refine⟨e1,?_⟩
       have hle:i+1<=j:=f1.1
       rw[show j - i=(j - (i+1))+1 by omega,ajG];exact e2
    refine⟨?_,⟨q,?_,up q f3⟩,?_⟩
    ·cases r with
     |none=>trivial
     |some x=>
      obtain⟨j,v',b'⟩:=x
      obtain⟨e1,k2,e2,e3⟩:=f1
      exact⟨by omega,k2,by rw[show j - i=(j - (i+1))+1 by omega,ajG];exact e2,e3⟩
    ·simp[Instr.findAsking,hrun,f2]
    ·intro q hf
     simp only[Instr.findNow]at hf
     split at hf
     ·rename_i hs
      have:=MW (P:=P) hu hs w
      rw[hrun]at this;cases this
     ·exact up q (f4 q hf)
     ·cases hf
theorem run_findKey{kt:TypeId}{k:AV}{ck:Value}(hk:bf ρ k ck){es:List (AV × AV × Nat)}{fZ:List MapEntry}(he:gq ρ es fZ){r:Option (Nat × AV × Nat)}
  (h:EY P kt k es=some r) (w:World):(∀empty,(Instr.checkKey empty 10000 kt ck).run P w= .ok () w)/\Found k es 0 r/\∃q,(Instr.findKey kt ck fZ).run P w= .ok q w/\Ry fZ 0 r q:=by
 unfold EY at h
 split at h
 ·rename_i hok
  have hck:∀empty,(Instr.checkKey empty 10000 kt ck).run P w= .ok () w:=fun empty=>run_checkKey empty 10000 kt k ck w hok hk
  cases hu:P.underlying kt with
  |none=>simp[Ga,hu]at hok
  |some d=>
   obtain⟨f1,⟨q,f2,f3⟩,f4⟩:=Ut hu hk w es fZ 0 r he h
   refine⟨hck,f1,?_⟩
   simp only[Instr.findKey,Sem.run_bind,run_underlying hu,Result.andThen_ok]
   cases hn:Instr.findNow d ck fZ 0 with
   |none=>exact⟨q,by simpa using f2,f3⟩
   |some q'=>exact⟨q',rfl,f4 q' hn⟩
 ·cases h
end Go.Sk
namespace Go.Sk
variable{P:Program}{ρ:eF}
theorem Wl{op:BinOp}{t:TypeId}{ox oy:Operand}{x y:AV}{cx cy:Value}(h:IL P t ox oy x y=true)(hx:bf ρ x cx)(hy:bf ρ y cy)(w:World) :
  (eqGuard op t ox oy cx cy).run P w= .ok () w:=by
 unfold eqGuard
 split
 case h_3=>rfl
 all_goals
  simp only[ak1,ajB,if_false]
  split
  ·cases hx;cases hy
   simp only[IL,ajH]at h
   rw[if_pos]
   ·rfl
   ·rcases h with h|h
    ·cases ox<;>simp at h ⊢
    ·cases oy<;>simp at h ⊢
  ·cases hx;cases hy
   simp only[IL,aks]at h
   simp[h]
  ·rfl
theorem bf.l7{v:AV}{k:FloatKind}{b:Nat}(h:bf ρ v (.float k b)):False:=by cases h
theorem bf.kG{v:AV}{k:FloatKind}{a b:Nat}(h:bf ρ v (.complex k a b)):False:=by cases h
theorem binOp_eql(t:TypeId){cx cy:Value}(h1:∀k a k' b,cx= .int k a->cy= .int k' b->False)(h2:∀k a,cx= .float k a->False)
  (h3:∀k a b,cx= .complex k a b->False) (h4:∀a b,cx= .string a->cy= .string b->False) :
  binOp .eql t cx cy=(do pure (.bool (<-Op.equal t cx cy)):Sem Value):=by
 unfold binOp
 split
 all_goals first
  |rfl
  |exact(h1 _ _ _ _ rfl rfl).elim
  |exact(h2 _ _ rfl).elim
  |exact(h3 _ _ _ rfl).elim
  |exact(h4 _ _ rfl rfl).elim
  |(simp_all;done)
theorem binOp_neq(t:TypeId){cx cy:Value}(h1:∀k a k' b,cx= .int k a->cy= .int k' b->False)(h2:∀k a,cx= .float k a->False)
  (h3:∀k a b,cx= .complex k a b->False) (h4:∀a b,cx= .string a->cy= .string b->False) :
  binOp .neq t cx cy=(do pure (.bool (!(<-Op.equal t cx cy))):Sem Value):=by
 unfold binOp
 split
 all_goals first
  |rfl
  |exact(h1 _ _ _ _ rfl rfl).elim
  |exact(h2 _ _ rfl).elim
  |exact(h3 _ _ _ rfl).elim
  |exact(h4 _ _ rfl rfl).elim
  |(simp_all;done)
theorem XY{op:BinOp}(hs:op≠ .shl)(hr:op≠ .shr){t:TypeId}{k:IntKind}{a b:Int}{v:AV}(h:Ki op k a b=some v)(w:World) :
  ∃cv,(binOp op t (.int k a) (.int k b)).run P w= .ok cv w/\bf ρ v cv:=by
 cases op<;>first|exact absurd rfl hs|exact absurd rfl hr|skip
 case quo=>
  simp only[Ki]at h
  split at h
  ·cases h
  ·rename_i hb;simp only[aac]at h;subst h
   refine⟨_,?_,.int _ _⟩
   simp[binOp,Op.intDiv,hb]
 case rem=>
  simp only[Ki]at h
  split at h
  ·cases h
  ·rename_i hb;simp only[aac]at h;subst h
   refine⟨_,?_,.int _ _⟩
   simp[binOp,Op.intDiv,hb]
 all_goals
  simp only[Ki,JM,ajF,aac]at h;subst h
  first
   |(refine⟨_,?_,.int _ _⟩;simp[binOp,Op.intArith];done)
   |(refine⟨_,?_,.int _ _⟩;simp[binOp,Op.intBits];done)
   |(refine⟨_,?_,.bool _⟩;simp[binOp,Op.intCmp];done)
theorem Sv{op:BinOp}{k yk:IntKind}{a b:Int}{v:AV}(h:VB op k a b=some v)(w:World) :
  ∃cv,(Op.shift op k a yk b).run P w= .ok cv w/\bf ρ v cv:=by
 unfold VB at h
 split at h
 ·cases h
 ·rename_i hb
  cases op<;>simp at h
  ·subst h;refine⟨_,?_,.int _ _⟩;simp[Op.shift,hb]
  ·subst h;refine⟨_,?_,.int _ _⟩;simp[Op.shift,hb]
theorem YJ{op:BinOp}{a b:List UInt8}{v:AV}(h:XP op a b=some v)(w:World) :
  ∃cv,(Op.stringOp op ⟨⟨a⟩⟩ ⟨⟨b⟩⟩).run P w= .ok cv w/\bf ρ v cv:=by
 have e:∀l:List UInt8,(⟨⟨l⟩⟩:ByteArray).toList=l:=fun l=>by rw[ByteArray.toList_eq]
 cases op<;>simp[XP]at h
 ·obtain⟨h1,rfl⟩:=h
  refine⟨.string (⟨⟨a⟩⟩++⟨⟨b⟩⟩),?_,?_⟩
  ·have:¬(((⟨⟨a⟩⟩:ByteArray).size+(⟨⟨b⟩⟩:ByteArray).size:Nat):Int)>IntKind.i64.max:=by
    have h2:IntKind.i64.max=9223372036854775807:=by decide
    rw[h2]
    show ¬((a.length+b.length:Nat):Int)>_
    omega
   simp only[Op.stringOp]
   rw[if_neg this];rfl
  ·have:(⟨⟨a⟩⟩++⟨⟨b⟩⟩:ByteArray)=⟨⟨a++b⟩⟩:=by
    apply ByteArray.ext
    simp[ByteArray.data_append]
   rw[this];exact .str _
 all_goals
  subst h
  refine⟨_,?_,.bool _⟩
  simp[Op.stringOp,e]
end Go.Sk
namespace Go.Sk
variable{P:Program}{ρ:eF}
theorem Xy{op:BinOp}{t:TypeId}{ox oy:Operand}{x y v:AV}{cx cy:Value}(hni:∀k a k' b,x= .int k a->y= .int k' b->False)(hns:∀a b,x= .str a->y= .str b->False)
  (h:YB P op t ox oy x y=some v) (hx:bf ρ x cx) (hy:bf ρ y cy) (w:World):IL P t ox oy x y=true/\∃cv,(binOp op t cx cy).run P w= .ok cv w/\bf ρ v cv:=by
 unfold YB at h
 split at h
 ·rename_i hg
  refine⟨hg,?_⟩
  cases op<;>simp only[ajS]at h<;>try (cases h;done)
  ·obtain⟨b,hq,rfl⟩:=h
   have hrun:=UE w hq hx hy
   refine⟨.bool b,?_,.bool b⟩
   rw[binOp_eql t (by rintro k a k' b rfl rfl;cases hx;cases hy;exact hni _ _ _ _ rfl rfl) (by rintro k a rfl;exact hx.l7) (by rintro k a b rfl;exact hx.kG)
    (by rintro a b rfl rfl;cases hx;cases hy;exact hns _ _ rfl rfl)]
   simp[hrun]
  ·obtain⟨b,hq,rfl⟩:=h
   have hrun:=UE w hq hx hy
   refine⟨.bool (!b),?_,.bool _⟩
   rw[binOp_neq t (by rintro k a k' b rfl rfl;cases hx;cases hy;exact hni _ _ _ _ rfl rfl) (by rintro k a rfl;exact hx.l7) (by rintro k a b rfl;exact hx.kG)
    (by rintro a b rfl rfl;cases hx;cases hy;exact hns _ _ rfl rfl)]
   simp[hrun]
 ·cases h
theorem Vh{op:BinOp}(hs:op≠ .shl)(hr:op≠ .shr){t:TypeId}{ox oy:Operand}{x y v:AV}{cx cy:Value}(h:Ra P op t ox oy x y=some v)
  (hx:bf ρ x cx) (hy:bf ρ y cy) (w:World):IL P t ox oy x y=true/\∃cv,(binOp op t cx cy).run P w= .ok cv w/\bf ρ v cv:=by
 unfold Ra at h
 split at h
 ·split at h
  ·rename_i hk;subst hk
   cases hx;cases hy
   exact⟨rfl,XY hs hr h w⟩
  ·cases h
 ·cases hx;cases hy
  obtain⟨cv,hrun,hv⟩:=YJ (P:=P) (ρ:=ρ) h w
  exact⟨rfl,cv,by cases op<;>first|exact absurd rfl hs|exact absurd rfl hr|exact hrun,hv⟩
 ·rename_i hni hns
  exact Xy (fun k a k' b e1 e2=>hni k a k' b e1 e2) (fun a b e1 e2=>hns a b e1 e2) h hx hy w
theorem Xx{op:BinOp}{t:TypeId}{ox oy:Operand}{x y v:AV}{cx cy:Value}(h:Fw P op t ox oy x y=some v)(hx:bf ρ x cx)(hy:bf ρ y cy)(w:World) :
  ∃cv,(do eqGuard op t ox oy cx cy;binOp op t cx cy:Sem Value).run P w= .ok cv w/\bf ρ v cv:=by
 have guard:IL P t ox oy x y=true/\(∃cv,(binOp op t cx cy).run P w= .ok cv w/\bf ρ v cv)->∃cv,(do eqGuard op t ox oy cx cy;binOp op t cx cy:Sem Value).run P w= .ok cv w/\bf ρ v cv:=by
  intro⟨hg,cv,hr,hv⟩
  exact⟨cv,by simp only[Sem.run_bind,Wl hg hx hy,Result.andThen_ok,hr],hv⟩
 refine guard ?_
 unfold Fw at h
 split at h
 ·split at h
  ·rename_i k a yk b
   cases hx;cases hy
   obtain⟨cv,hr,hv⟩:=Sv (P:=P) (ρ:=ρ) (yk:=yk) h w
   exact⟨rfl,cv,hr,hv⟩
  ·cases h
 ·split at h
  ·rename_i k a yk b
   cases hx;cases hy
   obtain⟨cv,hr,hv⟩:=Sv (P:=P) (ρ:=ρ) (yk:=yk) h w
   exact⟨rfl,cv,hr,hv⟩
  ·cases h
 ·rename_i hs hr
  exact Vh hs hr h hx hy w
theorem aat{op:UnOp}{x v:AV}{cx:Value}(h:Xf op x=some v)(hx:bf ρ x cx)(w:World):∃cv,(Op.unary op cx).run P w= .ok cv w/\bf ρ v cv:=by
 cases op<;>cases x<;>simp[Xf]at h
 ·cases hx
  simp only[Ki,aac]at h;subst h
  refine⟨_,?_,.int _ _⟩;simp[Op.unary,Op.intArith]
 ·cases hx
  simp only[Ki,JM,ajF,aac]at h;subst h
  refine⟨_,?_,.int _ _⟩;simp[Op.unary,Op.intBits]
 ·subst h;cases hx;refine⟨_,?_,.bool _⟩;simp[Op.unary]
theorem XV{t:TypeId}{x v:AV}{cx:Value}{i:Nat}(h:RA P t x i=some v)(hx:bf ρ x cx)(w:World):∃cv,(Instr.field t cx i).run P w= .ok cv w/\bf ρ v cv:=by
 unfold RA at h
 split at h
 ·rename_i fs cs hu
  obtain⟨eG,rfl,hl⟩:=hx.iA
  cases hf:fs[i]? with
  |none=>rw[hf]at h;simp at h
  |some f=>
   rw[hf]at h
   obtain⟨cv,hr,hv⟩:=F7 hl h w
   exact⟨cv,by simp[Instr.field,run_underlying hu,hf,asAgg,hr],hv⟩
 ·cases h
theorem YE{t:TypeId}{x ix v:AV}{cx ci:Value}(h:Nh P t x ix=some v)(hx:bf ρ x cx)(hi:bf ρ ix ci)(w:World):∃cv,(Instr.index t cx ci).run P w= .ok cv w/\bf ρ v cv:=by
 unfold Nh at h
 split at h
 ·rename_i len elem cs k i hu
  obtain⟨eG,rfl,hl⟩:=hx.iA
  cases hi
  split at h
  ·rename_i hb
   cases hs:sizeT P elem with
   |none=>rw[hs]at h;simp at h
   |some s=>
    rw[hs]at h
    obtain⟨cv,hr,hv⟩:=F7 hl h w
    exact⟨cv,by simp[Instr.index,asIntOf,run_underlying hu,hb,AZ hs,hr],hv⟩
  ·cases h
 ·rename_i s k i hu
  cases hx;cases hi
  split at h
  ·rename_i h0
   split at h
   ·rename_i b hb
    simp only[aac]at h;subst h
    refine⟨.int .u8 b.toNat,?_,.int _ _⟩
    have:(⟨⟨s⟩⟩:ByteArray)[i.toNat]?=some b:=by
     obtain⟨hlt,hb'⟩:=aao.1 hb
     rw[getElem?_pos (⟨⟨s⟩⟩:ByteArray) i.toNat (show i.toNat<s.length from hlt)]
     exact congrArg some hb'
    simp[Instr.index,asIntOf,run_underlying hu,h0,this]
   ·cases h
  ·cases h
 ·cases h
theorem bf.mZ{t:TypeId}{z v:AV}{b off o:Nat}(h:NJ P t z.cells o=some v)(hz:bf ρ (.ref z) (.pointer (some ⟨b,off,none⟩))):bf ρ v (.pointer (some ⟨b,off+o,none⟩)):=by
 cases hz with|ref _ _ _ c hc hv=>
 unfold NJ at h
 cases ha:EM P t with
 |none=>rw[ha]at h;cases h
 |some bb=>
  rw[ha]at h
  cases bb with
  |true=>
   cases hs:sizeT P t with
   |none=>rw[hs]at h;cases h
   |some n=>
    rw[hs]at h;simp only[ajF,aac]at h;subst h
    have hlen:∀j,j<(AV.agg ((z.cells.drop o).take n)).cells.length->o+j<z.cells.length:=fun j hj=>by
     change j<((z.cells.drop o).take n).length at hj
     simp only[aju,aj0]at hj;omega
    refine .ref _ b (off+o) (fun j=>c (o+j)) (fun j hj=>?_) (fun j hj=>?_)
    ·rw[akj];exact hc _ (hlen j hj)
    ·have e:(AV.agg ((z.cells.drop o).take n)).cells[j]=z.cells[o+j]'(hlen j hj):=by
      simp only[show(AV.agg ((z.cells.drop o).take n)).cells=(z.cells.drop o).take n from rfl,akO,List.getElem_drop]
     rw[e];exact hv _ (hlen j hj)
  |false=>
   simp only at h
   split at h
   ·cases h
   ·rename_i u hna hu
    simp only[aac]at h;subst h
    obtain⟨hlt,hu2⟩:=aao.1 hu
    have hsc:u.cells=[u]:=by cases u<;>first|rfl|exact(hna _ rfl).elim
    have h0:∀j,j<u.cells.length->j=0:=fun j hj=>by rw[hsc]at hj;simpa using hj
    refine .ref _ b (off+o) (fun j=>c (o+j)) (fun j hj=>?_) (fun j hj=>?_)
    ·rw[akj];exact hc _ (by have:=h0 j hj;omega)
    ·obtain rfl:=h0 j hj
     have:u.cells[0]=z.cells[o]:=by simp only[hsc,hu2,ajJ]
     rw[this];exact hv o hlt
   ·cases h
theorem Rz{s:TypeId}{x v:AV}{cx:Value}{i:Nat}(h:I9 P s x i=some v)(hx:bf ρ x cx)(w:World):∃cv,(Instr.fieldAt s cx i).run P w= .ok cv w/\bf ρ v cv:=by
 unfold I9 at h
 split at h
 ·rename_i fs hu
  cases hf:fs[i]? with
  |none=>rw[hf]at h;simp at h
  |some f=>
   rw[hf]at h
   simp only at h
   cases hs:sizeT P f.type with
   |none=>rw[hs]at h;simp at h
   |some n=>
    rw[hs]at h
    cases x<;>simp at h
    ·rename_i r off
     obtain⟨hn,rfl⟩:=h
     cases hx with|ptr _ _ b hb=>
     exact⟨.pointer (some ⟨b,off+f.offset,none⟩),by simp[Instr.fieldAt,run_underlying hu,hf,Instr.sureAddr,fieldPlace,AZ hs,hn,Addr.add_lit],.ptr _ _ _ hb⟩
    ·rename_i z
     obtain⟨hn,h⟩:=h
     cases hx with|ref _ b off c hc hv=>
     exact⟨.pointer (some ⟨b,off+f.offset,none⟩),by simp[Instr.fieldAt,run_underlying hu,hf,Instr.sureAddr,fieldPlace,AZ hs,hn,Addr.add_lit],.mZ h (.ref _ b off c hc hv)⟩
 ·cases h
theorem QX{t:TypeId}{x ix v:AV}{cx ci:Value}(h:BH P t x ix=some v)(hx:bf ρ x cx)(hi:bf ρ ix ci)(w:World):∃cv,(Instr.indexAt t cx ci).run P w= .ok cv w/\bf ρ v cv:=by
 unfold BH at h
 split at h
 ·rename_i len elem k i hu
  cases hi
  cases hs:sizeT P elem with
  |none=>rw[hs]at h;simp at h
  |some s=>
   rw[hs]at h
   simp only at h
   split at h
   ·rename_i hb
    cases x<;>simp at h
    ·subst h
     cases hx with|ptr _ _ b hb'=>
     rename_i r off
     exact⟨.pointer (some ⟨b,off+i.toNat*s,none⟩),by simp[Instr.indexAt,asIntOf,run_underlying hu,Instr.sureAddr,hb,AZ hs,Addr.add_lit],.ptr _ _ _ hb'⟩
    ·rename_i z
     cases hx with|ref _ b off c hc hv=>
     exact⟨.pointer (some ⟨b,off+i.toNat*s,none⟩),by simp[Instr.indexAt,asIntOf,run_underlying hu,Instr.sureAddr,hb,AZ hs,Addr.add_lit],.mZ h (.ref _ b off c hc hv)⟩
   ·cases h
 ·rename_i elem k i hu
  cases hi
  cases hs:sizeT P elem with
  |none=>rw[hs]at h;simp at h
  |some s=>
   rw[hs]at h
   simp only at h
   cases x<;>simp only at h<;>try (cases h;done)
   ·rename_i xs cap
    split at h
    ·rename_i hb
     split at h
     ·rename_i u hu2
      split at h
      ·rename_i hus
       simp only[aac]at h;subst h
       obtain⟨hlt,hu3⟩:=aao.1 hu2
       cases hx with|eP _ _ b off n s' c hs' hc hv hn hcap=>
       have es:s'=s:=by rw[<-hs' i.toNat hlt,hu3];exact hus
       subst es
       refine⟨.pointer (some ⟨b,off+i.toNat*s',none⟩),by simp[Instr.indexAt,asIntOf,run_underlying hu,hb,AZ hs,Addr.add_lit],?_⟩
       refine .ref _ b _ (fun j=>c i.toNat j) (fun j hj=>hc _ _ hlt (by omega)) (fun j hj=>?_)
       have:=hv i.toNat hlt j (by rw[hu3];exact hj)
       simpa only[hu3]using this
      ·cases h
     ·cases h
    ·cases h
   ·rename_i r off len cap
    split at h
    ·rename_i hb
     simp only[aac]at h;subst h
     cases hx with|hsl _ _ _ _ b n hb' hn hcap=>
     exact⟨.pointer (some ⟨b,off+i.toNat*s,none⟩),by simp[Instr.indexAt,asIntOf,run_underlying hu,hb,AZ hs,Addr.add_lit],.ptr _ _ _ hb'⟩
    ·cases h
 ·cases h
end Go.Sk
namespace Go.Sk
variable{P:Program}{ρ:eF}{h:AH}{w:World}
theorem Ef{b off n:Nat}{eG:List Value}{T:TypeId}{fr:Nat × Nat}(hb:w.heap[b]?=some (.cells eG.toArray T fr))(hn:off+n<=eG.length) :
  (loadCells ⟨b,off,none⟩ n).run P w= .ok ((eG.drop off).take n).toArray w:=by
 have hl:((eG.drop off).take n).length=n:=by simp;omega
 have:=run_loadCells_list (P:=P) w ⟨b,off,none⟩ ((eG.drop off).take n) (fun j v hj=>by
  rw[Addr.add_lit]
  rw[ak4]at hj
  split at hj
  ·simp only[List.getElem?_drop]at hj
   simp[World.cell?,hb,hj]
  ·cases hj)
 rwa [hl]at this
theorem NR(hR:Rel ρ h w){b off n:Nat}{c:Nat->Value}(hc:∀j,j<n->ρ.fQ b (off+j)=some (c j)) :
  (loadCells ⟨b,off,none⟩ n).run P w= .ok ((List.range n).map c).toArray w:=
 run_loadCells w ⟨b,off,none⟩ n c (fun j hj=>by rw[Addr.add_lit];exact hR.fQ _ _ _ (hc j hj))
theorem dz.ow{l:List AV}{c:Nat->Value}(hv:∀j (hj:j<l.length),bf ρ l[j] (c j)):dz ρ l ((List.range l.length).map c):=
 ⟨by simp,fun i hi hj=>by simpa using hv i hi⟩
theorem Tz(hR:Rel ρ h w){t:TypeId}{p v:AV}{cp:Value}(he:Av P t p h=some v)(hp:bf ρ p cp):∃cv,(Instr.loadAt t cp).run P w= .ok cv w/\bf ρ v cv:=by
 unfold Av at he
 split at he
 ·rename_i r off
  cases hp with|ptr _ _ b hb=>
  split at he
  ·rename_i cs T n hg ha hs
   split at he
   ·rename_i hle
    simp only[aac]at he;subst he
    obtain⟨eG,fr,hbl,hl,_,_⟩:=hR.obj r _ b hg hb
    have hrun:=Ef (P:=P) (n:=n) hbl (ajT hle hl.1)
    exact⟨.agg ((eG.drop off).take n).toArray,by simp[Instr.loadAt,Instr.sureAddr,loadVar,GD ha,AZ hs,hrun],bf.jR (hl.piece off n hle)⟩
   ·cases he
  ·rename_i cs T n hg ha hs
   obtain⟨eG,fr,hbl,hl,_,_⟩:=hR.obj r _ b hg hb
   obtain⟨x,hx,hr⟩:=hl.find he
   exact⟨x,by simp[Instr.loadAt,Instr.sureAddr,loadVar,GD ha,World.cell?,hbl,hx],hr⟩
  ·cases he
 ·rename_i z
  cases hp with|ref _ b off c hc hv=>
  split at he
  ·rename_i n cs ha hs
   split at he
   ·rename_i hn
    simp only[aac]at he;subst he;subst hn
    have hrun:=NR (P:=P) hR (n:=cs.length) (c:=c) (fun j hj=>hc j hj)
    exact⟨.agg ((List.range cs.length).map c).toArray,by simp[Instr.loadAt,Instr.sureAddr,loadVar,GD ha,AZ hs,hrun],bf.jR (dz.ow (fun j hj=>hv j hj))⟩
   ·cases he
  ·cases he
  ·rename_i u x1 x2 _ n ha hs hna;clear x1 x2
   simp only[aac]at he;subst he
   have hsc:u.cells=[u]:=by cases u<;>first|rfl|exact(hna _ rfl).elim
   have h0:0<u.cells.length:=by rw[hsc];simp
   have hc0:=hR.fQ _ _ _ (hc 0 h0)
   have hv0:=hv 0 h0
   have e:u.cells[0]=u:=by simp only[hsc,ajJ]
   rw[e]at hv0
   rw[alb]at hc0
   exact⟨c 0,by simp[Instr.loadAt,Instr.sureAddr,loadVar,GD ha,hc0],hv0⟩
  ·cases he
 ·cases he
theorem BM{α:Type}:∀(vs l:List α) (off:Nat),(setCells l off vs).length=l.length
 |[],l,off=>rfl
 |v::vs,l,off=>by simp only[setCells];rw[BM vs];simp
theorem dz.setCells:∀{vs l:List AV} {kS cl:List Value} {off:Nat},dz ρ l cl->dz ρ vs kS->dz ρ (Sk.setCells l off vs) (Sk.setCells cl off kS)
 |[],_,[],_,_,h,_=>h
 |[],_,_::_,_,_,_,h=>by have:=h.1;simp at this
 |_::_,_,[],_,_,_,h=>by have:=h.1;simp at this
 |_::_,_,_::_,_,off,h,k=>by
  simp only[Sk.setCells]
  exact dz.setCells (h.set off k.head) k.tail
theorem iH.setCells:∀{vs l:List AV} {kS cl:List Value} {off:Nat},iH ρ l cl->dz ρ vs kS->iH ρ (Sk.setCells l off vs) (Sk.setCells cl off kS)
 |[],_,[],_,_,h,_=>h
 |[],_,_::_,_,_,_,h=>by have:=h.1;simp at this
 |_::_,_,[],_,_,_,h=>by have:=h.1;simp at this
 |_::_,_,_::_,_,off,h,k=>by
  simp only[Sk.setCells]
  exact iH.setCells (h.set off k.head) k.tail
theorem K5(cells:List Value):∀(vs:List Value) (off i:Nat),(vs.zipIdx i).foldl (fun(cs:Array Value) (x:Value × Nat)=>cs.setIfInBounds (off+x.2) x.1) cells.toArray=(setCells cells (off+i) vs).toArray:=by
 intro vs
 induction vs generalizing cells with
 |nil=>intro off i;rfl
 |cons v vs ih=>
  intro off i
  simp only[List.zipIdx_cons,akn,setCells]
  rw[show cells.toArray.setIfInBounds (off+i) v=(cells.set (off+i) v).toArray by simp]
  rw[ih,akj]
def kT(ρ:eF)(l:List (Nat × AV))(c:List (Nat × Value)):Prop:=c.length=l.length/\∀i (hi:i<l.length) (hj:i<c.length),c[i].1=l[i].1/\bf ρ l[i].2 c[i].2
theorem kT.head{a:Nat × AV}{l:List (Nat × AV)}{b:Nat × Value}{c:List (Nat × Value)}(h:kT ρ (a::l) (b::c)):b.1=a.1/\bf ρ a.2 b.2:=h.2 0 (by simp) (by simp)
theorem kT.tail{a:Nat × AV}{l:List (Nat × AV)}{b:Nat × Value}{c:List (Nat × Value)}(h:kT ρ (a::l) (b::c)):kT ρ l c:=
 ⟨by have:=h.1;simpa using this,fun i hi hj=>h.2 (i+1) (by simpa using hi) (by simpa using hj)⟩
theorem O3(place:Nat->Option (Nat × Nat)):∀(parts:List (Nat × AV)) (gJ:List (Nat × Value)) (cells out:List AV) (gG:List Value),kT ρ parts gJ->dz ρ cells gG->
  TN place cells parts=some out->∃cout,Instr.fill place gG.toArray gJ=some cout.toArray/\dz ρ out cout
 |[],[],cells,out,gG,_,hl,h=>by simp only[TN,aac]at h;subst h;exact⟨gG,rfl,hl⟩
 |[],_::_,_,_,_,h,_,_=>by have:=h.1;simp at this
 |_::_,[],_,_,_,h,_,_=>by have:=h.1;simp at this
 |(i,v)::parts,(j,cv)::gJ,cells,out,gG,hp,hl,h=>by
  obtain⟨e,hv⟩:=hp.head
  simp only at e;subst e
  unfold TN at h
  unfold Instr.fill
  cases hq:place j with
  |none=>rw[hq]at h;cases h
  |some x=>
   obtain⟨off,size⟩:=x
   rw[hq]at h
   simp only at h ⊢
   split at h
   ·cases h
   ·rename_i hn
    have hc:=hv.cells
    have e1:cv.cells.size=v.cells.length:=by simpa using hc.1
    have e2:gG.toArray.size=cells.length:=by simpa using hl.1
    rw[if_neg (by rw[e1,e2];exact hn)]
    have:=K5 gG cv.cells.toList off 0
    rw[show cv.cells.zipIdx.foldl (fun(cs:Array Value) (x:Value × Nat)=>cs.setIfInBounds (off+x.2) x.1) gG.toArray=(setCells gG off cv.cells.toList).toArray by
     rw[<-Array.foldl_toList,Array.toList_zipIdx];simpa using this]
    exact O3 place parts gJ _ out _ hp.tail (hl.setCells hc) h
theorem run_places{fs:List Field}{pl:List (Nat × Nat)}(hm:(fs.mapM fun f=>(sizeT P f.type).map fun n=>(f.offset,n))=some pl)(w:World) :
  (fs.mapM fun f=>Functor.map (Prod.mk f.offset) (sizeOf f.type):Sem (List (Nat × Nat))).run P w= .ok pl w:=by
 induction fs generalizing pl with
 |nil=>simp at hm;subst hm;rfl
 |cons f fs ih=>
  simp only[List.mapM_cons,Option.bind_eq_bind,Option.pure_def]at hm
  cases hs:sizeT P f.type with
  |none=>rw[hs]at hm;simp at hm
  |some n=>
   cases hl:(fs.mapM fun f=>(sizeT P f.type).map fun n=>(f.offset,n))with
   |none=>rw[hs,hl]at hm;simp at hm
   |some y=>
    rw[hs,hl]at hm;simp at hm;subst hm
    simp only[List.mapM_cons,Sem.run_bind,Sem.run_map,AZ hs,Result.andThen_ok,ih hl,Sem.run_pure]
theorem X7{t:TypeId}{parts:List (Nat × AV)}{gJ:List (Nat × Value)}{v:AV}(hp:kT ρ parts gJ)(hb:SN P t parts=some v)(w:World) :
  ∃cv,(Instr.build t gJ.toArray).run P w= .ok cv w/\bf ρ v cv:=by
 unfold SN at hb
 split at hb
 ·rename_i z fs hz hu
  obtain⟨cz,hrz,kU⟩:=Fh (ρ:=ρ) hz w
  split at hb
  ·rename_i pl hpl
   simp only[ajS]at hb
   obtain⟨out,hf,rfl⟩:=hb
   obtain⟨cout,hf2,hl⟩:=O3 (pl[·]?) parts gJ z.cells out cz.cells.toList hp kU.cells hf
   have hm:=run_places hpl w
   refine⟨.agg cout.toArray,?_,bf.jR hl⟩
   simp only[Array.toArray_toList]at hf2
   simp only[Instr.build,Sem.run_bind,hrz,Result.andThen_ok,run_underlying hu]
   rw[Array.mapM_eq_mapM_toList]
   simp[hm,hf2]
  ·cases hb
 ·rename_i z len elem hz hu
  obtain⟨cz,hrz,kU⟩:=Fh (ρ:=ρ) hz w
  split at hb
  ·rename_i n hs
   simp only[ajS]at hb
   obtain⟨out,hf,rfl⟩:=hb
   obtain⟨cout,hf2,hl⟩:=O3 (fun i=>some (i*n,n)) parts gJ z.cells out cz.cells.toList hp kU.cells hf
   refine⟨.agg cout.toArray,?_,bf.jR hl⟩
   simp only[Array.toArray_toList]at hf2
   simp[Instr.build,hrz,run_underlying hu,AZ hs,hf2]
  ·cases hb
 ·cases hb
end Go.Sk
namespace Go.Sk
variable{P:Program}{ρ:eF}
def KS(ρ:eF)(a:Option AV)(c:Option Value):Prop:=
 match a,c with
 |none,none=>True
 |some v,some x=>bf ρ v x
 |_,_=>False
theorem Sb{v:AV}{cv:Value}{y y' n:Nat}(h:I4 v y=some n)(hv:bf ρ v cv)(hy:y<=y')(code:BoundsCode)(w:World):(Instr.sliceBound cv y' code).run P w= .ok n w/\n<=y:=by
 unfold I4 at h
 split at h
 ·rename_i k i
  cases hv
  split at h
  ·rename_i hb
   simp only[aac]at h;subst h
   have:0<=i/\i<=(y':Int):=by omega
   exact⟨by simp[Instr.sliceBound,asIntOf,this],by omega⟩
  ·cases h
 ·cases h
theorem Ip{v:Option AV}{cv:Option Value}{y y' d n:Nat}(h:Cq v y d=some n)(hr:KS ρ v cv)(hy:y<=y')(w:World) :
  (∀x,v=some x->∃cx,cv=some cx/\(∀code,(Instr.sliceBound cx y' code).run P w= .ok n w)/\n<=y)/\(v=none->cv=none/\n=d):=by
 cases v with
 |none=>
  cases cv with
  |some _=>exact hr.elim
  |none=>simp only[Cq,aac]at h;exact⟨fun x e=>(by cases e),fun _=>⟨rfl,h.symm⟩⟩
 |some v=>
  cases cv with
  |none=>exact hr.elim
  |some cv=>exact⟨fun x e=>⟨cv,rfl,fun code=>(Sb h hr hy code w).1,(Sb (P:=P) h hr hy .index w).2⟩,fun e=>(by cases e)⟩
theorem DY{len cap cap' l h m:Nat}{lo hi mx:Option AV}{qo sD mI:Option Value}(hb:DX len cap lo hi mx=some (l,h,m))(h1:KS ρ lo qo)(h2:KS ρ hi sD)
  (h3:KS ρ mx mI) (hc:cap<=cap') (hl:len<=cap) (isS:Bool) (w:World) :
  (Instr.sliceBounds isS len cap' qo sD mI).run P w= .ok (l,h,if mx.isSome then m else cap') w/\l<=h/\h<=m/\m<=cap/\(mx=none->m=cap):=by
 unfold DX at hb
 split at hb
 ·cases hb
 ·rename_i hn
  simp only[Option.bind_eq_some_iff,aac,aaW]at hb
  obtain⟨m',hm,h',hh,l',hl',rfl,rfl,rfl⟩:=hb
  obtain⟨m1,m2⟩:=Ip (P:=P) hm h3 hc w
  obtain⟨l1,l2⟩:=Ip (P:=P) hl' h1 (ab5 _) w
  cases mx with
  |none=>
   obtain⟨rfl,rfl⟩:=m2 rfl
   obtain⟨a1,a2⟩:=Ip (P:=P) hh h2 hc w
   cases hi with
   |none=>
    obtain⟨rfl,rfl⟩:=a2 rfl
    cases lo with
    |none=>obtain⟨rfl,rfl⟩:=l2 rfl;exact⟨by simp[Instr.sliceBounds],by omega,hl,by omega,fun _=>rfl⟩
    |some x=>obtain⟨cx,rfl,b1,b2⟩:=l1 x rfl;exact⟨by simp[Instr.sliceBounds,b1],b2,hl,by omega,fun _=>rfl⟩
   |some y=>
    obtain⟨cy,rfl,c1,c2⟩:=a1 y rfl
    cases lo with
    |none=>obtain⟨rfl,rfl⟩:=l2 rfl;exact⟨by simp[Instr.sliceBounds,c1],by omega,c2,by omega,fun _=>rfl⟩
    |some x=>obtain⟨cx,rfl,b1,b2⟩:=l1 x rfl;exact⟨by simp[Instr.sliceBounds,c1,b1],b2,c2,by omega,fun _=>rfl⟩
  |some z=>
   obtain⟨cz,rfl,d1,d2⟩:=m1 z rfl
   cases hi with
   |none=>simp at hn
   |some y=>
    obtain⟨a1,a2⟩:=Ip (P:=P) hh h2 (ab5 _) w
    obtain⟨cy,rfl,c1,c2⟩:=a1 y rfl
    cases lo with
    |none=>obtain⟨rfl,rfl⟩:=l2 rfl;exact⟨by simp[Instr.sliceBounds,c1,d1],by omega,c2,d2,fun e=>by cases e⟩
    |some x=>obtain⟨cx,rfl,b1,b2⟩:=l1 x rfl;exact⟨by simp[Instr.sliceBounds,c1,d1,b1],b2,c2,d2,fun e=>by cases e⟩
theorem G8{n s:Nat}{xs:List AV}(hh:Bj n xs=true)(hs:∀i (hi:i<xs.length),xs[i].cells.length=s):xs=[]\/s=n:=by
 cases xs with
 |nil=>exact .inl rfl
 |cons y ys=>
  right
  have:=hs 0 (by simp)
  simp only[ajJ]at this
  simp only[Bj,beq_iff_eq]at hh
  omega
theorem bf.piece{xs:List AV}{b off s:Nat}{f:Nat->Nat->Value}(hs:∀i (hi:i<xs.length),xs[i].cells.length=s)
  (hc:∀i j,i<xs.length->j<s->ρ.fQ b (off+i*s+j)=some (f i j)) (hv:∀i (hi:i<xs.length) j (hj:j<xs[i].cells.length),bf ρ xs[i].cells[j] (f i j))
  (l h:Nat) (hlh:l<=h) (hh:h<=xs.length) (c':Cap) (n':Nat) (hn:h - l<=n') (hcap:jF ρ c' b (off+l*s+(h - l)*s) s (h - l) n') :
  bf ρ (.eP ((xs.take h).drop l) c') (.slice (some ⟨b,off+l*s,none⟩) (h - l) n'):=by
 have hlen:((xs.take h).drop l).length=h - l:=by simp;omega
 have hget:∀i (hi:i<((xs.take h).drop l).length),((xs.take h).drop l)[i]=xs[l+i]'(by rw[hlen]at hi;omega):=fun i hi=>by simp
 have:=bf.eP (ρ:=ρ) ((xs.take h).drop l) c' b (off+l*s) n' s (fun i j=>f (l+i) j) (fun i hi=>by rw[hget i hi];exact hs _ _)
  (fun i j hi hj=>by rw[hlen]at hi;have:=hc (l+i) j (by omega) hj;rwa [ajP,<-akj]at this)
  (fun i hi j hj=>by
   have hj':j<(xs[l+i]'(by rw[hlen]at hi;omega)).cells.length:=by rw[<-hget i hi];exact hj
   have:=hv (l+i) (by rw[hlen]at hi;omega) j hj'
   simp only[hget i hi];exact this)
  (by rw[hlen];exact hn) (by rw[hlen];exact hcap)
 rwa [hlen]at this
theorem bf.mJ{c:Cap}(b off:Nat)(hm:∀k m,c= .pat k m->m=0):bf ρ (.eP [] c) (.slice (some ⟨b,off,none⟩) 0 0):=
 bf.eP [] c b off 0 0 (fun _ _=>Go.undef) (fun i hi=>by simp at hi) (fun i j hi=>by simp at hi) (fun i hi=>by simp at hi) (by simp) (by
  cases c with
  |lit=>rfl
  |full=>rfl
  |own g e=>exact .inl rfl
  |unk=>trivial
  |pat k m=>
   have:=hm k m rfl
   subst this
   exact⟨rfl,.inl rfl,fun i j hi=>by omega⟩)
theorem bf.oz{xs:List AV}{b off n s k m h:Nat}{f:Nat->Nat->Value}(hs:∀i (hi:i<xs.length),xs[i].cells.length=s)
  (hc:∀i j,i<xs.length->j<s->ρ.fQ b (off+i*s+j)=some (f i j)) (hv:∀i (hi:i<xs.length) j (hj:j<xs[i].cells.length),bf ρ xs[i].cells[j] (f i j))
  (hcap:jF ρ (.pat k m) b (off+xs.length*s) s xs.length n) (h1:xs.length<h) (h2:h<=xs.length+m) :
  bf ρ (.eP (xs++QA k xs.length (h - xs.length)) (.pat k (xs.length+m - h))) (.slice (some ⟨b,off,none⟩) h n):=by
 obtain⟨rfl,c2,c3⟩:=hcap
 have hsk:Li k=s:=c2.resolve_left (by omega)
 subst hsk
 have hlen:(xs++QA k xs.length (h - xs.length)).length=h:=by rw[aaO,WR];omega
 have hget:∀i (hi:i<(xs++QA k xs.length (h - xs.length)).length) ,(∃hx:i<xs.length,(xs++QA k xs.length (h - xs.length))[i]=xs[i])\/(xs.length<=i/\(xs++QA k xs.length (h - xs.length))[i]=PX k i):=fun i hi=>by
  by_cases hx:i<xs.length
  ·exact .inl ⟨hx,by rw[akG hx]⟩
  ·refine .inr ⟨by omega,?_⟩
   rw[List.getElem_append_right (by omega),acE]
   congr 1;omega
 have key:=bf.eP (ρ:=ρ) (xs++QA k xs.length (h - xs.length)) (.pat k (xs.length+m - h)) b off (xs.length+m) (Li k) (fun i j=>if i<xs.length then f i j else ae3 ((PX k i).cells.getD j Ak))
  (fun i hi=>by
   rcases hget i hi with⟨hx,e⟩|⟨hx,e⟩
   ·rw[e];exact hs i hx
   ·rw[e];exact Rp k i)
  (fun i j hi hj=>by
   rw[hlen]at hi
   by_cases hx:i<xs.length
   ·simp only[if_pos hx];exact hc i j hx hj
   ·simp only[if_neg hx]
    have:=c3 (i - xs.length) j (by omega) hj
    rw[show off+xs.length*Li k+(i - xs.length)*Li k=off+i*Li k by rw[akj,<-ajP];congr 2;omega,show xs.length+(i - xs.length)=i by omega]at this
    exact this)
  (fun i hi j hj=>by
   rcases hget i hi with⟨hx,e⟩|⟨hx,e⟩
   ·simp only[if_pos hx,e]
    exact hv i hx j (by rw[<-e];exact hj)
   ·simp only[if_neg (show ¬i<xs.length by omega),e]
    have hj':j<(PX k i).cells.length:=by rw[<-e];exact hj
    have:=abO ρ k i j hj'
    rw[show(PX k i).cells.getD j Ak=(PX k i).cells[j]by simp[List.getD,hj']];exact this)
  (by rw[hlen];omega)
  (by
   rw[hlen]
   refine⟨by omega,.inr rfl,fun i j hi hj=>?_⟩
   have:=c3 (h - xs.length+i) j (by omega) hj
   rw[show off+xs.length*Li k+(h - xs.length+i)*Li k=off+h*Li k+i*Li k by rw[akj,akj,<-ajP,<-ajP];congr 2;omega,show xs.length+(h - xs.length+i)=h+i by omega]at this
   exact this)
 rwa [hlen]at key
theorem YL{t:TypeId}{x v:AV}{cx:Value}{lo hi mx:Option AV}{qo sD mI:Option Value}(hx:bf ρ x cx)(h1:KS ρ lo qo)(h2:KS ρ hi sD)
  (h3:KS ρ mx mI) (he:EU P t x lo hi mx=some v) (w:World):∃cv,(Instr.sliceAt t cx qo sD mI).run P w= .ok cv w/\bf ρ v cv:=by
 unfold EU at he
 split at he
 ·
  rename_i n elem r off hu
  cases hx with|ptr _ _ b hb=>
  split at he
  ·rename_i l h m s hbd hs
   simp only[aac]at he;subst he
   obtain⟨hr,h4,h5,h6,h7⟩:=DY (P:=P) hbd h1 h2 h3 (ab5 n) (ab5 n) false w
   have em:(if mx.isSome=true then m else n)=m:=by cases mx with|none=>simp[h7 rfl]|some _=>rfl
   rw[em]at hr
   refine⟨.slice (some ⟨b,if m=l then off else off+l*s,none⟩) (h - l) (m - l),?_,.hsl _ _ _ _ b _ hb (by omega) rfl⟩
   simp only[Instr.sliceAt,Sem.run_bind,run_underlying hu,Result.andThen_ok,Instr.sureAddr,Sem.run_pure,hr,AZ hs]
   split<;>simp[Addr.add_lit]
  ·cases he
 ·
  rename_i s hu
  cases hx
  split at he
  ·cases he
  ·rename_i mx'
   split at he
   ·rename_i l h m hbd
    simp only[aac]at he;subst he
    cases mI with
    |some _=>exact h3.elim
    |none=>
    obtain⟨hr,h4,h5,h6,h7⟩:=DY (P:=P) (mx:=none) (mI:=none) hbd h1 h2 trivial (ab5 _) (ab5 _) false w
    refine⟨.string ((⟨⟨s⟩⟩:ByteArray).extract l h),?_,?_⟩
    ·simp only[akU,ajB,if_false]at hr
     simp only[Instr.sliceAt,Instr.slice,Sem.run_bind,run_underlying hu,Result.andThen_ok,show(⟨⟨s⟩⟩:ByteArray).size=s.length from rfl]
     simp[hr]
    ·have:(⟨⟨s⟩⟩:ByteArray).extract l h=⟨⟨(s.take h).drop l⟩⟩:=by
      apply ByteArray.ext
      rw[ByteArray.data_extract]
      apply akP
      simp[List.extract_eq_take_drop,List.drop_take]
     rw[this];exact .str _
   ·cases he
 ·
  rename_i elem hu
  cases hx
  split at he
  ·rename_i y n hbd hs
   obtain⟨l,h,m⟩:=y
   simp only[aac]at he;subst he
   obtain⟨hr,h4,h5,h6,h7⟩:=DY (P:=P) hbd h1 h2 h3 (ab5 0) (ab5 0) true w
   have em:(if mx.isSome=true then m else 0)=0:=by split<;>omega
   rw[em]at hr
   have el:l=0:=by omega
   have eh:h=0:=by omega
   subst el;subst eh
   exact⟨.slice none 0 0,by simp[Instr.sliceAt,Instr.slice,run_underlying hu,hr,AZ hs],.aj⟩
  ·cases he
 ·
  rename_i elem xs c hu
  cases hx with|eP _ _ b off n s f hss hc hv hn hcap=>
  split at he
  ·rename_i l h m s' hbd hs
   split at he
   ·cases he
   ·rename_i hh
    obtain⟨hr,h4,h5,h6,h7⟩:=DY (P:=P) hbd h1 h2 h3 hn (ab5 _) true w
    have hrun:(Instr.sliceAt t (.slice (some ⟨b,off,none⟩) xs.length n) qo sD mI).run P w =
      .ok (.slice (if(if mx.isSome=true then m else n)=l then some ⟨b,off,none⟩else some ⟨b,off+l*s',none⟩) (h - l) ((if mx.isSome=true then m else n) - l)) w:=by
     simp[Instr.sliceAt,Instr.slice,run_underlying hu,hr,AZ hs,Addr.add_lit]
    generalize hM:(if mx.isSome=true then m else n)=M at hrun
    have hMh:h<=M:=by rw[<-hM];split<;>omega
    have aio:l≠0->xs=[]\/s=s':=fun hl=>G8 (by simpa[hl]using hh) hss
    have fin:∀c',(jF ρ c' b (off+l*s+(h - l)*s) s (h - l) (M - l))->∃cv,(Instr.sliceAt t (.slice (some ⟨b,off,none⟩) xs.length n) qo sD mI).run P w= .ok cv w/\bf ρ (.eP ((xs.take h).drop l) c') cv:=by
     intro c' hck
     by_cases hml:M=l
     ·have vL:h=l:=by omega
      subst vL
      refine⟨_,hrun,?_⟩
      rw[if_pos hml,hml,ak8]
      have e:(xs.take h).drop h=[]:=by simp
      rw[e];refine bf.mJ b off fun k m e=>?_
      subst e
      have:=hck.1
      omega
     ·rw[if_neg hml]at hrun
      refine⟨_,hrun,?_⟩
      have:=bf.piece hss hc hv l h h4 (by omega) c' (M - l) (by omega) hck
      by_cases hl0:l=0
      ·subst hl0;simpa using this
      ·rcases aio hl0 with rfl|rfl
       ·simp only[aj9]at h6;omega
       ·exact this
    cases mx with
    |some mv=>
     simp only[Option.isSome_some,if_true]at hM
     simp only[aac]at he;subst he
     refine fin _ ?_
     split
     ·show M - l=h - l;omega
     ·trivial
    |none=>
     simp only[akU,ajB,if_false]at hM
     subst hM
     cases c with
     |lit=>
      simp only[aac]at he;subst he
      refine fin _ ?_
      have:n=xs.length:=hcap
      split
      ·show n - l=h - l;omega
      ·trivial
     |full=>
      simp only[aac]at he;subst he
      refine fin _ ?_
      have:n=xs.length:=hcap
      split
      ·show n - l=h - l;omega
      ·trivial
     |own g e=>
      simp only[aac]at he;subst he
      refine fin _ ?_
      split
      ·rename_i hhx
       rcases hcap with hq|hq
       ·left;omega
       ·right
        have:off+l*s+(h - l)*s=off+xs.length*s:=by
         rw[akj,<-ajP,hhx];congr 2;omega
        rw[this,show n - l - (h - l)=n - xs.length by omega];exact hq
      ·trivial
     |unk=>
      simp only[aac]at he;subst he
      exact fin _ trivial
     |pat k m=>
      simp only[aac]at he;subst he
      exact fin _ trivial
  ·
   unfold Uq at he
   split at he
   ·rename_i k m ki i _
    split at he
    ·rename_i h hb
     split at he
     ·rename_i hif
      simp only[aac]at he;subst he
      obtain⟨p1,p2,p3⟩:=hif
      cases qo with
      |some _=>exact h1.elim
      |none=>
      cases mI with
      |some _=>exact h3.elim
      |none=>
      have hbd:DX xs.length (xs.length+m) none (some (.int ki i)) none=some (0,h,xs.length+m):=by
       simp only[DX,Cq,Option.isNone_some,aj6,ajB,if_false,ajE,hb]
      have hcn:n=xs.length+m:=hcap.1
      obtain⟨hr,h4,h5,h6,h7⟩:=DY (P:=P) (ρ:=ρ) (mx:=none) (mI:=none) (lo:=none) (qo:=none) hbd trivial h2 trivial (show xs.length+m<=n by omega) (by omega) true w
      simp only[akU,ajB,if_false]at hr
      refine⟨.slice (some ⟨b,off,none⟩) h n,?_,bf.oz hss hc hv hcap p1 (by omega)⟩
      simp[Instr.sliceAt,Instr.slice,run_underlying hu,hr,AZ p2,Addr.add_lit]
     ·cases he
    ·cases he
   ·cases he
 ·
  rename_i elem r off len cap hu
  cases hx with|hsl _ _ _ _ b n hb hn hcap=>
  obtain rfl:n=cap:=hcap
  split at he
  ·rename_i l h m s hbd hs
   simp only[aac]at he;subst he
   obtain⟨hr,h4,h5,h6,h7⟩:=DY (P:=P) hbd h1 h2 h3 (ab5 _) hn true w
   have em:(if mx.isSome=true then m else n)=m:=by cases mx with|none=>simp[h7 rfl]|some _=>rfl
   rw[em]at hr
   refine⟨.slice (some ⟨b,if m=l then off else off+l*s,none⟩) (h - l) (m - l),?_,.hsl _ _ _ _ b _ hb (by omega) rfl⟩
   simp only[Instr.sliceAt,Instr.slice,Sem.run_bind,run_underlying hu,Result.andThen_ok,hr,AZ hs]
   split<;>simp[Addr.add_lit]
  ·cases he
 ·
  rename_i elem r off len hc hnk hu
  cases hx with|hsl _ _ _ _ b n hb hn hcap=>
  split at he
  ·rename_i mv
   split at he
   ·rename_i l h m s hbd hs
    simp only[aac]at he;subst he
    obtain⟨hr,h4,h5,h6,h7⟩:=DY (P:=P) hbd h1 h2 h3 hn (ab5 _) true w
    simp only[Option.isSome_some,if_true]at hr
    refine⟨.slice (some ⟨b,if m=l then off else off+l*s,none⟩) (h - l) (m - l),?_,.hsl _ _ _ _ b _ hb (by omega) rfl⟩
    simp only[Instr.sliceAt,Instr.slice,Sem.run_bind,run_underlying hu,Result.andThen_ok,hr,AZ hs]
    split<;>simp[Addr.add_lit]
   ·cases he
  ·split at he
   ·rename_i l h m s hbd hs
    split at he
    ·rename_i hl
     simp only[aac]at he;subst he
     cases mI with
     |some _=>exact h3.elim
     |none=>
     obtain⟨hr,h4,h5,h6,h7⟩:=DY (P:=P) (mx:=none) (mI:=none) hbd h1 h2 trivial hn (ab5 _) true w
     simp only[akU,ajB,if_false]at hr
     refine⟨.slice (some ⟨b,off+l*s,none⟩) (h - l) (n - l),?_,.hsl _ _ _ _ b _ hb (by omega) (by
      split
      ·rename_i e;subst e
       obtain⟨z,hz1,hz2⟩:=hcap
       refine⟨z,hz1,?_⟩
       have:l*s+(n - l)*s=n*s:=by rw[<-ajP];congr 1;omega
       omega
      ·trivial)⟩
     simp only[Instr.sliceAt,Instr.slice,Sem.run_bind,run_underlying hu,Result.andThen_ok,hr,AZ hs]
     split
     ·have:l=0:=by omega
      subst this;simp
     ·simp[Addr.add_lit]
    ·rename_i hl
     simp only[aac]at he;subst he
     cases mI with
     |some _=>exact h3.elim
     |none=>
     obtain⟨hr,h4,h5,h6,h7⟩:=DY (P:=P) (mx:=none) (mI:=none) hbd h1 h2 trivial hn (ab5 _) true w
     simp only[akU,ajB,if_false]at hr
     have h0:h - l=0:=by
      have:¬l<len:=fun e=>hl (.inr e)
      omega
     have hv:∀o,bf ρ (.eP [] .unk) (.slice (some ⟨b,o,none⟩) 0 (n - l)):=fun o=>
      .eP [] .unk b o (n - l) 0 (fun _ _=>Go.undef) (fun i hi=>by simp at hi) (fun i j hi=>by simp at hi) (fun i hi=>by simp at hi) (by simp) trivial
     refine⟨.slice (some ⟨b,if n=l then off else off+l*s,none⟩) 0 (n - l),?_,hv _⟩
     simp only[Instr.sliceAt,Instr.slice,Sem.run_bind,run_underlying hu,Result.andThen_ok,hr,AZ hs]
     split<;>simp[Addr.add_lit,h0]
   ·cases he
 ·cases he
end Go.Sk
namespace Go.Sk
variable{P:Program}{ρ:eF}{h:AH}{w:World}
theorem aaQ:flat []=[]:=rfl
theorem DU(x:AV)(xs:List AV):flat (x::xs)=x.cells++flat xs:=rfl
theorem Jg(xs ys:List AV):flat (xs++ys)=flat xs++flat ys:=by simp[flat]
theorem Bf{n:Nat}:∀{xs:List AV},(∀i (hi:i<xs.length),xs[i].cells.length=n)->(flat xs).length=xs.length*n
 |[],_=>by simp[flat]
 |x::xs,h=>by
  have h0:=h 0 (by simp)
  simp only[ajJ]at h0
  rw[DU,aaO,Bf (xs:=xs) (fun i hi=>by have:=h (i+1) (by simpa using hi);simpa using this),h0,adP,ajP,ala,Nat.add_comm]
theorem dz.ko{n:Nat}:∀{xs:List AV} (c:Nat->Nat->Value),(∀i (hi:i<xs.length),xs[i].cells.length=n)->
  (∀i (hi:i<xs.length) j (hj:j<xs[i].cells.length),bf ρ xs[i].cells[j] (c i j))->dz ρ (flat xs) ((List.range xs.length).flatMap fun i=>(List.range n).map (c i))
 |[],c,_,_=>by simpa[flat]using dz.nil ρ
 |x::xs,c,hn,hv=>by
  have h0:=hn 0 (by simp)
  simp only[ajJ]at h0
  rw[DU,adP,List.range_succ_eq_map,akc,List.flatMap_map]
  refine dz.append ?_ (dz.ko (fun i j=>c (i+1) j) (fun i hi=>by have:=hn (i+1) (by simpa using hi);simpa using this) (fun i hi j hj=>by
   have:=hv (i+1) (by simpa using hi) j (by simpa using hj);simpa using this))
  have:=dz.ow (ρ:=ρ) (l:=x.cells) (c:=c 0) (fun j hj=>by have:=hv 0 (by simp) j (by simpa using hj);simpa using this)
  rwa [h0]at this
theorem Jo{α:Type}(f:Nat->Nat->α)(s:Nat):∀(n k:Nat),k<n*s->((List.range n).flatMap fun i=>(List.range s).map (f i))[k]?=some (f (k / s) (k % s)):=by
 intro n
 induction n with
 |zero=>intro k hk;omega
 |succ n ih=>
  intro k hk
  rw[akR,List.flatMap_append]
  have hl:((List.range n).flatMap fun i=>(List.range s).map (f i)).length=n*s:=by
   simp[List.length_flatMap,akS]
  by_cases hkn:k<n*s
  ·rw[ajt (by rw[hl];exact hkn)];exact ih k hkn
  ·rw[adI (by rw[hl];omega),hl]
   have hs:0<s:=by
    rcases ak5 s with rfl|h
    ·simp at hk
    ·exact h
   have hks:k - n*s<s:=by rw[ajP,ala]at hk;omega
   have hd:k / s=n:=by
    exact Nat.div_eq_of_lt_le (show n*s<=k by omega) (show k<(n+1)*s from hk)
   have hm:k % s=k - n*s:=by
    have:=Nat.div_add_mod k s
    rw[hd,alc]at this;omega
   simp[hd,hm,hks]
theorem Qg(cs:List AV)(off n:Nat):∀len,off+len*n<=cs.length->flat ((List.range len).map fun i=>AV.agg ((cs.drop (off+i*n)).take n))=(cs.drop off).take (len*n)
 |0,_=>by simp[flat]
 |len+1,hl=>by
  rw[ajP,ala]at hl
  rw[akR,ajx,Jg,Qg cs off n len (by omega),ajP,ala,List.take_add]
  congr 1
  simp only[ajr,aky,DU,aaQ,ajM,List.drop_drop]
  rfl
theorem bf.lJ{v:AV}{c:Value}(hv:bf ρ v c)(h1:c.oneCell'=true):v.cells=[v]:=by
 cases hv<;>first|rfl|(simp[Value.oneCell']at h1)
theorem Qt:∀{l:List AV} {c:List Value},dz ρ l c->(∀v∈c,v.oneCell'=true)->flat l=l/\∀i (hi:i<l.length),l[i].cells.length=1
 |[],_,_,_=>⟨rfl,fun i hi=>by simp at hi⟩
 |_::_,[],h,_=>by have:=h.1;simp at this
 |v::l,c::cl,h,h1=>by
  have e:=bf.lJ h.head (h1 c (by simp))
  obtain⟨a,b⟩:=Qt h.tail (fun x hx=>h1 x (by simp[hx]))
  refine⟨by rw[DU,e,a];rfl,fun i hi=>?_⟩
  cases i with
  |zero=>simp[e]
  |succ i=>simpa using b i (by simpa using hi)
theorem Ii(hR:Rel ρ h w){elem:TypeId}{x:AV}{cx:Value}{ys:List AV}{n:Nat}(he:Df P elem x h=some ys)(hx:bf ρ x cx)(hn:sizeT P elem=some n)(h0:n≠0)
  (hh:Bj n ys=true):(Builtin.lenOf cx).run P w= .ok ys.length w/\(∀i (hi:i<ys.length),ys[i].cells.length=n)/\
   ∃eG:List Value,dz ρ (flat ys) eG/\(∀v∈eG,v.oneCell'=true)/\∀m,m<=ys.length->∀w1:World,w1.heap=w.heap->(Builtin.firstCells n m cx).run P w1= .ok (eG.take (m*n)).toArray w1:=by
 unfold Df at he
 split at he
 ·
  simp only[aac]at he;subst he
  cases hx
  exact⟨rfl,fun i hi=>by simp at hi,[],dz.nil ρ,by simp,fun m hm w1 _=>by
   have:m=0:=by simpa using hm
   subst this;simp[Builtin.firstCells]⟩
 ·
  rename_i xs c
  simp only[aac]at he;subst he
  cases hx with|eP _ _ b off cap s f hs hc hv hcn hcap=>
  have hsz:∀i (hi:i<xs.length),xs[i].cells.length=n:=fun i hi=>by
   rcases G8 hh hs with rfl|rfl
   ·simp at hi
   ·exact hs i hi
  have hns:xs=[]\/s=n:=G8 hh hs
  refine⟨rfl,hsz,(List.range xs.length).flatMap fun i=>(List.range n).map (f i),dz.ko f hsz hv,?_,?_⟩
  ·intro v hm
   simp only[List.mem_flatMap,ajD,ajy]at hm
   obtain⟨i,hi,j,hj,rfl⟩:=hm
   rcases hns with rfl|rfl
   ·simp at hi
   ·exact hR.one _ _ _ (hc i j hi hj)
  ·intro m hm w1 hw1
   have hl:((List.range xs.length).flatMap fun i=>(List.range n).map (f i)).length=xs.length*n:=by simp[List.length_flatMap,akS]
   have hmn:m*n<=xs.length*n:=ajQ _ hm
   refine run_firstCells_some (P:=P) w1 n m ⟨b,off,none⟩ xs.length cap _ (by rw[aju,hl];omega) (fun k v hk=>?_)
   rw[ak4]at hk
   split at hk
   ·rename_i hlt
    rw[Jo f n xs.length k (by omega)]at hk
    simp only[aac]at hk;subst hk
    rw[Addr.add_lit]
    rcases hns with rfl|rfl
    ·simp at hm;subst hm;omega
    ·have hks:k / s<xs.length:=Nat.div_lt_of_lt_mul (by rw[alc];omega)
     have:=(hR.drew hw1).fQ _ _ _ (hc (k / s) (k % s) hks (Nat.mod_lt _ (by omega)))
     rwa [akj,show k / s*s+k % s=k by rw[alc];exact Nat.div_add_mod k s]at this
   ·cases hk
 ·
  rename_i r off len cap
  cases hx with|hsl _ _ _ _ b nn hb hln hcap=>
  split at he
  ·rename_i cs T n' hg ha hs
   rw[hn]at hs;simp only[aac]at hs;subst hs
   split at he
   ·rename_i hle
    simp only[aac]at he;subst he
    obtain⟨eG,fr,hbl,hl,ho,_⟩:=hR.obj r _ b hg hb
    have hf:flat ((List.range len).map fun i=>AV.agg ((cs.drop (off+i*n)).take n))=(cs.drop off).take (len*n):=Qg cs off n len hle
    have hsz:∀i (hi:i<((List.range len).map fun i=>AV.agg ((cs.drop (off+i*n)).take n)).length),((List.range len).map fun i=>AV.agg ((cs.drop (off+i*n)).take n))[i].cells.length=n:=by
     intro i hi
     simp only[aah,akA]at hi
     have:(i+1)*n<=len*n:=ajQ _ hi
     rw[ajP,ala]at this
     simp only[aj4,List.getElem_range]
     show((cs.drop (off+i*n)).take n).length=n
     simp only[aju,aj0];omega
    refine⟨by simp[Builtin.lenOf],hsz,(eG.drop off).take (len*n),by rw[hf];exact hl.piece off _ hle,fun v hv=>ho v (List.mem_of_mem_drop (akd hv)),fun m hm w1 hw1=>?_⟩
    simp only[aah,akA]at hm
    have hmn:m*n<=len*n:=ajQ _ hm
    have:=Ef (P:=P) (off:=off) (w:=w1) (n:=m*n) (by rw[hw1];exact hbl) (by have:=hl.1;omega)
    rw[List.take_take,Nat.min_eq_left hmn]
    simpa[Builtin.firstCells]using this
   ·cases he
  ·rename_i cs T hg ha hs
   rw[hn]at hs;simp only[aac]at hs;subst hs
   split at he
   ·rename_i hle
    simp only[aac]at he;subst he
    obtain⟨eG,fr,hbl,hl,ho,_⟩:=hR.obj r _ b hg hb
    have hlt:dz ρ ((cs.drop off).take len) ((eG.drop off).take len):=hl.piece off _ hle
    have ho':∀v∈(eG.drop off).take len,v.oneCell'=true:=fun v hv=>ho v (List.mem_of_mem_drop (akd hv))
    obtain⟨e1,e2⟩:=Qt hlt ho'
    have el:((cs.drop off).take len).length=len:=by simp;omega
    refine⟨by rw[el];simp[Builtin.lenOf],e2,(eG.drop off).take len,by rw[e1];exact hlt,ho',fun m hm w1 hw1=>?_⟩
    rw[el]at hm
    have:=Ef (P:=P) (off:=off) (w:=w1) (n:=m*1) (by rw[hw1];exact hbl) (by have:=hl.1;omega)
    rw[List.take_take,Nat.min_eq_left (by omega)]
    simpa[Builtin.firstCells]using this
   ·cases he
  ·cases he
 ·
  rename_i l
  simp only[aac]at he;subst he
  cases hx
  have hf:∀l:List UInt8,flat (l.map fun b=>AV.int .u8 b.toNat)=l.map fun b=>AV.int .u8 b.toNat:=by
   intro l
   induction l with
   |nil=>rfl
   |cons a l ih=>simp only[ajr,DU,ih];rfl
  have hn1:l=[]\/n=1:=by
   cases l with
   |nil=>exact .inl rfl
   |cons a l=>right;simp only[ajr,Bj,AV.cells,aj2,beq_iff_eq]at hh;omega
  refine⟨by simp[Builtin.lenOf];rfl,?_,l.map fun b=>Value.int .u8 b.toNat,?_,?_,?_⟩
  ·intro i hi
   simp only[aah]at hi
   rcases hn1 with rfl|rfl
   ·simp at hi
   ·simp only[aj4,AV.cells,aj2]
  ·rw[hf];exact⟨by simp,fun i hi hj=>by simp only[aj4];exact .int _ _⟩
  ·intro v hv;simp only[ajy]at hv;obtain⟨a,_,rfl⟩:=hv;rfl
  ·intro m hm w1 _
   simp only[aah]at hm
   have e:((⟨⟨l⟩⟩:ByteArray).extract 0 m).data.map (fun b=>Value.int .u8 b.toNat)=((l.map fun b=>Value.int .u8 b.toNat).take (m*n)).toArray:=by
    rw[ByteArray.data_extract]
    apply akP
    rcases hn1 with rfl|rfl
    ·simp
    ·simp[List.extract_eq_take_drop,List.map_take]
   simp only[Builtin.firstCells,Sem.run_pure,e]
 ·cases he
theorem NG(hR:Rel ρ h w){elem:TypeId}{x:AV}{cx:Value}{ys:List AV}{n:Nat}(he:Df P elem x h=some ys)(hx:bf ρ x cx)(hn:sizeT P elem=some n)(h0:n≠0)
  (hh:Bj n ys=true):(Builtin.lenOf cx).run P w= .ok ys.length w/\(∀i (hi:i<ys.length),ys[i].cells.length=n)/\
   ∃eG:List Value,dz ρ (flat ys) eG/\(∀v∈eG,v.oneCell'=true)/\∀m,m<=ys.length->(Builtin.firstCells n m cx).run P w= .ok (eG.take (m*n)).toArray w:=
 let⟨a,b,eG,c,d,e⟩:=Ii hR he hx hn h0 hh
 ⟨a,b,eG,c,d,fun m hm=>e m hm w rfl⟩
end Go.Sk
namespace Go.Sk
variable{P:Program}{ρ:eF}{h:AH}{w:World}
theorem Dy{b:Nat}{o:Obj}(hb:w.heap[b]?=some o)(ho:∀c t f,o≠ .cells c t f):(getObj b).run P w= .ok o w:=by
 cases o<;>first|exact absurd rfl (ho _ _ _)|simp[getObj,Sem.run,hb]
theorem acF(hR:Rel ρ h w){t:TypeId}{x v:AV}{cx:Value}{ts:Array TypeId}{ty:TypeId}(ht:ts[0]?=some t)(he:uO P t x h=some v)(hx:bf ρ x cx) :
  ∃cv,(Builtin.len_ ts ty #[cx]).run P w= .ok cv w/\bf ρ v cv:=by
 unfold uO at he
 split at he
 all_goals first
  |(cases he;done)
  |skip
 ·rename_i l hu
  simp only[aac]at he;subst he;cases hx
  exact⟨_,by simp[Builtin.len_,ht,run_underlying hu];rfl,.int _ _⟩
 ·rename_i y n e hu
  simp only[aac]at he;subst he
  exact⟨.int .i64 n,by simp[Builtin.len_,ht,run_underlying hu,goInt],.int _ _⟩
 ·rename_i e hu
  simp only[aac]at he;subst he;cases hx
  exact⟨.int .i64 0,by simp[Builtin.len_,ht,run_underlying hu,goInt],.int _ _⟩
 ·rename_i e xs c hu
  simp only[aac]at he;subst he
  cases hx
  exact⟨.int .i64 xs.length,by simp[Builtin.len_,ht,run_underlying hu,goInt],.int _ _⟩
 ·rename_i e r off n c hu
  simp only[aac]at he;subst he;cases hx
  exact⟨.int .i64 n,by simp[Builtin.len_,ht,run_underlying hu,goInt],.int _ _⟩
 ·rename_i k e hu
  simp only[aac]at he;subst he;cases hx
  exact⟨.int .i64 0,by simp[Builtin.len_,ht,run_underlying hu,goInt],.int _ _⟩
 ·rename_i k e r hu
  cases hx with|map _ b hb=>
  split at he
  ·rename_i es clock hg
   simp only[aac]at he;subst he
   obtain⟨fZ,hbl,hn,_⟩:=hR.obj r _ b hg hb
   exact⟨.int .i64 es.length,by simp[Builtin.len_,ht,run_underlying hu,goInt,Dy hbl (fun _ _ _ e=>by cases e),hn],.int _ _⟩
  ·cases he
theorem aci{t:TypeId}{x v:AV}{cx:Value}{ts:Array TypeId}{ty:TypeId}(ht:ts[0]?=some t)(he:aes P t x=some v)(hx:bf ρ x cx) :
  ∃cv,(Builtin.cap_ ts ty #[cx]).run P w= .ok cv w/\bf ρ v cv:=by
 unfold aes at he
 split at he
 all_goals first
  |(cases he;done)
  |skip
 ·rename_i e hu
  simp only[aac]at he;subst he;cases hx
  exact⟨.int .i64 0,by simp[Builtin.cap_,ht,run_underlying hu,goInt],.int _ _⟩
 ·rename_i e xs hu
  simp only[aac]at he;subst he
  cases hx with|eP _ _ b off n s f hs hc hv hn hcap=>
  obtain rfl:n=xs.length:=hcap
  exact⟨.int .i64 xs.length,by simp[Builtin.cap_,ht,run_underlying hu,goInt],.int _ _⟩
 ·rename_i e xs hu
  simp only[aac]at he;subst he
  cases hx with|eP _ _ b off n s f hs hc hv hn hcap=>
  obtain rfl:n=xs.length:=hcap
  exact⟨.int .i64 xs.length,by simp[Builtin.cap_,ht,run_underlying hu,goInt],.int _ _⟩
 ·rename_i e r off n c hu
  simp only[aac]at he;subst he
  cases hx with|hsl _ _ _ _ b n hb hln hcap=>
  obtain rfl:n=c:=hcap
  exact⟨.int .i64 n,by simp[Builtin.cap_,ht,run_underlying hu,goInt],.int _ _⟩
theorem Xd(hR:Rel ρ h w){t:TypeId}{m k v:AV}{cm ck:Value}{ok:Bool}(he:D9 P t m k ok h=some v)(hm:bf ρ m cm)(hk:bf ρ k ck) :
  ∃cv,(Instr.lookup t cm ck ok).run P w= .ok cv w/\bf ρ v cv:=by
 unfold D9 at he
 split at he
 ·rename_i kt et hu
  split at he
  ·rename_i es hes
   have hent:∃fZ:List MapEntry,gq ρ es fZ/\((cm= .map none/\fZ=[])\/∃b clock,cm= .map (some b)/\(getObj b).run P w= .ok (.map fZ.toArray clock) w):=by
    unfold KX at hes
    cases m<;>simp only at hes<;>try (cases hes;done)
    ·simp only[aac]at hes;subst hes;cases hm
     exact⟨[],⟨rfl,fun i hi=>by simp at hi⟩,.inl ⟨rfl,rfl⟩⟩
    ·rename_i r
     cases hm with|map _ b hb=>
     split at hes
     ·rename_i es' clock hg
      simp only[aac]at hes;subst hes
      obtain⟨fZ,hbl,hn,hr⟩:=hR.obj r _ b hg hb
      exact⟨fZ,⟨hn,hr⟩,.inr ⟨b,clock,rfl,Dy hbl (fun _ _ _ e=>by cases e)⟩⟩
     ·cases hes
   obtain⟨fZ,hrel,hrun⟩:=hent
   cases hf:EY P kt k es with
   |none=>rw[hf]at he;cases he
   |some r=>
    rw[hf]at he
    obtain⟨hck,hfound,q,hq,kV⟩:=run_findKey hk hrel hf w
    have fin:∀(cv:Value) (b:Bool) (v0:AV),bf ρ v0 cv->v=(if ok=true then .eU [v0,.bool b]else v0)->
      bf ρ v (if ok=true then .tuple #[cv,.bool b]else cv):=by
     rintro cv b v0 hv0 rfl
     cases ok with
     |false=>exact hv0
     |true=>exact bf.gV (.cons hv0 (.cons (.bool b) (.nil ρ)))
    cases r with
    |none=>
     cases q with
     |some _=>exact kV.elim
     |none=>
      simp only[ajS]at he
      obtain⟨z,hz,rfl⟩:=he
      obtain⟨cz,hcz,kU⟩:=Fh (ρ:=ρ) hz w
      refine⟨_,?_,fin cz false z kU rfl⟩
      rcases hrun with⟨rfl,rfl⟩|⟨b,clock,rfl,hg⟩
      ·simp[Instr.lookup,run_underlying hu,hck,hq,hcz]
      ·simp[Instr.lookup,run_underlying hu,hg,hck,hq,hcz]
    |some x=>
     obtain⟨i,v0,b⟩:=x
     cases q with
     |none=>exact kV.elim
     |some y=>
      obtain⟨j,cv⟩:=y
      obtain⟨rfl,hcv⟩:=kV
      obtain⟨_,k',hek,_⟩:=hfound
      simp only[aac]at he
      obtain⟨hlt,hee⟩:=aao.1 hek
      obtain⟨c,hc,rfl⟩:=ajS.1 hcv
      obtain⟨hlt2,hcc⟩:=aao.1 hc
      have hve:=(hrel.2 _ hlt hlt2).2.1
      rw[hee,hcc]at hve
      refine⟨_,?_,fin c.val true v0 hve he.symm⟩
      rcases hrun with⟨rfl,rfl⟩|⟨b,clock,rfl,hg⟩
      ·simp[Instr.lookup,run_underlying hu,hck,hq]
      ·simp[Instr.lookup,run_underlying hu,hg,hck,hq]
  ·cases he
 ·cases he
theorem Nz{f:AV->AV->Option AV}{g:Value->Value->Sem Value}(hfg:∀a b c ca cb,f a b=some c->bf ρ a ca->bf ρ b cb->∃cc,(g ca cb).run P w= .ok cc w/\bf ρ c cc) :
  ∀(l:List AV) (cl:List Value) (x v:AV) (cx:Value),Ui f x l=some v->bf ρ x cx->dz ρ l cl->∃cv,(cl.foldlM g cx).run P w= .ok cv w/\bf ρ v cv
 |[],[],x,v,cx,h,hx,_=>by simp only[Ui,aac]at h;subst h;exact⟨cx,rfl,hx⟩
 |[],_::_,_,_,_,_,_,h=>by have:=h.1;simp at this
 |_::_,[],_,_,_,_,_,h=>by have:=h.1;simp at this
 |y::l,cy::cl,x,v,cx,h,hx,hl=>by
  unfold Ui at h
  split at h
  ·rename_i z hz
   obtain⟨cz,h1,h2⟩:=hfg _ _ _ _ _ hz hx hl.head
   obtain⟨cv,h3,h4⟩:=Nz hfg l cl z v cz h h2 hl.tail
   exact⟨cv,by simp only[List.foldlM_cons,Sem.run_bind,h1,Result.andThen_ok,h3],h4⟩
  ·cases h
theorem aaf(a b c:AV)(ca cb:Value)(h:YV a b=some c)(ha:bf ρ a ca)(hb:bf ρ b cb):∃cc,(Builtin.max2 ca cb).run P w= .ok cc w/\bf ρ c cc:=by
 cases a<;>cases b<;>simp[YV]at h
 subst h;cases ha;cases hb;exact⟨_,rfl,.int _ _⟩
theorem ZE(a b c:AV)(ca cb:Value)(h:YR a b=some c)(ha:bf ρ a ca)(hb:bf ρ b cb):∃cc,(Builtin.min2 ca cb).run P w= .ok cc w/\bf ρ c cc:=by
 cases a<;>cases b<;>simp[YR]at h
 subst h;cases ha;cases hb;exact⟨_,rfl,.int _ _⟩
theorem QC{x v:AV}{cx:Value}{xt asserted:TypeId}{ok:Bool}(he:Ji P x asserted ok=some v)(hx:bf ρ x cx) :
  ∃cv,(Instr.typeAssert cx xt asserted ok).run P w= .ok cv w/\bf ρ v cv:=by
 have fails:∀{u:AV},(if ok then(BL P asserted).map fun z=>AV.eU [z,.bool false]else none)=some u->∃z cz,ok=true/\u= .eU [z,.bool false]/\(zeroValue asserted).run P w= .ok cz w/\bf ρ u (.tuple #[cz,.bool false]):=by
  intro u hu
  split at hu
  ·rename_i hok
   simp only[ajS]at hu
   obtain⟨z,hz,rfl⟩:=hu
   obtain⟨cz,h1,h2⟩:=Fh (ρ:=ρ) hz w
   exact⟨z,cz,hok,rfl,h1,bf.gV (.cons h2 (.cons (.bool false) (.nil ρ)))⟩
  ·cases hu
 have holds:∀{u:AV} {cu:Value},bf ρ u cu->v=(if ok=true then .eU [u,.bool true]else u)->bf ρ v (if ok=true then .tuple #[cu,.bool true]else cu):=by
  rintro u cu hu rfl
  cases ok with
  |false=>exact hu
  |true=>exact bf.gV (.cons hu (.cons (.bool true) (.nil ρ)))
 unfold Ji at he
 split at he
 ·rename_i ms hu
  cases hx
  obtain⟨z,cz,hok,_,h1,h2⟩:=fails he
  exact⟨_,by simp[Instr.typeAssert,run_underlying hu,hok,h1],h2⟩
 ·rename_i want t u hu
  cases hx with|iface _ _ cu hvu=>
  split at he
  ·rename_i i hi
   split at he
   ·rename_i hmm
    simp only[aac]at he
    refine⟨_,?_,holds (bf.iface t u cu hvu) he.symm⟩
    simp[Instr.typeAssert,run_underlying hu,typeInfo,hi,hmm]
   ·rename_i mm hmm
    obtain⟨z,cz,hok,_,h1,h2⟩:=fails he
    exact⟨_,by simp[Instr.typeAssert,run_underlying hu,typeInfo,hi,hmm,hok,h1],h2⟩
  ·cases he
 ·rename_i d hnd hu
  cases hx
  obtain⟨z,cz,hok,_,h1,h2⟩:=fails he
  refine⟨_,?_,h2⟩
  cases d<;>first|exact(hnd _ rfl).elim|simp[Instr.typeAssert,run_underlying hu,hok,h1]
 ·rename_i d t u hnd hu
  cases hx with|iface _ _ cu hvu=>
  split at he
  ·rename_i qp
   simp only[aac]at he
   refine⟨_,?_,holds hvu he.symm⟩
   cases d<;>first|exact(hnd _ rfl).elim|simp[Instr.typeAssert,run_underlying hu,qp]
  ·rename_i qp
   obtain⟨z,cz,hok,_,h1,h2⟩:=fails he
   refine⟨_,?_,h2⟩
   cases d<;>first|exact(hnd _ rfl).elim|simp[Instr.typeAssert,run_underlying hu,qp,hok,h1]
 ·cases he
end Go.Sk
namespace Go.Sk
variable{P:Program}{ρ:eF}{h:AH}{w:World}
def Gd(P:Program)(ρ:eF)(h:AH)(w:World)(s:Sem Value)(v:AV)(h':AH):Prop:=
 ∃cv w' ρ',s.run P w= .ok cv w'/\bf ρ' v cv/\Rel ρ' h' w'/\Stp ρ h w ρ' h' w'
def Gu(P:Program)(ρ:eF)(h:AH)(w:World)(s:Sem Unit)(h':AH):Prop:=
 ∃w' ρ',s.run P w= .ok () w'/\Rel ρ' h' w'/\Stp ρ h w ρ' h' w'
theorem Gd.pure{s:Sem Value}{v:AV}(hR:Rel ρ h w)(hs:∃cv,s.run P w= .ok cv w/\bf ρ v cv):Gd P ρ h w s v h:=
 let⟨cv,h1,h2⟩:=hs;⟨cv,w,ρ,h1,h2,hR,Stp.refl ρ h w⟩
theorem Wrote.set{b:Nat}(hb:b<w.heap.size)(x:Obj):Wrote w { w with heap:=w.heap.setIfInBounds b x } b x where
 os:=rfl
 tape:=rfl
 output:=rfl
 size:=by simp
 here:=by simp[hb]
 block:=fun k hk=>by simp[Ne.symm hk]
theorem Wrote.trans{w1 w2:World}{b:Nat}{x y:Obj}(h1:Wrote w w1 b x)(h2:Wrote w1 w2 b y):Wrote w w2 b y where
 os:=h2.os.trans h1.os
 tape:=h2.tape.trans h1.tape
 output:=h2.output.trans h1.output
 size:=h2.size.trans h1.size
 here:=h2.here
 block:=fun k hk=>(h2.block k hk).trans (h1.block k hk)
theorem Cc{b:Nat}{o:Obj}(hb:w.heap[b]?=some o)(ho:∀c t f,o≠ .cells c t f)(x:Obj) :
  ∃w',(setObj b x).run P w= .ok () w'/\Wrote w w' b x:=by
 refine⟨{ w with heap:=w.heap.setIfInBounds b x },?_,Wrote.set (lt_of_block hb) x⟩
 cases o<;>first|exact absurd rfl (ho _ _ _)|simp[setObj,Sem.run,hb]
theorem Wrote.setCell{b o:Nat}{cur:List Value}{T:TypeId}{fr:Nat × Nat}(hb:w.heap[b]?=some (.cells cur.toArray T fr))(v:Value) :
  Wrote w (w.setCell ⟨b,o,none⟩ v) b (.cells (cur.set o v).toArray T fr) where
 os:=rfl
 tape:=rfl
 output:=rfl
 size:=by simp[World.setCell]
 here:=by simp[World.setCell,akE,hb]
 block:=fun k hk=>by simp[World.setCell,akE,Ne.symm hk]
theorem D7{b o:Nat}{T:TypeId}{fr:Nat × Nat}:∀(vs:List Value) (i:Nat) (cur:List Value) (w:World),w.heap[b]?=some (.cells cur.toArray T fr)->
  (∀j,j<vs.length->¬(fr.1<=o+i+j/\o+i+j<fr.2))->o+i+vs.length<=cur.length->(∀v∈vs,v.oneCell'=true)->
  ∃w',(storeCells ⟨b,o,none⟩ vs i).run P w= .ok () w'/\Wrote w w' b (.cells (setCells cur (o+i) vs).toArray T fr)
 |[],i,cur,w,hb,_,_,_=>⟨w,rfl,⟨rfl,rfl,rfl,rfl,hb,fun _ _=>rfl⟩⟩
 |v::vs,i,cur,w,hb,hf,hl,h1=>by
  simp only[adP]at hl hf
  have hcell:w.cell? ⟨b,o+i,none⟩=some (cur[o+i]'(by omega)):=by simp[World.cell?,hb]
  have hfro:w.frozen? ⟨b,o+i,none⟩=false:=by
   have:=hf 0 (by omega)
   obtain⟨lo,hi⟩:=fr
   simp only[World.frozen?,hb]
   simp only[alb]at this
   simp only[Bool.and_eq_false_iff,decide_eq_false_iff_not]
   omega
  have hw1:=Wrote.setCell (o:=o+i) hb v
  obtain⟨w',hr,hw2⟩:=D7 vs (i+1) (cur.set (o+i) v) (w.setCell ⟨b,o+i,none⟩ v) hw1.here
   (fun j hj=>by have:=hf (j+1) (by omega);rwa [show o+i+(j+1)=o+(i+1)+j by omega]at this) (by simp;omega) (fun x hx=>h1 x (by simp[hx]))
  refine⟨w',?_,?_⟩
  ·simp only[storeCells,Sem.run_bind,Addr.add_lit,run_store P w _ v _ (h1 v (by simp)),hcell,hfro,ajB,if_false,Result.andThen_ok,hr]
  ·simp only[setCells]
   exact hw1.trans (by rwa [akj])
theorem Fe{α:Type}:∀(vs l:List α) (off:Nat) (v:α),v∈setCells l off vs->v∈l\/v∈vs
 |[],_,_,_,h=> .inl h
 |x::vs,l,off,v,h=>by
  rcases Fe vs (l.set off x) (off+1) v h with h|h
  ·rcases List.mem_or_eq_of_mem_set h with h|h
   ·exact .inl h
   ·exact .inr (by simp[h])
  ·exact .inr (by simp[h])
theorem YK(hR:Rel ρ h w){t:TypeId}{p v:AV}{cp cv:Value}{h':AH}(he:Cg P t p v h=some h')(hp:bf ρ p cp)(hv:bf ρ v cv) :
  Gu P ρ h w (Instr.storeAt t cp cv) h':=by
 unfold Cg at he
 split at he
 ·rename_i r off
  cases hp with|ptr _ _ b hb=>
  split at he
  ·rename_i cs T n hg hs
   split at he
   ·rename_i hc
    obtain⟨hvn,hle,hsc⟩:=hc
    simp only[aac]at he;subst he
    obtain⟨eG,fr,hbl,hl,ho,hfr⟩:=hR.obj r _ b hg hb
    have qw:=hv.cells
    obtain⟨w',hr,hw⟩:=D7 (P:=P) (o:=off) cv.cells.toList 0 eG w hbl (fun j hj=>Ou hfr (by have:=hl.1;rw[qw.1]at hj;omega)) (by have:=hl.1;rw[qw.1];omega) (qw.one hsc)
    have hlr:=iH.setCells (off:=off) hl qw
    refine⟨w',ρ,?_,hR.setObj hg trivial hb (o':= .cells (setCells cs off v.cells) T) trivial hw (fun _ _ _ e=>by rw[hbl]at e;simp only[aac,Obj.cells.injEq]at e;exact⟨_,_,_,rfl,by rw[<-e.1];simp[BM]⟩) ⟨_,_,rfl,hlr,?_,by rwa [BM]⟩,Stp.setObj hg trivial hb trivial hw⟩
    ·have:cv.cells.size=n:=by have:=qw.1;simp at this;omega
     simp[Instr.storeAt,Instr.sureAddr,storeVar,AZ hs,this,hr]
    ·intro x hx
     rcases Fe _ _ _ _ hx with hx|hx
     ·exact ho x hx
     ·exact qw.one hsc x hx
   ·cases he
  ·cases he
 ·cases he
theorem Uw(hR:Rel ρ h w)(hb:ρ.base<=w.heap.size){elem:TypeId}{v p:AV}{cv:Value}{h':AH}(he:LQ elem v h=some (p,h'))(hv:bf ρ v cv) :
  Gd P ρ h w (do pure (.pointer (some (<-newVar elem cv)))) p h':=by
 unfold LQ at he
 split at he
 ·rename_i hsc
  simp only[aac,aaW]at he;obtain⟨rfl,rfl⟩:=he
  have qw:=hv.cells
  have hle:=eF.fI (b:=w.heap.size) hR.fF
  refine⟨.pointer (some ⟨w.heap.size,0,none⟩),_,ρ.dh h.next w.heap.size,?_,.ptr _ _ _ (eF.eY ..),hR.newObj hb (.cells v.cells elem) trivial (.cells cv.cells elem) ⟨cv.cells.toList,_,by simp,(qw.mono hle).pre,qw.one hsc,.inl rfl⟩,Stp.newObj hR _ _⟩
  simp[newVar,newRow]
 ·cases he
theorem aaD(hR:Rel ρ h w)(hb:ρ.base<=w.heap.size){elem:TypeId}{z p:AV}{h':AH}(hz:BL P elem=some z)(he:LQ elem z h=some (p,h')) :
  Gd P ρ h w (Instr.alloc elem true (.tuple #[])) p h':=by
 obtain⟨cz,h1,h2⟩:=Fh (ρ:=ρ) hz w
 obtain⟨cv,w',ρ',h3,h4,h5,h6⟩:=Uw (P:=P) hR hb he h2
 exact⟨cv,w',ρ',by simpa[Instr.alloc,h1]using h3,h4,h5,h6⟩
theorem ade(hR:Rel ρ h w)(hb:ρ.base<=w.heap.size){elem:TypeId}{v p:AV}{cv:Value}{h':AH}(he:LQ elem v h=some (p,h'))(hv:bf ρ v cv) :
  Gd P ρ h w (Instr.box elem cv) p h':=Uw (P:=P) hR hb he hv
theorem flat_get{n:Nat}:∀{xs:List AV},(∀i (hi:i<xs.length),xs[i].cells.length=n)->∀i j,j<n->(flat xs)[i*n+j]?=(xs[i]?).bind (·.cells[j]?)
 |[],_,i,j,_=>by simp[flat]
 |x::xs,hn,i,j,hj=>by
  have h0:=hn 0 (by simp)
  simp only[ajJ]at h0
  have ht:∀i (hi:i<xs.length),xs[i].cells.length=n:=fun i hi=>by have:=hn (i+1) (by simpa using hi);simpa using this
  rw[DU]
  cases i with
  |zero=>rw[ald,ajs,ajt (by omega)];simp
  |succ i=>
   rw[adI (by rw[h0,ajP];omega),h0,show(i+1)*n+j - n=i*n+j by rw[ajP];omega,flat_get ht i j hj]
   simp
theorem bf.lK{n:Nat}{xs:List AV}{cs:List Value}(hn:∀i (hi:i<xs.length),xs[i].cells.length=n)(hl:dz ρ (flat xs) cs){b off cap:Nat}
  (hi:∀k v,cs[k]?=some v->ρ.fQ b (off+k)=some v) (c:Cap) (hcap:xs.length<=cap) (hc:jF ρ c b (off+xs.length*n) n xs.length cap) :
  bf ρ (.eP xs c) (.slice (some ⟨b,off,none⟩) xs.length cap):=by
 have hlen:cs.length=xs.length*n:=by rw[hl.1];exact Bf hn
 have at_:∀i j,i<xs.length->j<n->∃v,cs[i*n+j]?=some v:=fun i j hi hj=>by
  have:(i+1)*n<=xs.length*n:=ajQ _ hi
  rw[ajP,ala]at this
  exact⟨cs[i*n+j]'(by omega),aae _⟩
 refine .eP xs c b off cap n (fun i j=>cs.getD (i*n+j) Go.undef) hn (fun i j hi' hj=>?_) (fun i hi' j hj=>?_) hcap hc
 ·obtain⟨v,hv⟩:=at_ i j hi' hj
  rw[akj,List.getD,hv];exact hi _ _ hv
 ·have hj0:=hj
  rw[hn i hi']at hj0
  have hf:=flat_get hn i j hj0
  rw[aae hi',ajE,aae hj]at hf
  obtain⟨x,hx,hr⟩:=hl.find hf
  rw[List.getD,hx];exact hr
theorem V9{n:Nat}:∀{xs:List AV},(∀i (hi:i<xs.length),xs[i].cells.length=n)->∀(i:Nat) (v:AV),i<xs.length->v.cells.length=n->flat (xs.set i v)=setCells (flat xs) (i*n) v.cells
 |[],_,i,v,hi,_=>by simp at hi
 |x::xs,hn,i,v,hi,hv=>by
  have h0:=hn 0 (by simp)
  simp only[ajJ]at h0
  have ht:∀i (hi:i<xs.length),xs[i].cells.length=n:=fun i hi=>by have:=hn (i+1) (by simpa using hi);simpa using this
  have pre:∀(vs a b:List AV),a.length=vs.length->setCells (a++b) 0 vs=vs++b:=by
   intro vs
   have key:∀(vs a b p:List AV),a.length=vs.length->setCells (p++a++b) p.length vs=p++vs++b:=by
    intro vs
    induction vs with
    |nil=>intro a b p hl;have:a=[]:=aan (by simpa using hl);subst this;simp[setCells]
    |cons u vs ih=>
     intro a b p hl
     cases a with
     |nil=>simp at hl
     |cons y a=>
      simp only[setCells]
      have e:(p++y::a++b).set p.length u=(p++[u])++a++b:=by simp
      rw[e]
      have:=ih a b (p++[u]) (by simpa using hl)
      simp only[aaO,aj2]at this
      rw[this];simp
   intro a b hl
   have:=key vs a b [] hl
   simpa using this
  have shift:∀(vs a b:List AV) (o:Nat),setCells (a++b) (a.length+o) vs=a++setCells b o vs:=by
   intro vs
   induction vs with
   |nil=>intro a b o;rfl
   |cons u vs ih=>
    intro a b o
    simp only[setCells]
    rw[show(a++b).set (a.length+o) u=a++b.set o u by rw[akt _ _ (by omega)];congr 2;omega]
    rw[akj,ih]
  cases i with
  |zero=>
   rw[akV,DU,DU,ald,pre _ _ _ (by omega)]
  |succ i=>
   rw[akW,DU,DU,V9 ht i v (by simpa using hi) hv,ajP,ala,Nat.add_comm,<-h0,shift]
theorem I5{n:Nat}:∀(parts:List (Nat × AV)) (gJ:List (Nat × Value)) (xs out:List AV) (gG:List Value),kT ρ parts gJ->(∀i (hi:i<xs.length),xs[i].cells.length=n)->
  dz ρ (flat xs) gG->(∀v∈gG,v.oneCell'=true)->FP n xs parts=some out->∃cout,Instr.fill (fun i=>some (i*n,n)) gG.toArray gJ=some cout.toArray/\dz ρ (flat out) cout/\
   (∀i (hi:i<out.length),out[i].cells.length=n)/\out.length=xs.length/\(∀v∈cout,v.oneCell'=true)
 |[],[],xs,out,gG,_,hn,hl,h1,h=>by simp only[FP,aac]at h;subst h;exact⟨gG,rfl,hl,hn,rfl,h1⟩
 |[],_::_,_,_,_,h,_,_,_,_=>by have:=h.1;simp at this
 |_::_,[],_,_,_,h,_,_,_,_=>by have:=h.1;simp at this
 |(i,v)::parts,(j,cv)::gJ,xs,out,gG,hp,hn,hl,h1,h=>by
  obtain⟨e,hv⟩:=hp.head
  simp only at e;subst e
  unfold FP at h
  unfold Instr.fill
  split at h
  ·rename_i hh
   obtain⟨hvn,hj,hsc⟩:=hh
   have hc:=hv.cells
   have e1:cv.cells.size=n:=by have:=hc.1;simp at this;omega
   have e2:gG.length=xs.length*n:=by rw[hl.1];exact Bf hn
   have e3:(j+1)*n<=xs.length*n:=ajQ _ hj
   rw[ajP,ala]at e3
   simp only
   rw[if_neg (by simp only[e1,List.size_toArray,e2];simp;omega)]
   have:=K5 gG cv.cells.toList (j*n) 0
   rw[show cv.cells.zipIdx.foldl (fun(cs:Array Value) (x:Value × Nat)=>cs.setIfInBounds (j*n+x.2) x.1) gG.toArray=(setCells gG (j*n) cv.cells.toList).toArray by
    rw[<-Array.foldl_toList,Array.toList_zipIdx];simpa using this]
   have hset:∀i (hi:i<(xs.set j v).length),(xs.set j v)[i].cells.length=n:=fun i hi=>by
    rw[List.getElem_set];split
    ·exact hvn
    ·exact hn _ _
   obtain⟨cout,h2,h3,h4,h5,h6⟩:=I5 parts gJ (xs.set j v) out (setCells gG (j*n) cv.cells.toList) hp.tail hset (by rw[V9 hn j v hj hvn];exact dz.setCells hl hc)
    (fun x hx=>by
     rcases Fe _ _ _ _ hx with hx|hx
     ·exact h1 x hx
     ·exact hc.one hsc x hx) h
   exact⟨cout,h2,h3,h4,by simpa using h5,h6⟩
  ·cases h
theorem IZ{n:Nat}{z:AV}(hz:z.cells.length=n)(len:Nat):(∀i (hi:i<(List.replicate len z).length),(List.replicate len z)[i].cells.length=n)/\
  (flat (List.replicate len z)).length=len*n/\∀k,k<len*n->(flat (List.replicate len z))[k]?=z.cells[k % n]?:=by
 have h1:∀i (hi:i<(List.replicate len z).length),(List.replicate len z)[i].cells.length=n:=fun i hi=>by simpa using hz
 refine⟨h1,by rw[Bf h1];simp,fun k hk=>?_⟩
 have hn:0<n:=by
  rcases ak5 n with rfl|h
  ·simp at hk
  ·exact h
 have:=flat_get h1 (k / n) (k % n) (Nat.mod_lt _ hn)
 rw[show k / n*n+k % n=k by rw[alc];exact Nat.div_add_mod k n]at this
 rw[this]
 have:k / n<len:=Nat.div_lt_of_lt_mul (by rwa [alc])
 simp[this]
theorem dz.zeros{n:Nat}{z:AV}{cz:Value}(hz:z.cells.length=n)(hv:bf ρ z cz)(len:Nat) :
  dz ρ (flat (List.replicate len z)) ((List.range (len*n)).map fun k=>cz.cells[k % cz.cells.size]!)/\(z.cells.all AV.scalar=true->∀v∈(List.range (len*n)).map fun k=>cz.cells[k % cz.cells.size]!,v.oneCell'=true):=by
 obtain⟨h1,h2,h3⟩:=IZ hz len
 have hc:=hv.cells
 have hs:cz.cells.size=n:=by have:=hc.1;simp at this;omega
 refine⟨⟨by simp[h2],fun i hi hj=>?_⟩,fun hsc v hm=>?_⟩
 ·rw[h2]at hi
  have hn:0<n:=by
   rcases ak5 n with rfl|h
   ·simp at hi
   ·exact h
  have e:=h3 i hi
  have hlt:i % n<n:=Nat.mod_lt _ hn
  rw[aae (by rw[h2];exact hi),aae (by rw[hz];exact hlt)]at e
  simp only[aac]at e
  rw[e]
  have:=hc.2 (i % n) (by rw[hz];exact hlt) (by simp[hs];exact hlt)
  simp only[aj4,List.getElem_range,hs]
  rw[getElem!_pos cz.cells (i % n) (by rw[hs];exact hlt)]
  simpa using this
 ·simp only[ajy,ajD]at hm
  obtain⟨k,hk,rfl⟩:=hm
  have hn:0<n:=by
   rcases ak5 n with rfl|h
   ·simp at hk
   ·exact h
  have hlt:k % n<n:=Nat.mod_lt _ hn
  rw[hs,getElem!_pos cz.cells (k % n) (by rw[hs];exact hlt)]
  exact hc.one hsc _ (by simp)
theorem Qw(hR:Rel ρ h w)(hb:ρ.base<=w.heap.size){mu:Bool}{t:TypeId}{len:Nat}{parts:List (Nat × AV)}{gJ:List (Nat × Value)}{v:AV}{h':AH}
  (hp:kT ρ parts gJ) (he:FW P mu t len parts h=some (v,h')):Gd P ρ h w (Instr.buildSlice t len gJ.toArray) v h':=by
 unfold FW at he
 split at he
 ·rename_i elem hu
  split at he
  ·rename_i n z hs hz
   split at he
   ·cases he
   ·rename_i hc
    have hn0:n≠0:=fun e=>hc (.inl e)
    have hlim:¬len*n>16777216:=fun e=>hc (.inr (.inl e))
    have hzn:z.cells.length=n:=akX fun e=>hc (.inr (.inr (.inl e)))
    have hsc:z.cells.all AV.scalar=true:=by
     cases e:z.cells.all AV.scalar with
     |true=>rfl
     |false=>exact(hc (.inr (.inr (.inr e)))).elim
    obtain⟨cz,hcz,kU⟩:=Fh (ρ:=ρ) hz w
    obtain⟨hl0,ho0⟩:=dz.zeros hzn kU len
    obtain⟨hu0,_,_⟩:=IZ hzn len
    split at he
    ·rename_i xs hf
     obtain⟨cout,kH,hl,hsz,hln,ho⟩:=I5 parts gJ _ xs _ hp hu0 hl0 (ho0 hsc) hf
     have hxl:xs.length=len:=by rw[hln];simp
     have hcl:cout.length=len*n:=by rw[hl.1,Bf hsz,hxl]
     have hrun:(Instr.buildSlice t len gJ.toArray).run P w= .ok (.slice (some ⟨w.heap.size,0,none⟩) len len) { w with heap:=w.heap.push (.cells cout.toArray elem) }:=by
      have hcs:cz.cells.size=n:=by have:=kU.cells.1;simp at this;omega
      have oC:¬16777216<len*n:=hlim
      by_cases h0:len*n=0
      ·have hl0:len=0:=by
        rcases Nat.mul_eq_zero.1 h0 with e|e
        ·exact e
        ·exact absurd e hn0
       subst hl0
       simp only[ald,List.range_zero,aky]at kH
       simp only[Instr.buildSlice,Sem.run_bind,run_underlying hu,AZ hs,Result.andThen_ok]
       have e:∀f:Nat->Value,(Array.range 0).map f= #[]:=fun f=>akP (by simp)
       simp[e,kH,newRow]
      ·simp only[Instr.buildSlice,Sem.run_bind,run_underlying hu,AZ hs,Result.andThen_ok]
       have harr:((Array.range (len*n)).map fun x=>cz.cells[x % cz.cells.size]!)=((List.range (len*n)).map fun k=>cz.cells[k % cz.cells.size]!).toArray:=by
        apply akP;simp
       rw[if_neg (by simpa using oC),if_neg h0]
       simp only[Sem.run_bind,hcz,Result.andThen_ok,Sem.run_pure,harr,kH]
       simp[newRow]
     split at he
     ·simp only[aac,aaW]at he;obtain⟨rfl,rfl⟩:=he
      have hle:=eF.fI (b:=w.heap.size) hR.fF
      exact⟨_,_,ρ.dh h.next w.heap.size,hrun,.hsl _ 0 len (.known len) _ len (eF.eY ..) (ab5 _) rfl,
       hR.newObj hb (.cells (flat xs) elem) trivial (.cells cout.toArray elem) ⟨cout,_,rfl,(hl.mono hle).pre,ho,.inl rfl⟩,Stp.newObj hR _ _⟩
     ·simp only[aac,aaW]at he;obtain⟨rfl,rfl⟩:=he
      have hR':=hR.ku cout.toArray elem (len*n) (by simp[hcl]) (fun j hj=>by
       have:j<cout.length:=by omega
       simp only[Array.getD,List.size_toArray,this,dif_pos]
       exact ho _ (by simp))
      have hstp:=Stp.ku hR (.cells cout.toArray elem) (len*n) (fun j=>cout.toArray.getD j Go.undef)
      have hv:bf (ρ.fK w.heap.size 0 (len*n) fun j=>cout.toArray.getD j Go.undef) (.eP xs .lit) (.slice (some ⟨w.heap.size,0,none⟩) xs.length len):=by
       refine bf.lK hsz (hl.mono hstp.le) (fun k v hk=>?_) .lit (by omega) (show len=xs.length by omega)
       obtain⟨hk1,hk2⟩:=aao.1 hk
       rw[eF.gX _ _ _ _ _ _ (by omega)]
       simp[hk1,hk2]
      rw[hxl]at hv
      exact⟨_,_,_,hrun,hv,hR',hstp⟩
    ·cases he
  ·cases he
 ·cases he
end Go.Sk
namespace Go.Sk
variable{P:Program}{ρ:eF}{h:AH}{w:World}
theorem Nq{t:TypeId}{n:Nat}(h:sizeT P t=some n):∃i,P.info? t=some i/\i.size=n:=by
 unfold sizeT at h
 cases hi:P.info? t with
 |none=>rw[hi]at h;cases h
 |some i=>rw[hi]at h;simp only[ajF,aac]at h;exact⟨i,rfl,h⟩
theorem Nj{t:TypeId}{z:AV}{i:TypeInfo}(h:BL P t=some z)(hi:P.info? t=some i):∃cz,i.zero=some cz/\bf ρ z cz:=by
 unfold BL at h
 rw[hi,ajE]at h
 cases hz:i.zero with
 |none=>rw[hz]at h;cases h
 |some v=>rw[hz]at h;exact⟨v,rfl,.kE h⟩
theorem RU(hR:Rel ρ h w)(hb:ρ.base<=w.heap.size){t:TypeId}{l c v:AV}{cl cc:Value}{h':AH}(hl:bf ρ l cl)(hc:bf ρ c cc)
  (he:FT P t l c h=some (v,h')):Gd P ρ h w (Instr.makeSlice t cl cc) v h':=by
 unfold FT at he
 split at he
 ·rename_i elem kl l kc c hu
  cases hl;cases hc
  split at he
  ·rename_i n z hs hz
   split at he
   ·rename_i hh
    obtain⟨h1,h2,h3,h4,h5,h6,h7⟩:=hh
    simp only[aac,aaW]at he;obtain⟨rfl,rfl⟩:=he
    obtain⟨i,hi,hsz⟩:=Nq hs
    obtain⟨cz,hcz,kU⟩:=Nj (ρ:=ρ) hz hi
    have hby:P.bytesOf elem=i.bytes:=by simp[Program.bytesOf,hi]
    rw[hby]at h6
    have hrun:=run_make (P:=P) w t elem i cz hu hi hcz kl kc l c h1 h2 (by omega) (by omega)
    obtain⟨hl0,ho0⟩:=dz.zeros h3 kU c.toNat
    have harr:madeCells cz.cells (c.toNat*i.size)=((List.range (c.toNat*n)).map fun k=>cz.cells[k % cz.cells.size]!).toArray:=by
     apply akP;simp[madeCells,hsz]
    rw[harr]at hrun
    have hle:=eF.fI (b:=w.heap.size) hR.fF
    exact⟨_,_,ρ.dh h.next w.heap.size,hrun,.hsl _ 0 l.toNat (.known c.toNat) _ c.toNat (eF.eY ..) (by omega) rfl,
     hR.newObj hb (.cells (flat (List.replicate c.toNat z)) elem) trivial _ ⟨_,_,rfl,(hl0.mono hle).pre,ho0 h4,.inl rfl⟩,Stp.newObj hR _ _⟩
   ·cases he
  ·cases he
 ·cases he
theorem Zx(hR:Rel ρ h w){ts:Array TypeId}{ty:TypeId}{d x v:AV}{cd cx:Value}{h':AH}(hd:bf ρ d cd)(hx:bf ρ x cx)
  (he:abw P ts d x h=some (v,h')):Gd P ρ h w (Builtin.copy_ ts ty #[cd,cx]) v h':=by
 unfold abw at he
 split at he
 ·rename_i t ht
  split at he
  ·rename_i elem hu
   split at he
   ·rename_i ys n hel hs
    split at he
    ·cases he
    ·rename_i hh
     simp only[aac,aaW]at he;obtain⟨rfl,rfl⟩:=he
     have hn0:n≠0:=fun e=>hh (.inl e)
     have hok:Bj n ys=true:=by
      cases e:Bj n ys with
      |true=>rfl
      |false=>exact(hh (.inr e)).elim
     obtain⟨hlen,hsz,eG,hl,ho,hfc⟩:=NG (P:=P) hR hel hx hs hn0 hok
     cases hd
     have hf0:=hfc 0 (adM _)
     exact Gd.pure hR ⟨.int .i64 0,by simp[Builtin.copy_,ht,run_underlying hu,hlen,AZ hs,hf0,goInt],.int _ _⟩
   ·rename_i ys n r off len cap hel hs
    split at he
    ·rename_i cs T hg
     cases hd with|hsl _ _ _ _ b nn hb hln hcap=>
     simp only at he
     split at he
     ·cases he
     ·rename_i hh
      simp only[aac,aaW]at he;obtain⟨rfl,rfl⟩:=he
      have hn0:n≠0:=fun e=>hh (.inl e)
      have hok:Bj n ys=true:=by
       cases e:Bj n ys with
       |true=>rfl
       |false=>exact(hh (.inr (.inl e))).elim
      have hle:off+len*n<=cs.length:=akq fun e=>hh (.inr (.inr e))
      obtain⟨hlen,hsz,eG,hl,ho,hfc⟩:=NG (P:=P) hR hel hx hs hn0 hok
      obtain⟨cds,fr,hbl,hdl,hdo,hfr⟩:=hR.obj r _ b hg hb
      have hm1:Nat.min ys.length len<=ys.length:=Nat.min_le_left _ _
      have hm2:Nat.min ys.length len<=len:=Nat.min_le_right _ _
      generalize hM:Nat.min ys.length len=m at *
      have hf0:=hfc m hm1
      have aje:eG.length=ys.length*n:=by rw[hl.1];exact Bf hsz
      have hmn:m*n<=ys.length*n:=ajQ _ hm1
      have ajf:m*n<=len*n:=ajQ _ hm2
      have htl:(eG.take (m*n)).length=m*n:=by rw[aju];omega
      have vM:flat (ys.take m)=(flat ys).take (m*n):=by
       have e1:flat ys=flat (ys.take m)++flat (ys.drop m):=by rw[<-Jg,ajN]
       have e2:(flat (ys.take m)).length=m*n:=by
        rw[Bf (n:=n) (fun i hi=>by simp only[akO];exact hsz _ _),aju,Nat.min_eq_left hm1]
       rw[e1,List.take_append_of_le_length (Nat.le_of_eq e2.symm),ajK (Nat.le_of_eq e2)]
      obtain⟨w',hr,hw⟩:=D7 (P:=P) (o:=off) (eG.take (m*n)) 0 cds w hbl (fun j hj=>Ou hfr (by have:=hdl.1;rw[htl]at hj;omega)) (by have:=hdl.1;rw[htl];omega) (fun v hv=>ho v (akd hv))
      have hlr:=iH.setCells (off:=off) hdl (hl.take (m*n))
      refine⟨.int .i64 m,w',ρ,?_,.int _ _,hR.setObj hg trivial hb (o':= .cells (setCells cs off (flat (ys.take m))) T) trivial hw (fun _ _ _ e=>by rw[hbl]at e;simp only[aac,Obj.cells.injEq]at e;exact⟨_,_,_,rfl,by rw[<-e.1];simp[BM]⟩) ⟨_,_,rfl,by rw[vM];exact hlr,?_,by rwa [BM]⟩,Stp.setObj hg trivial hb trivial hw⟩
      ·simp[Builtin.copy_,ht,run_underlying hu,hlen,AZ hs,hM,hf0,hr,goInt]
      ·intro x hx
       rcases Fe _ _ _ _ hx with hx|hx
       ·exact hdo x hx
       ·exact ho x (akd hx)
    ·cases he
   ·cases he
  ·cases he
 ·cases he
theorem GQ{α:Type}(f:α->α):∀(l:List α) (n:Nat),(Bb l n f).length=l.length
 |[],_=>rfl
 |_::_,0=>rfl
 |_::l,n+1=>by simp[Bb,GQ f l n]
theorem Si{α:Type}(f:α->α):∀(l:List α) (n i:Nat) (hi:i<l.length),(Bb l n f)[i]'(by rw[GQ];exact hi)=if i=n then f l[i]else l[i]
 |[],_,i,hi=>by simp at hi
 |a::l,0,0,_=>by simp[Bb]
 |a::l,0,i+1,_=>by simp[Bb]
 |a::l,n+1,0,_=>by simp[Bb]
 |a::l,n+1,i+1,hi=>by
  have:=Si f l n i (by simpa using hi)
  simpa[Bb]using this
theorem gq.modify{es:List (AV × AV × Nat)}{fZ:List MapEntry}(hr:gq ρ es fZ)(i:Nat)(f:AV × AV × Nat->AV × AV × Nat)(g:MapEntry->MapEntry)
  (hfg:∀(hi:i<es.length) (hj:i<fZ.length),ZL ρ es[i] fZ[i]->ZL ρ (f es[i]) (g fZ[i])):gq ρ (Bb es i f) (fZ.modify i g):=by
 refine⟨by simp[GQ,hr.1],fun k hk hk'=>?_⟩
 have hk3:k<es.length:=by rwa [GQ]at hk
 have hk2:k<fZ.length:=by rw[hr.1];exact hk3
 rw[Si f es i k hk3]
 simp only[List.getElem_modify]
 by_cases e:k=i
 ·subst e;simp only[if_true]
  exact hfg hk3 hk2 (hr.2 k hk3 hk2)
 ·rw[if_neg e,if_neg (Ne.symm e)]
  exact hr.2 k hk3 hk2
theorem gq.push{es:List (AV × AV × Nat)}{fZ:List MapEntry}(hr:gq ρ es fZ)(e:AV × AV × Nat)(c:MapEntry)(he:ZL ρ e c):gq ρ (es++[e]) (fZ++[c]):=by
 refine⟨by simp[hr.1],fun k hk hk'=>?_⟩
 by_cases h:k<es.length
 ·rw[akG h,akG (by rw[hr.1];exact h)];exact hr.2 _ _ _
 ·have:k=es.length:=by simp at hk;omega
  subst this
  rw[List.getElem_append_right (by omega),List.getElem_append_right (by rw[hr.1];omega)]
  simpa[hr.1]using he
theorem bf.sF{a b:AV}{ca cb:Value}(hp:D5 a b=true)(ha:bf ρ a ca)(hb:bf ρ b cb):Instr.sameBits 10000 cb ca=true:=by
 have:D5 b a=true:=by
  have cell:∀{x y:AV},Dj x y=true->Dj y x=true:=by
   intro x y hh
   cases x<;>cases y<;>simp[Dj]at hh ⊢
   ·exact hh.symm
   ·exact⟨hh.1.symm,hh.2.symm⟩
   ·exact hh.symm
  have cells:∀{x y:List AV},BR x y=true->BR y x=true:=by
   intro x
   induction x with
   |nil=>intro y hh;cases y<;>simp[BR]at hh ⊢
   |cons u x ih=>
    intro y hh
    cases y with
    |nil=>simp[BR]at hh
    |cons v y=>
     simp only[BR,abB]at hh ⊢
     exact⟨cell hh.1,ih hh.2⟩
  cases a<;>cases b<;>simp only[D5]at hp ⊢ <;>first|exact cells hp|exact cell hp
 exact bf.plain this hb ha
theorem P9{k:AV}{ck:Value}(hk:bf ρ k ck){es:List (AV × AV × Nat)}{fZ:List MapEntry}(hr:gq ρ es fZ){i:Nat}{v:AV}{b:Nat}(hf:Found k es 0 (some (i,v,b))) :
  ∃(hi:i<es.length) (hj:i<fZ.length),es[i].2.1=v/\es[i].2.2=b/\fZ[i]?=some fZ[i]/\(Instr.keyThatStays fZ[i].key ck).run P w= .ok ck w:=by
 obtain⟨_,k',hek,hp⟩:=hf
 rw[Nat.sub_zero]at hek
 obtain⟨hi,he⟩:=aao.1 hek
 have hj:i<fZ.length:=by rw[hr.1];exact hi
 refine⟨hi,hj,by rw[he],by rw[he],aae hj,?_⟩
 have h1:=(hr.2 i hi hj).1
 rw[he]at h1
 have:=bf.sF hp hk h1
 simp[Instr.keyThatStays,this]
theorem KZ(hR:Rel ρ h w){t:TypeId}{m k v:AV}{cm ck cv:Value}{h':AH}(he:DJ P t m k v h=some h')(hm:bf ρ m cm)(hk:bf ρ k ck)(hv:bf ρ v cv) :
  Gu P ρ h w (Instr.mapUpdate t cm ck cv) h':=by
 unfold DJ at he
 split at he
 ·rename_i kt et r hu
  cases hm with|map _ b hb=>
  split at he
  ·rename_i es clock hg
   obtain⟨fZ,hbl,hcn,hcr⟩:=hR.obj r _ b hg hb
   have hr:gq ρ es fZ:=⟨hcn,hcr⟩
   have hgo:=Dy (P:=P) hbl (fun _ _ _ e=>by cases e)
   split at he
   ·rename_i i v0 b0 hf
    simp only[aac]at he;subst he
    obtain⟨hck,hfound,q,hq,kV⟩:=run_findKey hk hr hf w
    cases q with
    |none=>exact kV.elim
    |some y=>
     obtain⟨j,cv0⟩:=y
     obtain⟨rfl,_⟩:=kV
     obtain⟨hi,hj,_,_,hc,oD⟩:=P9 (P:=P) (w:=w) hk hr hfound
     obtain⟨w',hset,hw⟩:=Cc (P:=P) hbl (fun _ _ _ e=>by cases e) (.map (fZ.modify j fun e=>{ e with key:=ck,val:=cv }).toArray clock)
     refine⟨w',ρ,?_,hR.setObj hg trivial hb (o':= .map _ clock) trivial hw (fun _ _ _ e=>by rw[hbl]at e;cases e) ?_,Stp.setObj hg trivial hb trivial hw⟩
     ·simp[Instr.mapUpdate,run_underlying hu,hgo,hck,hq,aae hj,oD,hset]
     ·have:=hr.modify j (fun e=>(k,v,e.2.2)) (fun e=>{ e with key:=ck,val:=cv }) (fun _ _ he=>⟨hk,hv,he.2.2⟩)
      exact⟨_,rfl,this.1,this.2⟩
   ·rename_i hf
    simp only[aac]at he;subst he
    obtain⟨hck,hfound,q,hq,kV⟩:=run_findKey hk hr hf w
    cases q with
    |some _=>exact kV.elim
    |none=>
     obtain⟨w',hset,hw⟩:=Cc (P:=P) hbl (fun _ _ _ e=>by cases e) (.map (fZ++[({ key:=ck,val:=cv,born:=clock }:MapEntry)]).toArray (clock+1))
     refine⟨w',ρ,?_,hR.setObj hg trivial hb (o':= .map _ (clock+1)) trivial hw (fun _ _ _ e=>by rw[hbl]at e;cases e) ?_,Stp.setObj hg trivial hb trivial hw⟩
     ·simp[Instr.mapUpdate,run_underlying hu,hgo,hck,hq,hset]
     ·have:=hr.push (k,v,clock) { key:=ck,val:=cv,born:=clock } ⟨hk,hv,rfl⟩
      exact⟨_,rfl,this.1,this.2⟩
   ·cases he
  ·cases he
 ·cases he
theorem Tp(hR:Rel ρ h w){t:TypeId}{m k v:AV}{cm ck:Value}{h':AH}(he:FV P t m k h=some (v,h'))(hm:bf ρ m cm)(hk:bf ρ k ck) :
  Gd P ρ h w (Instr.mapEntry t cm ck) v h':=by
 unfold FV at he
 split at he
 ·rename_i kt et r hu
  cases hm with|map _ b hb=>
  split at he
  ·rename_i es clock hg
   obtain⟨fZ,hbl,hcn,hcr⟩:=hR.obj r _ b hg hb
   have hr:gq ρ es fZ:=⟨hcn,hcr⟩
   have hgo:=Dy (P:=P) hbl (fun _ _ _ e=>by cases e)
   split at he
   ·rename_i i v0 b0 hf
    simp only[aac,aaW]at he;obtain⟨rfl,rfl⟩:=he
    obtain⟨hck,hfound,q,hq,kV⟩:=run_findKey hk hr hf w
    cases q with
    |none=>exact kV.elim
    |some y=>
     obtain⟨j,cv0⟩:=y
     obtain⟨rfl,hcv⟩:=kV
     obtain⟨hi,hj,hv0,hb0,hc,oD⟩:=P9 (P:=P) (w:=w) hk hr hfound
     obtain⟨w',hset,hw⟩:=Cc (P:=P) hbl (fun _ _ _ e=>by cases e) (.map (fZ.modify j fun e=>{ e with key:=ck }).toArray clock)
     have hent:=hr.2 j hi hj
     rw[Nat.sub_zero,hc]at hcv
     simp only[ajF,aac]at hcv;subst hcv
     refine⟨.tuple #[fZ[j].val,.int .i64 b0],w',ρ,?_,?_,hR.setObj hg trivial hb (o':= .map _ clock) trivial hw (fun _ _ _ e=>by rw[hbl]at e;cases e) ?_,Stp.setObj hg trivial hb trivial hw⟩
     ·have hbn:fZ[j].born=b0:=by rw[hent.2.2,hb0]
      simp[Instr.mapEntry,run_underlying hu,hgo,hck,hq,aae hj,oD,hset,goInt,hbn]
     ·rw[<-hv0];exact bf.gV (.cons hent.2.1 (.cons (.int _ _) (.nil ρ)))
     ·have:=hr.modify j (fun e=>(k,e.2.1,e.2.2)) (fun e=>{ e with key:=ck }) (fun _ _ he=>⟨hk,he.2.1,he.2.2⟩)
      exact⟨_,rfl,this.1,this.2⟩
   ·rename_i hf
    simp only[ajS,aaW]at he
    obtain⟨z,hz,rfl,rfl⟩:=he
    obtain⟨cz,hcz,kU⟩:=Fh (ρ:=ρ) hz w
    obtain⟨hck,hfound,q,hq,kV⟩:=run_findKey hk hr hf w
    cases q with
    |some _=>exact kV.elim
    |none=>
     obtain⟨w',hset,hw⟩:=Cc (P:=P) hbl (fun _ _ _ e=>by cases e) (.map (fZ++[({ key:=ck,val:=cz,born:=clock }:MapEntry)]).toArray (clock+1))
     refine⟨.tuple #[cz,.int .i64 clock],w',ρ,?_,bf.gV (.cons kU (.cons (.int _ _) (.nil ρ))),hR.setObj hg trivial hb (o':= .map _ (clock+1)) trivial hw (fun _ _ _ e=>by rw[hbl]at e;cases e) ?_,Stp.setObj hg trivial hb trivial hw⟩
     ·simp[Instr.mapEntry,run_underlying hu,hgo,hck,hq,hcz,hset,goInt]
     ·have:=hr.push (k,z,clock) { key:=ck,val:=cz,born:=clock } ⟨hk,kU,rfl⟩
      exact⟨_,rfl,this.1,this.2⟩
   ·cases he
  ·cases he
 ·cases he
theorem Oe(b:Int):∀(es:List (AV × AV × Nat)) (fZ:List MapEntry) (i j:Nat),gq ρ es fZ->Ig b es i=some j->i<=j/\fZ.findIdx? (fun e=>(e.born:Int)==b)=some (j - i)
 |[],_,_,_,_,h=>by simp[Ig]at h
 |_::_,[],_,_,h,_=>by have:=h.1;simp at this
 |e::es,c::fZ,i,j,hr,h=>by
  unfold Ig at h
  have hb:=hr.head.2.2
  split at h
  ·rename_i hh
   simp only[aac]at h;subst h
   refine⟨ab5 _,?_⟩
   rw[List.findIdx?_cons,hb];simp[hh]
  ·rename_i hh
   obtain⟨h1,h2⟩:=Oe b es fZ (i+1) j hr.tail h
   refine⟨by omega,?_⟩
   rw[List.findIdx?_cons,hb]
   have:((e.2.2:Int)==b)=false:=by rw[beq_eq_false_iff_ne];exact hh
   simp only[this,ajB,if_false,h2,ajF]
   congr 1;omega
theorem Qx(hR:Rel ρ h w){t:TypeId}{m s v:AV}{cm cs cv:Value}{h':AH}(he:CV m s v h=some h')(hm:bf ρ m cm)(hs:bf ρ s cs)(hv:bf ρ v cv) :
  Gu P ρ h w (Instr.entryStore t cm cs cv) h':=by
 unfold CV at he
 split at he
 ·rename_i r k b0
  cases hm with|map _ b hb=>
  cases hs
  split at he
  ·rename_i es clock hg
   obtain⟨fZ,hbl,hcn,hcr⟩:=hR.obj r _ b hg hb
   have hr:gq ρ es fZ:=⟨hcn,hcr⟩
   have hgo:=Dy (P:=P) hbl (fun _ _ _ e=>by cases e)
   split at he
   ·rename_i i hf
    simp only[aac]at he;subst he
    obtain⟨_,hfi⟩:=Oe b0 es fZ 0 i hr hf
    obtain⟨w',hset,hw⟩:=Cc (P:=P) hbl (fun _ _ _ e=>by cases e) (.map (fZ.modify i fun e=>{ e with val:=cv }).toArray clock)
    refine⟨w',ρ,?_,hR.setObj hg trivial hb (o':= .map _ clock) trivial hw (fun _ _ _ e=>by rw[hbl]at e;cases e) ?_,Stp.setObj hg trivial hb trivial hw⟩
    ·rw[Nat.sub_zero]at hfi
     simp[Instr.entryStore,hgo,asInt,asIntOf,hfi,hset]
    ·have:=hr.modify i (fun e=>(e.1,v,e.2.2)) (fun e=>{ e with val:=cv }) (fun _ _ he=>⟨he.1,hv,he.2.2⟩)
     exact⟨_,rfl,this.1,this.2⟩
   ·cases he
  ·cases he
 ·cases he
theorem gq.erase{es:List (AV × AV × Nat)}{fZ:List MapEntry}(hr:gq ρ es fZ)(i:Nat):gq ρ (es.eraseIdx i) (fZ.eraseIdx i):=by
 refine⟨by simp[List.length_eraseIdx,hr.1],fun k hk hk'=>?_⟩
 simp only[List.getElem_eraseIdx]
 split<;>exact hr.2 _ _ _
theorem VZ(hR:Rel ρ h w){ts:Array TypeId}{ty:TypeId}{m k:AV}{cm ck:Value}{h':AH}(he:U6 P ts m k h=some h')(hm:bf ρ m cm)(hk:bf ρ k ck) :
  ∃w' ρ',(Builtin.delete_ ts ty #[cm,ck]).run P w= .ok Go.undef w'/\Rel ρ' h' w'/\Stp ρ h w ρ' h' w':=by
 unfold U6 at he
 split at he
 ·rename_i t ht
  split at he
  ·rename_i kt et hu
   split at he
   ·cases hm
    split at he
    ·rename_i hok
     simp only[aac]at he;subst he
     have:=run_checkKey (P:=P) true 10000 kt k ck w hok hk
     exact⟨w,ρ,by simp[Builtin.delete_,ht,run_underlying hu,this,Go.undef],hR,Stp.refl ρ h w⟩
    ·cases he
   ·rename_i r
    cases hm with|map _ b hb=>
    split at he
    ·rename_i es clock hg
     obtain⟨fZ,hbl,hcn,hcr⟩:=hR.obj r _ b hg hb
     have hr:gq ρ es fZ:=⟨hcn,hcr⟩
     have hgo:=Dy (P:=P) hbl (fun _ _ _ e=>by cases e)
     split at he
     ·rename_i i v0 b0 hf
      simp only[aac]at he;subst he
      obtain⟨hck,hfound,q,hq,kV⟩:=run_findKey hk hr hf w
      cases q with
      |none=>exact kV.elim
      |some y=>
       obtain⟨j,cv0⟩:=y
       obtain⟨rfl,_⟩:=kV
       obtain⟨w',hset,hw⟩:=Cc (P:=P) hbl (fun _ _ _ e=>by cases e) (.map (fZ.eraseIdx j).toArray clock)
       refine⟨w',ρ,?_,hR.setObj hg trivial hb (o':= .map _ clock) trivial hw (fun _ _ _ e=>by rw[hbl]at e;cases e) ?_,Stp.setObj hg trivial hb trivial hw⟩
       ·simp[Builtin.delete_,ht,run_underlying hu,hgo,hck,hq,hset,Go.undef]
       ·have:=hr.erase j
        exact⟨_,rfl,this.1,this.2⟩
     ·rename_i hf
      simp only[aac]at he;subst he
      obtain⟨hck,hfound,q,hq,kV⟩:=run_findKey hk hr hf w
      cases q with
      |some _=>exact kV.elim
      |none=>
       obtain⟨w',hset,hw⟩:=Cc (P:=P) hbl (fun _ _ _ e=>by cases e) (.map fZ.toArray clock)
       have hR2:=hR.setObj hg trivial hb (o':= .map es clock) trivial hw (fun _ _ _ e=>by rw[hbl]at e;cases e) ⟨fZ,rfl,hcn,hcr⟩
       have hS2:=Stp.setObj (o':= .map es clock) hg trivial hb trivial hw
       have hx:∀q,(h.set r (.map es clock)).get q=h.get q:=fun q=>by
        rw[AH.ak];split
        ·rename_i e;subst e;exact hg.symm
        ·rfl
       refine⟨w',ρ,by simp[Builtin.delete_,ht,run_underlying hu,hgo,hck,hq,hset,Go.undef],hR2.ext (fun q=>(hx q).symm) rfl,⟨hS2.le,hS2.next,hS2.os,hS2.tape,hS2.output,hS2.size,hS2.kept,fun k hk ho=>?_,hS2.old,hS2.fQ⟩⟩
       rcases ho with⟨q,o,a1,a2,a3⟩|⟨g,e,c,a1,a2⟩
       ·exact .inl ⟨q,o,a1,a2,a3⟩
       ·exact .inr ⟨g,e,c,a1,a2⟩
     ·cases he
    ·cases he
   ·cases he
  ·cases he
 ·cases he
end Go.Sk
namespace Go.Sk
variable{P:Program}{ρ:eF}{h:AH}{w:World}
theorem Sq(hR:Rel ρ h w)(hb:ρ.base<=w.heap.size){t:TypeId}{r:Option Value}(hr:∀x,r=some x->(∃k e,P.underlying t=some (.map k e))/\∃k n,x= .int k n) :
  Gd P ρ h w (Instr.makeMap t r) (.map h.next) (h.alloc (.map [] 0)):=by
 refine⟨.map (some w.heap.size),_,ρ.dh h.next w.heap.size,?_,.map _ _ (eF.eY ..),hR.newObj hb (.map [] 0) trivial (.map #[] 0) ⟨[],rfl,rfl,fun i hi=>by simp at hi⟩,Stp.newObj hR _ _⟩
 cases r with
 |none=>simp[Instr.makeMap]
 |some x=>
  obtain⟨⟨k,e,hu⟩,k',n,rfl⟩:=hr x rfl
  simp[Instr.makeMap,run_underlying hu,asInt,asIntOf]
theorem Yd(hR:Rel ρ h w)(hb:ρ.base<=w.heap.size){t:TypeId}{x v:AV}{cx:Value}{h':AH}(he:Rq P t x h=some (v,h'))(hx:bf ρ x cx) :
  Gd P ρ h w (Instr.range t cx) v h':=by
 have hle:=eF.fI (b:=w.heap.size) hR.fF
 unfold Rq at he
 split at he
 ·rename_i s hu
  simp only[aac,aaW]at he;obtain⟨rfl,rfl⟩:=he
  cases hx
  exact⟨.pointer (some ⟨w.heap.size,0,none⟩),_,ρ.dh h.next w.heap.size,by simp[Instr.range,run_underlying hu],.ptr _ _ _ (eF.eY ..),
   hR.newObj hb (.jE s 0) trivial (.stringIter ⟨⟨s⟩⟩ 0) rfl,Stp.newObj hR _ _⟩
 ·rename_i k e hu
  simp only[aac,aaW]at he;obtain⟨rfl,rfl⟩:=he
  cases hx
  exact⟨.pointer (some ⟨w.heap.size,0,none⟩),_,ρ.dh h.next w.heap.size,by simp[Instr.range,run_underlying hu],.ptr _ _ _ (eF.eY ..),
   hR.newObj hb (.jr none 0 [] 0) trivial (.mapIter none 0 #[] 0) ⟨none,rfl,rfl⟩,Stp.newObj hR _ _⟩
 ·rename_i k e r hu
  cases hx with|map _ b mK=>
  split at he
  ·rename_i es clock hg
   simp only[aac,aaW]at he;obtain⟨rfl,rfl⟩:=he
   obtain⟨fZ,hbl,_,_⟩:=hR.obj r _ b hg mK
   have hgo:=Dy (P:=P) hbl (fun _ _ _ e=>by cases e)
   exact⟨.pointer (some ⟨w.heap.size,0,none⟩),_,ρ.dh h.next w.heap.size,by simp[Instr.range,run_underlying hu,hgo],.ptr _ _ _ (eF.eY ..),
    hR.newObj hb (.jr (some r) clock [] clock) trivial (.mapIter (some b) clock #[] clock) ⟨some b,rfl,b,hle.obj _ _ mK,rfl⟩,Stp.newObj hR _ _⟩
  ·cases he
 ·cases he
theorem gq.filter(p:Nat->Bool):∀{es:List (AV × AV × Nat)} {fZ:List MapEntry},gq ρ es fZ->gq ρ (es.filter fun e=>p e.2.2) (fZ.filter fun e=>p e.born)
 |[],[],h=>h
 |[],_::_,h=>by have:=h.1;simp at this
 |_::_,[],h=>by have:=h.1;simp at this
 |e::es,c::fZ,h=>by
  have hb:=h.head.2.2
  simp only[List.filter_cons,hb]
  split
  ·have ih:=gq.filter p h.tail
   refine⟨by simp[ih.1],fun i hi hj=>?_⟩
   cases i with
   |zero=>exact h.head
   |succ i=>exact ih.2 i (by simpa using hi) (by simpa using hj)
  ·exact gq.filter p h.tail
theorem gq.all(p:Nat->Bool):∀{es:List (AV × AV × Nat)} {fZ:List MapEntry},gq ρ es fZ->(fZ.all fun e=>p e.born)=es.all fun e=>p e.2.2
 |[],[],_=>rfl
 |[],_::_,h=>by have:=h.1;simp at this
 |_::_,[],h=>by have:=h.1;simp at this
 |e::es,c::fZ,h=>by simp only[acy,h.head.2.2,gq.all p h.tail]
theorem aar(hR:Rel ρ h w){it v:AV}{cit:Value}{s:Bool}{ty:TypeId}{h':AH}(he:RX it s h=some (v,h'))(hi:bf ρ it cit):Gd P ρ h w (Instr.next cit s ty) v h':=by
 unfold RX at he
 split at he
 ·rename_i r
  cases hi with|ptr _ _ b hb=>
  split at he
  ·rename_i l pos hg
   have hbl:w.heap[b]?=some (.stringIter ⟨⟨l⟩⟩ pos):=hR.obj r _ b hg hb
   have hgo:=Dy (P:=P) hbl (fun _ _ _ e=>by cases e)
   split at he
   ·rename_i hlt
    simp only[aac,aaW]at he;obtain⟨rfl,rfl⟩:=he
    obtain⟨w',hset,hw⟩:=Cc (P:=P) hbl (fun _ _ _ e=>by cases e) (.stringIter ⟨⟨l⟩⟩ (pos+(Mw l pos).2))
    refine⟨.tuple #[.bool true,.int .i64 pos,.int .i32 (Mw l pos).1],w',ρ,?_,bf.gV (.cons (.bool _) (.cons (.int _ _) (.cons (.int _ _) (.nil ρ)))),
     hR.setObj hg trivial hb (o':= .jE l _) trivial hw (fun _ _ _ e=>by rw[hbl]at e;cases e) rfl,Stp.setObj hg trivial hb trivial hw⟩
    have hlt':pos<(⟨⟨l⟩⟩:ByteArray).size:=hlt
    have hset':(setObj b (.stringIter ⟨⟨l⟩⟩ (pos+(Utf8.decode ⟨⟨l⟩⟩ pos).2))).run P w= .ok () w':=hset
    simp[Instr.next,hgo,hlt',hset',goInt,Mw]
   ·rename_i hlt
    simp only[aac,aaW]at he;obtain⟨rfl,rfl⟩:=he
    have hlt':¬pos<(⟨⟨l⟩⟩:ByteArray).size:=hlt
    exact Gd.pure hR ⟨.tuple #[.bool false],by simp[Instr.next,hgo,hlt'],bf.gV (.cons (.bool _) (.nil ρ))⟩
  ·cases he
 ·rename_i r
  cases hi with|ptr _ _ b hb=>
  split at he
  ·rename_i since seen st hg
   simp only[aac,aaW]at he;obtain⟨rfl,rfl⟩:=he
   obtain⟨cm,hbl,hm⟩:=hR.obj r _ b hg hb
   simp only at hm;subst hm
   have hgo:=Dy (P:=P) hbl (fun _ _ _ e=>by cases e)
   exact Gd.pure hR ⟨.tuple #[.bool false],by simp[Instr.next,hgo],bf.gV (.cons (.bool _) (.nil ρ))⟩
  ·rename_i m since seen last hg
   obtain⟨cm,hbl,bm,hbm,rfl⟩:=hR.obj r _ b hg hb
   have hgo:=Dy (P:=P) hbl (fun _ _ _ e=>by cases e)
   split at he
   ·rename_i es clock hgm
    obtain⟨fZ,aip,hcn,hcr⟩:=hR.obj m _ bm hgm hbm
    have vN:=Dy (P:=P) aip (fun _ _ _ e=>by cases e)
    have hr:gq ρ es fZ:=⟨hcn,hcr⟩
    split at he
    ·cases he
    ·rename_i hguard
     have hall:=hr.all (fun b=>decide (b>=last))
     have hemp:fZ.isEmpty=es.isEmpty:=by cases es<;>cases fZ<;>simp_all
     have hleft:=hr.filter (fun b=>!seen.contains b)
     have hold:=hleft.filter (fun b=>decide (b<since))
     have hnew:=hleft.filter (fun b=>decide (b>=since))
     simp only at he
     generalize hO:(es.filter fun e=>!seen.contains e.2.2).filter (fun e=>decide (e.2.2<since))=O at *
     generalize hN:(es.filter fun e=>!seen.contains e.2.2).filter (fun e=>decide (e.2.2>=since))=N at *
     generalize hCO:(fZ.filter fun e=>!seen.contains e.born).filter (fun e=>decide (e.born<since))=CO at *
     generalize sG:(fZ.filter fun e=>!seen.contains e.born).filter (fun e=>decide (e.born>=since))=CN at *
     have nk:(!seen.toArray.isEmpty&&!fZ.toArray.isEmpty&&fZ.toArray.all fun e=>decide (e.born>=last))=false:=by
      simp only[List.isEmpty_toArray,List.all_toArray,hall,hemp]
      simpa using hguard
     have hcont:∀e:MapEntry,seen.toArray.contains e.born=seen.contains e.born:=fun e=>by simp
     have hfO:(fZ.toArray.filter fun e=>!seen.toArray.contains e.born).filter (fun e=>decide (e.born<since))=CO.toArray:=by
      rw[<-hCO];simp
     have hfN:(fZ.toArray.filter fun e=>!seen.toArray.contains e.born).filter (fun e=>decide (e.born>=since))=CN.toArray:=by
      rw[<-sG];simp
     split at he
     ·simp only[aac,aaW]at he;obtain⟨rfl,rfl⟩:=he
      have e1:CO=[]:=aan (by simpa using hold.1)
      have e2:CN=[]:=aan (by simpa using hnew.1)
      subst e1;subst e2
      refine Gd.pure hR ⟨.tuple #[.bool false],?_,bf.gV (.cons (.bool _) (.nil ρ))⟩
      simp only[Instr.next,Sem.run_bind,hgo,vN,Result.andThen_ok]
      rw[nk,hfO,hfN]
      simp[Question.forced]
     ·rename_i e
      simp only[aac,aaW]at he;obtain⟨rfl,rfl⟩:=he
      have e2:CN=[]:=aan (by simpa using hnew.1)
      obtain⟨c,e1⟩:∃c,CO=[c]:=by
       have:=hold.1
       match CO,this with
       |[c],_=>exact⟨c,rfl⟩
      subst e1;subst e2
      have hec:=hold.head
      obtain⟨w',hset,hw⟩:=Cc (P:=P) hbl (fun _ _ _ e=>by cases e) (.mapIter (some bm) since (seen++[e.2.2]).toArray clock)
      refine⟨.tuple #[.bool true,c.key,c.val],w',ρ,?_,bf.gV (.cons (.bool _) (.cons hec.1 (.cons hec.2.1 (.nil ρ)))),
       hR.setObj hg trivial hb (o':= .jr (some m) since _ clock) trivial hw (fun _ _ _ e=>by rw[hbl]at e;cases e) ⟨some bm,rfl,bm,hbm,rfl⟩,Stp.setObj hg trivial hb trivial hw⟩
      simp only[Instr.next,Sem.run_bind,hgo,vN,Result.andThen_ok]
      rw[nk,hfO,hfN]
      have hb':c.born=e.2.2:=hec.2.2
      simp[Question.forced,hb',hset]
     ·cases he
   ·cases he
  ·cases he
 ·cases he
end Go.Sk
namespace Go.Sk
variable{P:Program}{ρ:eF}{h:AH}{w:World}
theorem adp(l:ByteArray):bf ρ (.str l.data.toList) (.string l):=by
 obtain⟨⟨x⟩⟩:=l
 exact .str x
theorem Qq:∀{xs:List AV} {s:List UInt8},PU xs=some s->∃ns:List Int,xs=ns.map (AV.int .u8)/\s=ns.map fun n=>UInt8.ofNat n.toNat
 |[],s,h=>by simp only[PU,aac]at h;subst h;exact⟨[],rfl,rfl⟩
 |x::xs,s,h=>by
  cases x with
  |int k n=>
   cases k<;>simp only[PU]at h<;>try (cases h;done)
   simp only[ajS]at h
   obtain⟨r,hr,rfl⟩:=h
   obtain⟨ns,rfl,rfl⟩:=Qq hr
   exact⟨n::ns,rfl,rfl⟩
  |_=>simp[PU]at h
theorem foldl_push_bytes(ns:List Int)(s:ByteArray):ns.foldl (fun r n=>r.push (UInt8.ofNat n.toNat)) s=⟨⟨s.data.toList++ns.map fun n=>UInt8.ofNat n.toNat⟩⟩:=by
 induction ns generalizing s with
 |nil=>obtain⟨⟨x⟩⟩:=s;simp
 |cons n ns ih=>
  rw[akn,ih]
  congr 2
  obtain⟨⟨x⟩⟩:=s
  simp[ByteArray.push]
theorem dz.ints{ns:List Int}{cs:List Value}(h:dz ρ (ns.map (AV.int .u8)) cs):cs=ns.map (Value.int .u8):=by
 induction ns generalizing cs with
 |nil=>have:=h.1;simpa using this
 |cons n ns ih=>
  cases cs with
  |nil=>have:=h.1;simp at this
  |cons c cs=>
   have h1:=h.head
   have h2:=h.tail
   rw[ih h2,ajr]
   congr 1
   cases h1;rfl
theorem PI:∀(ns:List Int),flat (ns.map (AV.int .u8))=ns.map (AV.int .u8)
 |[]=>rfl
 |n::ns=>by rw[ajr,DU,PI ns];rfl
theorem Jl{b off:Nat}{eG:List Value}{T:TypeId}{fr:Nat × Nat}(hb:w.heap[b]?=some (.cells eG.toArray T fr))(hfr:fr=(0,0)\/fr=(eG.length,eG.length+1)) :
  ∃w',(markStringish ⟨b,off,none⟩).run P w= .ok () w'/\Wrote w w' b (.cells eG.toArray T (eG.length,eG.length+1))/\w'.drawn=w.drawn:=by
 have hlt:=lt_of_block hb
 have hdr:(w.freeze ⟨b,eG.length,none⟩ 1).drawn=w.drawn:=rfl
 refine⟨w.freeze ⟨b,eG.length,none⟩ 1,?_,?_,hdr⟩
 ·simp[markStringish,World.shape?,hb]
 ·refine⟨by simp[World.freeze],by simp[World.freeze],by simp[World.freeze],by simp[World.freeze],?_,fun k hk=>?_⟩
  ·simp only[World.freeze,Nat.one_ne_zero,if_false,akE,if_true,hb,ajF]
   rcases hfr with rfl|rfl
   ·simp
   ·simp
  ·simp only[World.freeze,Nat.one_ne_zero,if_false,akE,if_neg (Ne.symm hk)]
theorem U4(hR:Rel ρ h w)(hb:ρ.base<=w.heap.size){src dst:TypeId}{x v:AV}{cx:Value}{h':AH}(he:Ho P src dst x h=some (v,h'))(hx:bf ρ x cx) :
  Gd P ρ h w (convert src dst cx) v h':=by
 unfold Ho at he
 split at he
 ·
  rename_i d k kk n hs hd
  simp only[aac,aaW]at he;obtain⟨rfl,rfl⟩:=he
  cases hx
  exact Gd.pure hR ⟨.int k (k.wrap n),by simp[convert,run_underlying hs,run_underlying hd,Conv.intToInt],.int _ _⟩
 ·rename_i d k n hs hd
  simp only[aac,aaW]at he;obtain⟨rfl,rfl⟩:=he
  cases hx
  exact Gd.pure hR ⟨.string (Utf8.encode n),by simp[convert,run_underlying hs,run_underlying hd,Conv.intToString],adp _⟩
 ·rename_i d s hs hd
  simp only[aac,aaW]at he;obtain⟨rfl,rfl⟩:=he
  cases hx
  exact Gd.pure hR ⟨.string ⟨⟨s⟩⟩,by simp[convert,run_underlying hs,run_underlying hd],.str _⟩
 ·
  rename_i d e s hs hd
  cases hx
  split at he
  ·rename_i hu
   split at he
   ·cases he
   ·rename_i hlim
    simp only[aac,aaW]at he;obtain⟨rfl,rfl⟩:=he
    generalize hq:(Question.appendCap s.length 0 e).cut (w.tape w.drawn (.appendCap s.length 0 e))=cp
    have hcp:s.length<=cp:=by rw[<-hq];simp only[Question.cut];omega
    let eG:List Value:=(s.map fun b=>Value.int .u8 b.toNat)++List.replicate (cp - s.length) (.int .u8 0)
    have hcl:eG.length=cp:=by simp only[eG,aaO,aah,ake];omega
    have hone:∀v∈eG,v.oneCell'=true:=by
     intro v hv
     simp only[eG,acI,ajy,List.mem_replicate]at hv
     rcases hv with⟨b,_,rfl⟩|⟨_,rfl⟩<;>rfl
    let w2:World:={ w with drawn:=w.drawn+1,heap:=w.heap.push (.cells eG.toArray e) }
    have hb2:w2.heap[w.heap.size]?=some (.cells eG.toArray e (0,0)):=by simp[w2]
    obtain⟨w3,hm,hw,_⟩:=Jl (P:=P) (w:=w2) (off:=0) hb2 (.inl rfl)
    have hgr:iM w w3:=by
     refine⟨hw.os,hw.tape,hw.output,by rw[hw.size];simp[w2],fun k hk=>?_⟩
     rw[hw.block k (by omega)]
     show(w.heap.push _)[k]?=_
     rw[Array.getElem?_push,if_neg (by omega)]
    have vO:=hR.grew hgr
    have hget:∀j,j<s.length->eG[j]?=some (.int .u8 ((s.getD j 0).toNat)):=fun j hj=>by
     simp only[eG]
     rw[ajt (by simpa using hj)]
     simp[hj]
    have oF:∀r,ρ.obj r=some w.heap.size->h.get r=some .dead:=fun r hr=>by have:=(hR.bound r _ hr).2.1;omega
    have oG:∀g e' c',h.get g=some (.fD e')->ρ.fD g e'=some (w.heap.size,c')->False:=fun g e' c' _ h2=>by have:=(hR.gW g e' _ h2).2;simp at this
    have hR4:=vO.jh w.heap.size 0 s.length (fun j=>eG.getD j Go.undef)
     (fun j hj=>by
      simp only[World.cell?,hw.here]
      simp[List.getD,hget j hj])
     (fun j hj=>by simp only[List.getD,hget j hj];rfl) (fun o _ _=>hR.gP o) oF (fun g e' c' h1 h2=>(oG g e' c' h1 h2).elim)
    have qx:=Stp.jh (Stp.grew (ρ:=ρ) (h:=h) hgr) w.heap.size 0 s.length (fun j=>eG.getD j Go.undef) (fun o _ _=>hR.gP o) (.inl (ab5 _))
    have hend:Xi (ρ.fK w.heap.size 0 s.length fun j=>eG.getD j Go.undef) h w3 w.heap.size (s.length,cp):=by
     refine⟨hb,⟨eG.toArray,e,(eG.length,eG.length+1),hw.here,by simp[hcl],fun o _ ho=>Ou (.inr rfl) (by simpa using ho)⟩,fun o v q=>?_,oF⟩
     simp only[eF.fK]at q
     split at q
     ·rename_i hh;omega
     ·rw[hR.gP]at q;cases q
    have hR5:=hR4.kC s.length w.heap.size (s.length,cp) hend oG
    have hS5:=Stp.kC hR4 s.length w.heap.size (s.length,cp) (ab5 _) qx
    have hrun:(convert src dst (.string ⟨⟨s⟩⟩)).run P w= .ok (.slice (some ⟨w.heap.size,0,none⟩) s.length cp) w3:=by
     have hsz:(⟨⟨s⟩⟩:ByteArray).size=s.length:=rfl
     have harr:(Array.map (fun b:UInt8=>Value.int .u8 b.toNat) (⟨⟨s⟩⟩:ByteArray).data)++Array.replicate (cp - s.length) (.int .u8 0)=eG.toArray:=by
      apply akP;simp[eG]
     have vQ:(Conv.stringToBytes e ⟨⟨s⟩⟩).run P w= .ok (.slice (some ⟨w.heap.size,0,none⟩) s.length cp) w3:=by
      simp only[Conv.stringToBytes,Sem.run_bind,run_choose,Question.forced,ajB,if_false,Result.andThen_ok,hsz,hq,newRow,run_newObj,harr,Sem.run_pure]
      rw[show(markStringish ⟨w.heap.size,0,none⟩).run P { w with drawn:=w.drawn+1,heap:=w.heap.push (.cells eG.toArray e) }= .ok () w3 from hm]
      rfl
     rw[<-vQ]
     cases d<;>simp[convert,run_underlying hs,run_underlying hd,run_underlying hu]
    refine⟨_,w3,_,hrun,?_,hR5,hS5⟩
    have hlr:dz ((ρ.fK w.heap.size 0 s.length fun j=>eG.getD j Go.undef).eZ h.next s.length (w.heap.size,s.length,cp)) (flat (s.map fun b=>AV.int .u8 b.toNat)) (s.map fun b=>Value.int .u8 b.toNat):=by
     have:flat (s.map fun b=>AV.int .u8 b.toNat)=s.map fun b=>AV.int .u8 b.toNat:=by
      have:=PI (s.map fun b:UInt8=>(b.toNat:Int))
      rw[ale]at this
      exact this
     rw[this]
     exact⟨by simp,fun i hi hj=>by simp only[aj4];exact .int _ _⟩
    have hsz:∀i (hi:i<(s.map fun b=>AV.int .u8 b.toNat).length),(s.map fun b=>AV.int .u8 b.toNat)[i].cells.length=1:=fun i hi=>by simp[AV.cells]
    have:=bf.lK hsz hlr (b:=w.heap.size) (off:=0) (cap:=cp) (fun k v hk=>by
     obtain⟨hk1,hk2⟩:=aao.1 hk
     simp only[aah]at hk1
     rw[show((ρ.fK w.heap.size 0 s.length fun j=>eG.getD j Go.undef).eZ h.next s.length (w.heap.size,s.length,cp)).fQ=(ρ.fK w.heap.size 0 s.length fun j=>eG.getD j Go.undef).fQ from rfl,eF.gX _ _ _ _ _ _ hk1]
     rw[<-hk2]
     simp[List.getD,hget k hk1,hk1]) (.own h.next s.length) (by simpa using hcp) (by
      right
      simp only[aah,ajs,ajL]
      exact⟨cp,eF.fJ _ _ _ _,by omega⟩)
    simpa using this
  ·cases he
 ·
  rename_i a e r off len cap hs hd
  cases hx with|hsl _ _ _ _ b nn mK hln hcap=>
  split at he
  ·rename_i cs T hu hg
   split at he
   ·rename_i hsd
    subst hsd
    obtain rfl:a=e:=by rw[hs]at hd;simpa using hd
    simp only[aac,aaW]at he;obtain⟨rfl,rfl⟩:=he
    obtain⟨eG,fr,hbl,hl,ho,hfr⟩:=hR.obj r _ b hg mK
    obtain⟨w',hm,hw,_⟩:=Jl (P:=P) (off:=off) hbl hfr
    have hR2:=hR.setObj hg trivial mK (o':= .cells cs T) trivial hw (fun _ _ _ e=>by rw[hbl]at e;simp only[aac,Obj.cells.injEq]at e;exact⟨_,_,_,rfl,by rw[<-e.1]⟩) ⟨eG,_,rfl,hl,ho,.inr rfl⟩
    have hS2:=Stp.setObj (o':= .cells cs T) hg trivial mK trivial hw
    have hx:∀q,(h.set r (.cells cs T)).get q=h.get q:=fun q=>by
     rw[AH.ak];split
     ·rename_i e;subst e;exact hg.symm
     ·rfl
    refine⟨.slice (some ⟨b,off,none⟩) len nn,w',ρ,?_,.hsl _ _ _ _ b nn mK hln hcap,hR2.ext (fun q=>(hx q).symm) rfl,⟨hS2.le,hS2.next,hS2.os,hS2.tape,hS2.output,hS2.size,hS2.kept,fun k hk ho=>?_,hS2.old,hS2.fQ⟩⟩
    ·simp[convert,run_underlying hs,run_underlying hu,hm]
    ·rcases ho with⟨q,o,a1,a2,a3⟩|⟨g,e,c,a1,a2⟩
     ·exact .inl ⟨q,o,a1,a2,a3⟩
     ·exact .inr ⟨g,e,c,a1,a2⟩
   ·cases he
  ·cases he
 ·
  rename_i e hs hd hni hns
  split at he
  ·rename_i hu h1
   split at he
   ·rename_i xs hel
    simp only[ajS,aaW]at he
    obtain⟨s,hby,rfl,rfl⟩:=he
    obtain⟨ns,rfl,rfl⟩:=Qq hby
    have hok:Bj 1 (ns.map (AV.int .u8))=true:=by cases ns<;>rfl
    obtain⟨hlen,hsz,eG,hl,ho,hfc⟩:=NG (P:=P) hR hel hx h1 (by omega) hok
    rw[PI]at hl
    have hcs:=hl.ints
    have hfin:(convert src dst cx).run P w=(Conv.bytesToString cx).run P w:=by
     cases hx<;>first
      |(simp[convert,run_underlying hs,run_underlying hd,run_underlying hu];done)
      |exact(hns _ rfl).elim
      |(simp[Df]at hel;done)
    have hstr:(ns.foldl (fun r n=>r.push (UInt8.ofNat n.toNat)) ByteArray.empty)=⟨⟨ns.map fun n=>UInt8.ofNat n.toNat⟩⟩:=by
     rw[foldl_push_bytes];rfl
    refine Gd.pure hR ⟨.string ⟨⟨ns.map fun n=>UInt8.ofNat n.toNat⟩⟩,?_,.str _⟩
    rw[hfin]
    have hall:=hfc ns.length (by simp)
    rw[ajK (by rw[hcs];simp),hcs]at hall
    simp only[aah]at hlen
    have slc:∀(a:Addr) (len cap:Nat),cx= .slice (some a) len cap->(Conv.bytesToString cx).run P w= .ok (.string ⟨⟨ns.map fun n=>UInt8.ofNat n.toNat⟩⟩) w:=by
     rintro a len cap rfl
     have hln:len=ns.length:=by
      simp only[Builtin.lenOf,Sem.run_pure,Result.ok.injEq,and_true]at hlen;exact hlen
     subst hln
     rw[run_bytesToString (P:=P) w a ns.length cap ns (by simpa[Builtin.firstCells]using hall),hstr]
    cases hx with
    |aj=>
     have:ns=[]:=by simpa[Df]using hel
     subst this;rfl
    |eP xs cap b off n s f h1 h2 h3 h4 h5=>exact slc _ _ _ rfl
    |hsl r off len cap b n h1 h2 h3=>exact slc _ _ _ rfl
    |str l=>exact(hns _ rfl).elim
    |_=>simp[Df]at hel
   ·cases he
  ·cases he
 ·cases he
end Go.Sk
