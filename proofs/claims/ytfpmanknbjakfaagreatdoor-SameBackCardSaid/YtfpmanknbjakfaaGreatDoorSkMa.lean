/-
  A global whose cells are known for good: the table that the card lists and strconv.Itoa reads.
-/
import Derived.Calls
import Derived.Lib.ItoaNum
import Derived.AtR
import Derived.Below
import Derived.Laws.Slices
import Derived.ChangeKeysEq
import Derived.Laws.StructEq
import Derived.Laws.CopyRow
import Derived.Laws.Entries
import Derived.Laws.IdiomMaps
import GoSem.Instr.MapUpdate
import Derived.Laws.Cells
import Derived.Laws.Append
import Derived.Laws.IdiomCopy
import Derived.Laws.MakeOwn
import Derived.Laws.BytesString
import Derived.IntWalk
set_option linter.unusedSimpArgs false
set_option linter.unusedVariables false
set_option maxHeartbeats 16000000
namespace Go
theorem aai:type_of% @Option.some.injEq:=@Option.some.injEq
theorem aaj:type_of% @List.getElem?_eq_getElem:=@List.getElem?_eq_getElem
theorem aal:type_of% @List.getD_eq_getElem?_getD:=@List.getD_eq_getElem?_getD
theorem aap:type_of% @Option.some.inj:=@Option.some.inj
theorem aaq:type_of% @List.length_map:=@List.length_map
theorem abf:type_of% @List.eq_nil_of_length_eq_zero:=@List.eq_nil_of_length_eq_zero
theorem abo:type_of% @List.getElem?_eq_some_iff:=@List.getElem?_eq_some_iff
theorem abG:type_of% @List.getElem?_map:=@List.getElem?_map
theorem abO:type_of% @List.length_append:=@List.length_append
theorem abW:type_of% @Prod.mk.injEq:=@Prod.mk.injEq
theorem ab7:type_of% @List.append_assoc:=@List.append_assoc
theorem ace:type_of% @Int.toNat_natCast:=@Int.toNat_natCast
theorem acg:type_of% @List.mem_of_getElem?:=@List.mem_of_getElem?
theorem aci:type_of% @Bool.and_eq_true:=@Bool.and_eq_true
theorem acu:type_of% @Nat.le_refl:=@Nat.le_refl
theorem acA:type_of% @List.mem_append_right:=@List.mem_append_right
theorem acD:type_of% @List.getElem?_eq_none:=@List.getElem?_eq_none
theorem acR:type_of% @Int.toNat_of_nonneg:=@Int.toNat_of_nonneg
theorem acS:type_of% @List.mem_append:=@List.mem_append
theorem acW:type_of% @List.cons_append:=@List.cons_append
theorem adf:type_of% @List.mem_cons:=@List.mem_cons
theorem adk:type_of% @List.nil_append:=@List.nil_append
theorem adP:type_of% @List.all_cons:=@List.all_cons
theorem adS:type_of% @List.drop_eq_getElem_cons:=@List.drop_eq_getElem_cons
theorem adU:type_of% @List.getElem?_append_right:=@List.getElem?_append_right
theorem agV:type_of% @List.mem_append_left:=@List.mem_append_left
theorem aju:type_of% @List.map_cons:=@List.map_cons
theorem ajv:type_of% @List.getElem?_cons_zero:=@List.getElem?_cons_zero
theorem ajw:type_of% @List.mem_singleton:=@List.mem_singleton
theorem ajx:type_of% @Nat.zero_add:=@Nat.zero_add
theorem ajy:type_of% @Nat.zero_le:=@Nat.zero_le
theorem ajz:type_of% @List.length_cons:=@List.length_cons
theorem ajA:type_of% @List.mem_map:=@List.mem_map
theorem ajB:type_of% @List.getElem?_append_left:=@List.getElem?_append_left
theorem ajC:type_of% @List.map_append:=@List.map_append
theorem ajD:type_of% @List.mem_range:=@List.mem_range
theorem ajE:type_of% @List.length_take:=@List.length_take
theorem ajF:type_of% @Nat.lt_of_lt_of_le:=@Nat.lt_of_lt_of_le
theorem ajG:type_of% @List.all_eq_true:=@List.all_eq_true
theorem ajH:type_of% @Nat.le_of_ble_eq_true:=@Nat.le_of_ble_eq_true
theorem ajI:type_of% @Bool.false_eq_true:=@Bool.false_eq_true
theorem ajJ:type_of% @List.drop_eq_nil_of_le:=@List.drop_eq_nil_of_le
theorem ajK:type_of% @Option.bind_some:=@Option.bind_some
theorem ajL:type_of% @Option.map_some:=@Option.map_some
theorem ajM:type_of% @Bool.or_eq_true:=@Bool.or_eq_true
theorem ajN:type_of% @List.flatMap_cons:=@List.flatMap_cons
theorem ajO:type_of% @Nat.mul_one:=@Nat.mul_one
theorem ajP:type_of% @List.append_nil:=@List.append_nil
theorem ajQ:type_of% @List.take_of_length_le:=@List.take_of_length_le
theorem ajR:type_of% @Array.getElem?_eq_some_iff:=@Array.getElem?_eq_some_iff
theorem ajS:type_of% @List.getElem_cons_zero:=@List.getElem_cons_zero
theorem ajT:type_of% @List.getElem?_cons_succ:=@List.getElem?_cons_succ
theorem ajU:type_of% @List.take_append_drop:=@List.take_append_drop
theorem ajV:type_of% @Nat.lt_or_ge:=@Nat.lt_or_ge
theorem ajW:type_of% @Nat.add_mul:=@Nat.add_mul
theorem ajX:type_of% @List.map_congr_left:=@List.map_congr_left
theorem ajY:type_of% @Nat.mul_le_mul_right:=@Nat.mul_le_mul_right
theorem ajZ:type_of% @List.getElem?_set:=@List.getElem?_set
theorem aj0:type_of% @List.cons.injEq:=@List.cons.injEq
theorem aj1:type_of% @List.dropLast_concat_getLast:=@List.dropLast_concat_getLast
theorem aj2:type_of% @List.getElem?_replicate:=@List.getElem?_replicate
theorem aj3:type_of% @Nat.le_trans:=@Nat.le_trans
theorem aj4:type_of% @Option.map_eq_some_iff:=@Option.map_eq_some_iff
theorem aj5:type_of% @Int.lt_or_le:=@Int.lt_or_le
theorem aj6:type_of% @List.drop_zero:=@List.drop_zero
theorem aj7:type_of% @List.ext_getElem?:=@List.ext_getElem?
theorem aj8:type_of% @List.take_add_one:=@List.take_add_one
theorem aj9:type_of% @List.foldl_cons:=@List.foldl_cons
theorem akb:type_of% @List.length_drop:=@List.length_drop
theorem akc:type_of% @List.length_singleton:=@List.length_singleton
theorem akd:type_of% @List.mem_mergeSort:=@List.mem_mergeSort
theorem ake:type_of% @List.mem_of_mem_take:=@List.mem_of_mem_take
theorem akf:type_of% @List.getElem_map:=@List.getElem_map
theorem akg:type_of% @Array.getD_eq_getD_getElem?:=@Array.getD_eq_getD_getElem?
theorem akh:type_of% @Bool.false_and:=@Bool.false_and
theorem aki:type_of% @List.length_replicate:=@List.length_replicate
theorem akj:type_of% @List.map_map:=@List.map_map
theorem akk:type_of% @Nat.eq_of_beq_eq_true:=@Nat.eq_of_beq_eq_true
theorem akl:type_of% @List.mem_iff_getElem?:=@List.mem_iff_getElem?
theorem akm:type_of% @List.getElem?_range:=@List.getElem?_range
theorem akn:type_of% @List.length_eq_zero_iff:=@List.length_eq_zero_iff
theorem ako:type_of% @List.length_pos_iff:=@List.length_pos_iff
theorem akp:type_of% @List.length_nil:=@List.length_nil
theorem akq:type_of% @List.pairwise_iff_getElem:=@List.pairwise_iff_getElem
theorem akr:type_of% @List.mem_cons_of_mem:=@List.mem_cons_of_mem
theorem aks:type_of% @List.map_set:=@List.map_set
theorem akt:type_of% @List.set_append_right:=@List.set_append_right
theorem aku:type_of% @List.all_nil:=@List.all_nil
theorem akv:type_of% @List.getElem_mem:=@List.getElem_mem
theorem akw:type_of% @List.take_length:=@List.take_length
theorem akx:type_of% @Nat.lt_irrefl:=@Nat.lt_irrefl
theorem aky:type_of% @Nat.add_assoc:=@Nat.add_assoc
theorem akz:type_of% @List.map_nil:=@List.map_nil
theorem akA:type_of% @Array.getElem?_eq_none:=@Array.getElem?_eq_none
theorem akB:type_of% @Nat.testBit_or:=@Nat.testBit_or
theorem akC:type_of% @List.nodup_cons:=@List.nodup_cons
theorem akD:type_of% @Nat.le_of_not_lt:=@Nat.le_of_not_lt
theorem akE:type_of% @List.perm_middle:=@List.perm_middle
theorem akF:type_of% @Bool.not_eq_true':=@Bool.not_eq_true'
theorem akG:type_of% @List.length_range:=@List.length_range
theorem akH:type_of% @List.range_succ:=@List.range_succ
theorem akI:type_of% @List.pairwise_cons:=@List.pairwise_cons
theorem akJ:type_of% @List.length_range':=@List.length_range'
theorem akK:type_of% @Option.getD_some:=@Option.getD_some
theorem akL:type_of% @List.pairwise_map:=@List.pairwise_map
theorem akM:type_of% @List.foldl_append:=@List.foldl_append
theorem akN:type_of% @Array.getElem?_modify:=@Array.getElem?_modify
theorem akO:type_of% @List.perm_append_comm:=@List.perm_append_comm
theorem akP:type_of% @List.getElem_append_left:=@List.getElem_append_left
theorem akQ:type_of% @List.filter_append:=@List.filter_append
theorem akR:type_of% @List.drop_length:=@List.drop_length
theorem akS:type_of% @List.pairwise_append:=@List.pairwise_append
theorem akT:type_of% @Bool.true_and:=@Bool.true_and
theorem akU:type_of% @List.filter_cons_of_pos:=@List.filter_cons_of_pos
theorem akV:type_of% @List.filter_cons_of_neg:=@List.filter_cons_of_neg
theorem akW:type_of% @Bool.and_false:=@Bool.and_false
theorem akX:type_of% @List.take_zero:=@List.take_zero
theorem akY:type_of% @List.getElem_take:=@List.getElem_take
theorem akZ:type_of% @Array.ext':=@Array.ext'
theorem ak0:type_of% @List.nodup_append:=@List.nodup_append
theorem ak1:type_of% @List.map_const':=@List.map_const'
theorem ak2:type_of% @List.take_succ_cons:=@List.take_succ_cons
theorem ak3:type_of% @List.drop_succ_cons:=@List.drop_succ_cons
theorem ak4:type_of% @List.replicate_succ:=@List.replicate_succ
theorem ak5:type_of% @List.Perm.append_right:=@List.Perm.append_right
theorem ak6:type_of% @List.perm_ext_iff_of_nodup:=@List.perm_ext_iff_of_nodup
theorem ak7:type_of% @Option.isSome_none:=@Option.isSome_none
theorem ak8:type_of% @List.set_cons_zero:=@List.set_cons_zero
theorem ak9:type_of% @List.set_cons_succ:=@List.set_cons_succ
theorem ala:type_of% @List.map_replicate:=@List.map_replicate
theorem alb:type_of% @Nat.lt_or_eq_of_le:=@Nat.lt_or_eq_of_le
theorem alc:type_of% @Decidable.byContradiction:=@Decidable.byContradiction
theorem ald:type_of% @Nat.mul_le_mul:=@Nat.mul_le_mul
theorem ale:type_of% @Classical.byContradiction:=@Classical.byContradiction
theorem alf:type_of% @Bool.or_eq_false_iff:=@Bool.or_eq_false_iff
theorem alg:type_of% @Nat.sub_self:=@Nat.sub_self
theorem alh:type_of% @Bool.not_true:=@Bool.not_true
theorem ali:type_of% @List.mem_map_of_mem:=@List.mem_map_of_mem
theorem alj:type_of% @List.mergeSort_perm:=@List.mergeSort_perm
theorem alk:type_of% @Nat.blt_eq:=@Nat.blt_eq
theorem alm:type_of% @List.getElem?_take:=@List.getElem?_take
theorem aln:type_of% @Nat.eq_zero_or_pos:=@Nat.eq_zero_or_pos
theorem alo:type_of% @Nat.add_zero:=@Nat.add_zero
theorem alp:type_of% @List.length_set:=@List.length_set
theorem alq:type_of% @List.mem_filter:=@List.mem_filter
theorem alr:type_of% @Nat.one_mul:=@Nat.one_mul
theorem als:type_of% @Nat.mul_comm:=@Nat.mul_comm
theorem alu:type_of% @Nat.zero_mul:=@Nat.zero_mul
theorem alv:type_of% @Ne.symm:=@Ne.symm
end Go
namespace Go.Sk
def vH:Nat->Option (Array Value):=fun b=>if b=1 then some (Lib.pow10Tab.map fun z=>Value.int .u64 z).toArray else none
end Go.Sk
namespace Go.Sk
inductive Id where
 |h
 |o (p:Id)
 |i (p:Id)
 deriving DecidableEq
def Id.nat:Id->Nat
 | .h=>1
 | .o p=>2*p.nat
 | .i p=>2*p.nat+1
def Id.succ:Id->Id
 | .h=> .o .h
 | .o p=> .i p
 | .i p=> .o p.succ
theorem Id.dz:∀p:Id,p.succ.nat=p.nat+1
 | .h=>rfl
 | .o p=>rfl
 | .i p=>by simp[Id.succ,Id.nat,p.dz];omega
inductive gV (α:Type) where
 |e
 |n (l:gV α) (v:Option α) (r:gV α)
def gV.get{α:Type}:gV α->Id->Option α
 | .e,_=>none
 | .n _ v _,.h=>v
 | .n l _ _,.o p=>l.get p
 | .n _ _ r,.i p=>r.get p
def gV.set{α:Type}:Id->gV α->α->gV α
 | .h,.e,a=> .n .e (some a) .e
 | .h,.n l _ r,a=> .n l (some a) r
 | .o p,.e,a=> .n (gV.set p .e a) none .e
 | .o p,.n l v r,a=> .n (gV.set p l a) v r
 | .i p,.e,a=> .n .e none (gV.set p .e a)
 | .i p,.n l v r,a=> .n l v (gV.set p r a)
theorem gV.ak{α:Type}(a:α):∀(p:Id) (t:gV α) (q:Id),(gV.set p t a).get q=if q=p then some a else t.get q:=by
 intro p
 induction p with
 |h=>intro t q;cases t<;>cases q<;>simp[gV.set,gV.get]
 |o p ih=>intro t q;cases t<;>cases q<;>simp[gV.set,gV.get,ih]
 |i p ih=>intro t q;cases t<;>cases q<;>simp[gV.set,gV.get,ih]
inductive oF where
 |func (f:FuncId)
 |yield (l:Id)
 deriving DecidableEq
inductive Cap where
 |lit
 |full
 |own (g:Id) (e:Nat)
 |unk
 |pat (k m:Nat)
 deriving DecidableEq
inductive Gg where
 |known (c:Nat)
 |room (s:Nat)
 |unk
 deriving DecidableEq
inductive AV where
 |bool (b:Bool)
 |int (k:IntKind) (n:Int)
 |str (l:List UInt8)
 |gF
 |ptr (r:Id) (off:Nat)
 |ref (v:AV)
 |aj
 |fC (xs:List AV) (c:Cap)
 |hsl (r:Id) (off len:Nat) (cap:Gg)
 |fU
 |map (r:Id)
 |fn (f:oF) (first captured:List AV)
 |iq
 |iface (t:TypeId) (v:AV)
 |fH
 |agg (cs:List AV)
 |fD (vs:List AV)
instance:Inhabited AV:=⟨.fD []⟩
def Aj:AV:= .fD []
def AV.cells:AV->List AV
 | .agg cs=>cs
 |v=>[v]
def O4(k i:Nat):AV:=
 match k with
 |0=> .int .u8 (((282+7*i) % 256:Nat):Int)
 |1=> .int .i64 ((9437185+i:Nat):Int)
 |2=> .agg [.str [],.int .i64 ((9437185+i:Nat):Int)]
 |3=> .agg [.int .i64 0,.int .i64 0,.int .i64 0,.int .i64 ((9437185+i:Nat):Int)]
 |4=> .agg [.int .i64 0,.int .i64 ((9437185+i:Nat):Int)]
 |5=> .agg [.int .i64 ((9437185+i:Nat):Int),.int .i64 0]
 |_=> .int .i64 0
def KQ(k:Nat):Nat:=
 match k with
 |0=>1
 |1=>1
 |2=>2
 |3=>4
 |4=>2
 |5=>2
 |_=>1
def QB(k i m:Nat):List AV:=(List.range m).map fun j=>O4 k (i+j)
theorem R8(k i:Nat):(O4 k i).cells.length=KQ k:=by
 unfold O4 KQ;split<;>rfl
theorem WZ(k i m:Nat):(QB k i m).length=m:=by simp[QB]
theorem abM(k i m j:Nat)(hj:j<(QB k i m).length):(QB k i m)[j]=O4 k (i+j):=by simp[QB]
inductive AO where
 |cells (cs:List AV) (T:TypeId)
 |map (es:List (AV × AV × Nat)) (clock:Nat)
 |jQ (s:List UInt8) (pos:Nat)
 |jH (m:Option Id) (since:Nat) (seen:List Nat) (stepped:Nat)
 |loop (st:LoopState) (pending:Option Code) (fn:FuncId) (tm:List AV) (ps:Array Tmp) (assign body:Code) (defs:Id)
 |defs (open_:Bool)
 |fM (e:Nat)
 |dead
structure AH where
 t:gV AO
 next:Id
def AH.empty:AH:=⟨.e,.h⟩
def AH.get(h:AH)(r:Id):Option AO:=h.t.get r
def AH.set(h:AH)(r:Id)(o:AO):AH:=⟨gV.set r h.t o,h.next⟩
def AH.alloc(h:AH)(o:AO):AH:=⟨gV.set h.next h.t o,h.next.succ⟩
theorem AH.ak(h:AH)(r q:Id)(o:AO):(h.set r o).get q=if q=r then some o else h.get q:=gV.ak ..
theorem AH.au(h:AH)(q:Id)(o:AO):(h.alloc o).get q=if q=h.next then some o else h.get q:=gV.ak ..
theorem AH.fP(h:AH)(r:Id)(o:AO):(h.set r o).next=h.next:=rfl
theorem AH.bn(h:AH)(o:AO):(h.alloc o).next=h.next.succ:=rfl
def Fy:Value->Option AV
 | .bool b=>some (.bool b)
 | .int k n=>some (.int k n)
 | .string s=>some (.str s.data.toList)
 | .pointer none=>some .gF
 | .slice none 0 0=>some .aj
 | .map none=>some .fU
 | .nilFunc=>some .iq
 | .nilIface=>some .fH
 |_=>none
def ofConst:Value->Option AV
 | .agg cs=>(cs.toList.mapM Fy).map .agg
 | .tuple vs=>if vs.size=0 then some (.fD [])else none
 |v=>Fy v
def Ez(P:Program)(t:TypeId):Option Bool:=
 match P.underlying t with
 |some (.struct _)=>some true
 |some (.array _ _)=>some true
 |some _=>some false
 |none=>none
def sizeT(P:Program)(t:TypeId):Option Nat:=(P.info? t).map (·.size)
def BL(P:Program)(t:TypeId):Option AV:=((P.info? t).bind (·.zero)).bind ofConst
def Hq(P:Program)(t:TypeId)(cs:List AV)(off:Nat):Option AV:=
 match Ez P t with
 |some true=>(sizeT P t).map fun n=> .agg ((cs.drop off).take n)
 |some false=>cs[off]?
 |none=>none
def aia(P:Program)(t:TypeId)(cs:List AV):Option AV:=
 match Ez P t,cs with
 |some true,cs=>some (.agg cs)
 |some false,[v]=>some v
 |_,_=>none
def Ie(P:Program)(eq:TypeId->AV->AV->Option Bool)(xs ys:List AV):List Field->Option Bool
 |[]=>some true
 |f::fs=>
  if f.name≠ "_" then
   match Hq P f.type xs f.offset,Hq P f.type ys f.offset with
   |some a,some b=>
    match eq f.type a b with
    |some true=>Ie P eq xs ys fs
    |some false=>some false
    |none=>none
   |_,_=>none
  else Ie P eq xs ys fs
def K7(P:Program)(eq:AV->AV->Option Bool)(elem:TypeId)(n:Nat)(xs ys:List AV):Nat->Nat->Option Bool
 |0,_=>some true
 |k+1,i=>
  match Hq P elem xs (i*n),Hq P elem ys (i*n)with
  |some a,some b=>
   match eq a b with
   |some true=>K7 P eq elem n xs ys k (i+1)
   |some false=>some false
   |none=>none
  |_,_=>none
def E9(P:Program):Nat->TypeId->AV->AV->Option Bool
 |0,_,_,_=>none
 |d+1,t,x,y=>
  match P.underlying t with
  |some .bool=>match x,y with| .bool a,.bool b=>some (a==b)|_,_=>none
  |some (.int _)=>match x,y with| .int k a,.int k' b=>if k=k' then some (a==b)else none|_,_=>none
  |some .string=>match x,y with| .str a,.str b=>some (a==b)|_,_=>none
  |some (.pointer e)=>
   match x,y with
   | .gF,.gF=>some true
   | .gF,.ptr _ _=>some false
   | .ptr _ _,.gF=>some false
   | .gF,.ref _=>some false
   | .ref _,.gF=>some false
   | .ptr a i,.ptr b j=>if a=b/\(sizeT P e).any (· ≠0)then some (i==j)else none
   |_,_=>none
  |some (.interface _)=>
   match x,y with
   | .fH,.fH=>some true
   | .fH,.iface _ _=>some false
   | .iface _ _,.fH=>some false
   | .iface tx vx,.iface ty vy=>
    if tx≠ty then some false
    else if(P.info? tx).any (·.comparable)then E9 P d tx vx vy else none
   |_,_=>none
  |some (.struct fs)=>
   match x,y with
   | .agg xs,.agg ys=>if P.stoodInHeld t then none else Ie P (E9 P d) xs ys fs.toList
   |_,_=>none
  |some (.array len elem)=>
   match x,y,sizeT P elem with
   | .agg xs,.agg ys,some n=>K7 P (E9 P d elem) elem n xs ys len 0
   |_,_,_=>none
  |some (.slice _)=>
   match x,y with
   | .aj,.aj=>some true
   | .aj,.fC _ _=>some false
   | .aj,.hsl _ _ _ _=>some false
   | .fC _ _,.aj=>some false
   | .hsl _ _ _ _,.aj=>some false
   |_,_=>none
  |some (.map _ _)=>
   match x,y with
   | .fU,.fU=>some true
   | .fU,.map _=>some false
   | .map _,.fU=>some false
   |_,_=>none
  |some (.func _ _ _)=>
   match x,y with
   | .iq,.iq=>some true
   | .iq,.fn _ _ _=>some false
   | .fn _ _ _,.iq=>some false
   |_,_=>none
  |_=>none
def nT(P:Program)(t:TypeId)(x y:AV):Option Bool:=E9 P 10000 t x y
def plainCell:AV->Bool
 | .bool _=>true
 | .int _ _=>true
 | .str _=>true
 |_=>false
def Kr(P:Program)(ok:TypeId->AV->Bool)(cs:List AV):List Field->Bool
 |[]=>true
 |f::fs=>(if f.name≠ "_" then(match Hq P f.type cs f.offset with|some v=>ok f.type v|none=>false)else true)&&Kr P ok cs fs
def LK(P:Program)(ok:AV->Bool)(elem:TypeId)(n:Nat)(cs:List AV):Nat->Nat->Bool
 |0,_=>true
 |k+1,i=>(match Hq P elem cs (i*n)with|some v=>ok v|none=>false)&&LK P ok elem n cs k (i+1)
def F8(P:Program):Nat->TypeId->AV->Bool
 |0,_,_=>false
 |d+1,t,v=>
  match P.underlying t with
  |some (.interface _)=>false
  |some (.array len elem)=>match v,sizeT P elem with| .agg cs,some n=>LK P (F8 P d elem) elem n cs len 0|_,_=>false
  |some (.struct fs)=>match v with| .agg cs=>Kr P (F8 P d) cs fs.toList|_=>false
  |some _=>true
  |none=>false
def Dk:AV->AV->Bool
 | .bool a,.bool b=>a==b
 | .int j a,.int k b=>j==k&&a==b
 | .str a,.str b=>a==b
 |_,_=>false
def BR:List AV->List AV->Bool
 |[],[]=>true
 |a::l,b::r=>Dk a b&&BR l r
 |_,_=>false
def D5:AV->AV->Bool
 | .agg a,.agg b=>BR a b
 |a,b=>Dk a b
def NT(eq:AV->Option Bool)(k:AV):List (AV × AV × Nat)->Nat->Option (Option (Nat × AV × Nat))
 |[],_=>some none
 |(k',v,b)::es,i=>
  match eq k' with
  |some true=>if D5 k k' then some (some (i,v,b))else none
  |some false=>NT eq k es (i+1)
  |none=>none
def ES(P:Program)(kt:TypeId)(k:AV)(es:List (AV × AV × Nat)):Option (Option (Nat × AV × Nat)):=
 if F8 P 10000 kt k then NT (fun e=>nT P kt k e) k es 0 else none
def JQ(op:BinOp)(k:IntKind)(x y:Int):Option Int:=
 let a:=BitVec.ofInt k.bits x
 let b:=BitVec.ofInt k.bits y
 match op with
 | .and=>some (k.wrap (a&&&b).toNat)
 | .or=>some (k.wrap (a|||b).toNat)
 | .xor=>some (k.wrap (a ^^^ b).toNat)
 | .andNot=>some (k.wrap (a&&& ~~~b).toNat)
 |_=>none
def Ku(op:BinOp)(k:IntKind)(a b:Int):Option AV:=
 match op with
 | .add=>some (.int k (k.wrap (a+b)))
 | .sub=>some (.int k (k.wrap (a - b)))
 | .mul=>some (.int k (k.wrap (a*b)))
 | .quo=>if b=0 then none else some (.int k (k.wrap (a.tdiv b)))
 | .rem=>if b=0 then none else some (.int k (a.tmod b))
 | .eql=>some (.bool (a==b))
 | .neq=>some (.bool (a != b))
 | .lss=>some (.bool (a<b))
 | .leq=>some (.bool (a<=b))
 | .gtr=>some (.bool (a>b))
 | .geq=>some (.bool (a>=b))
 | .and=>(JQ .and k a b).map (.int k)
 | .or=>(JQ .or k a b).map (.int k)
 | .xor=>(JQ .xor k a b).map (.int k)
 | .andNot=>(JQ .andNot k a b).map (.int k)
 |_=>none
def UZ(op:BinOp)(k:IntKind)(x y:Int):Option AV:=
 if y<0 then none else
 let n:=min y.toNat k.bits
 match op with
 | .shl=>some (.int k (k.wrap (x*2 ^ n)))
 | .shr=>some (.int k (x.fdiv (2 ^ n)))
 |_=>none
def YV(op:BinOp)(x y:List UInt8):Option AV:=
 match op with
 | .add=>if x.length+y.length<=9223372036854775807 then some (.str (x++y))else none
 | .eql=>some (.bool (x==y))
 | .neq=>some (.bool (!(x==y)))
 | .lss=>some (.bool (Op.bytesLess x y))
 | .leq=>some (.bool (Op.bytesLess x y||x==y))
 | .gtr=>some (.bool (!(Op.bytesLess x y||x==y)))
 | .geq=>some (.bool (!Op.bytesLess x y))
 |_=>none
def Ip(P:Program)(t:TypeId)(x y:Operand)(a b:AV):Bool:=
 match a,b with
 | .fH,.fH=>(match x with| .const _=>true|_=>false)||(match y with| .const _=>true|_=>false)
 | .agg _,.agg _=>!P.eqGuardType P.depth t
 |_,_=>true
def YH(P:Program)(op:BinOp)(t:TypeId)(ox oy:Operand)(x y:AV):Option AV:=
 if Ip P t ox oy x y then
  match op with
  | .eql=>(nT P t x y).map .bool
  | .neq=>(nT P t x y).map fun b=> .bool (!b)
  |_=>none
 else none
def Rt(P:Program)(op:BinOp)(t:TypeId)(ox oy:Operand)(x y:AV):Option AV:=
 match x,y with
 | .int k a,.int k' b=>if k=k' then Ku op k a b else none
 | .str a,.str b=>YV op a b
 |x,y=>YH P op t ox oy x y
def FH(P:Program)(op:BinOp)(t:TypeId)(ox oy:Operand)(x y:AV):Option AV:=
 match op with
 | .shl=>match x,y with| .int k a,.int _ b=>UZ .shl k a b|_,_=>none
 | .shr=>match x,y with| .int k a,.int _ b=>UZ .shr k a b|_,_=>none
 |op=>Rt P op t ox oy x y
def WY(op:UnOp)(x:AV):Option AV:=
 match op,x with
 | .neg,.int k n=>Ku .sub k 0 n
 | .xor,.int k n=>Ku .xor k (if k.signed then -1 else k.max) n
 | .not,.bool b=>some (.bool !b)
 |_,_=>none
end Go.Sk
namespace Go.Sk
inductive Aq where
 |ret (v:AV)
 |jl (v:AV)
structure Cx where
 P:Program
 mu:FuncId->Nat->Bool
 call:oF->List AV->AH->Option (Aq × AH)
def Av(tm:List AV):Operand->Option AV
 | .tmp t=>some (tm.getD t Aj)
 | .const v=>ofConst v
 | .global _=>none
 | .func f=>some (.fn (.func f) [] [])
def Ay(P:Program)(t:TypeId)(p:AV)(h:AH):Option AV:=
 match p with
 | .ptr r off=>
  match h.get r,Ez P t,sizeT P t with
  |some (.cells cs _),some true,some n=>if off+n<=cs.length then some (.agg ((cs.drop off).take n))else none
  |some (.cells cs _),some false,some _=>cs[off]?
  |_,_,_=>none
 | .ref v=>
  match Ez P t,sizeT P t,v with
  |some true,some n,.agg cs=>if cs.length=n then some (.agg cs)else none
  |some false,some _,.agg _=>none
  |some false,some _,v=>some v
  |_,_,_=>none
 |_=>none
def setCells{α:Type}:List α->Nat->List α->List α
 |cs,_,[]=>cs
 |cs,off,v::vs=>setCells (cs.set off v) (off+1) vs
def AV.scalar:AV->Bool
 | .agg _=>false
 | .fD _=>false
 |_=>true
def Ce(P:Program)(t:TypeId)(p v:AV)(h:AH):Option AH:=
 match p with
 | .ptr r off=>
  match h.get r,sizeT P t with
  |some (.cells cs T),some n=>if v.cells.length=n/\off+n<=cs.length/\v.cells.all AV.scalar=true then some (h.set r (.cells (setCells cs off v.cells) T))else none
  |_,_=>none
 |_=>none
def La(elem:TypeId)(v:AV)(h:AH):Option (AV × AH):=if v.cells.all AV.scalar=true then some (.ptr h.next 0,h.alloc (.cells v.cells elem))else none
def CQ(P:Program)(elem:TypeId)(x:AV)(h:AH):Option (List AV):=
 match x with
 | .aj=>some []
 | .fC xs _=>some xs
 | .hsl r off len _=>
  match h.get r,Ez P elem,sizeT P elem with
  |some (.cells cs _),some true,some n=>if off+len*n<=cs.length then some ((List.range len).map fun i=> .agg ((cs.drop (off+i*n)).take n))else none
  |some (.cells cs _),some false,some 1=>if off+len<=cs.length then some ((cs.drop off).take len)else none
  |_,_,_=>none
 | .str l=>some (l.map fun b=> .int .u8 b.toNat)
 |_=>none
def Ug(place:Nat->Option (Nat × Nat))(cells:List AV):List (Nat × AV)->Option (List AV)
 |[]=>some cells
 |(i,v)::rest=>
  match place i with
  |none=>none
  |some (off,size)=>
   if v.cells.length≠size||off+v.cells.length>cells.length then none
   else Ug place (setCells cells off v.cells) rest
def adW(P:Program)(fs:Array Field):Option (List (Nat × Nat)):=fs.toList.mapM fun f=>(sizeT P f.type).map fun n=>(f.offset,n)
def RV(P:Program)(t:TypeId)(parts:List (Nat × AV)):Option AV:=
 match BL P t,P.underlying t with
 |some z,some (.struct fs)=>
  match adW P fs with
  |some pl=>(Ug (pl[·]?) z.cells parts).map .agg
  |none=>none
 |some z,some (.array _ elem)=>
  match sizeT P elem with
  |some n=>(Ug (fun i=>some (i*n,n)) z.cells parts).map .agg
  |none=>none
 |_,_=>none
def FT(n:Nat)(xs:List AV):List (Nat × AV)->Option (List AV)
 |[]=>some xs
 |(i,v)::rest=>if v.cells.length=n/\i<xs.length/\v.cells.all AV.scalar=true then FT n (xs.set i v) rest else none
def flat(xs:List AV):List AV:=xs.flatMap AV.cells
def F5(P:Program)(mu:Bool)(t:TypeId)(len:Nat)(parts:List (Nat × AV))(h:AH):Option (AV × AH):=
 match P.underlying t with
 |some (.slice elem)=>
  match sizeT P elem,BL P elem with
  |some n,some z=>
   if n=0\/len*n>16777216\/z.cells.length≠n\/z.cells.all AV.scalar=false then none else
   match FT n (List.replicate len z) parts with
   |some xs=>if mu then some (.hsl h.next 0 len (.known len),h.alloc (.cells (flat xs) elem))else some (.fC xs .lit,h)
   |none=>none
  |_,_=>none
 |_=>none
def FW(P:Program)(t:TypeId)(l c:AV)(h:AH):Option (AV × AH):=
 match P.underlying t,l,c with
 |some (.slice elem),.int _ l,.int _ c=>
  match sizeT P elem,BL P elem with
  |some n,some z=>
   if 0<=l/\l<=c/\z.cells.length=n/\z.cells.all AV.scalar=true/\0<n/\P.bytesOf elem*c<=140737488355328/\c<=140737488355328 then
    some (.hsl h.next 0 l.toNat (.known c.toNat),h.alloc (.cells ((List.replicate c.toNat z).flatMap AV.cells) elem))
   else none
  |_,_=>none
 |_,_,_=>none
def Ba(n:Nat):List AV->Bool
 |[]=>true
 |y::_=>y.cells.length==n
def AX(P:Program)(mu:Bool)(argTypes:Array TypeId)(s x:AV)(h:AH):Option (AV × AH):=
 match argTypes[0]?,argTypes[1]? with
 |some t,some tx=>
  match P.underlying t,P.underlying tx with
  |_,some (.int _)=>none
  |some (.slice elem),some _=>
   match CQ P elem x h,sizeT P elem,BL P elem with
   |some ys,some n,some z=>
    if n=0\/Ba n ys=false\/z.cells.length≠n\/z.cells.all AV.scalar=false then none else
    match s with
    | .aj=>
     if ys.length=0 then some (.aj,h)
     else if ys.length*P.bytesOf elem>140737488355328\/ys.length>140737488355328 then none
     else if mu then some (.hsl h.next 0 ys.length (.room n),h.alloc (.cells (flat ys) elem))
     else some (.fC ys (.own h.next ys.length),h.alloc (.fM ys.length))
    | .fC xs c=>
     if ys.length=0 then some (s,h)
     else if(xs.length+ys.length)*P.bytesOf elem>140737488355328\/xs.length+ys.length>140737488355328\/Ba n xs=false then none
     else match c with
      | .own g e=>
       match h.get g with
       |some (.fM e')=>if e=e'/\xs.length≠0 then some (.fC (xs++ys) (.own g (e+ys.length)),h.set g (.fM (e+ys.length)))else none
       |_=>none
      | .unk=>none
      | .pat _ _=>none
      |_=>
       if mu then some (.hsl h.next 0 (xs.length+ys.length) (.room n),h.alloc (.cells (flat (xs++ys)) elem))
       else some (.fC (xs++ys) (.own h.next (xs.length+ys.length)),h.alloc (.fM (xs.length+ys.length)))
    | .hsl r off len (.known cap)=>
     if ys.length=0 then some (s,h)
     else if(len+ys.length)*P.bytesOf elem>140737488355328\/len+ys.length>140737488355328 then none
     else match h.get r with
      |some (.cells cs T)=>
       if off+cap*n>cs.length then none
       else if len+ys.length<=cap then some (.hsl r off (len+ys.length) (.known cap),h.set r (.cells (setCells cs (off+len*n) (flat ys)) T))
       else if mu then some (.hsl h.next 0 (len+ys.length) (.room n),h.alloc (.cells ((cs.drop off).take (len*n)++flat ys) elem))
       else match CQ P elem s h with
        |some xs=>if Ba n xs=true/\xs.length=len then some (.fC (xs++ys) (.own h.next (len+ys.length)),h.alloc (.fM (len+ys.length)))else none
        |none=>none
      |_=>none
    | .hsl r off len (.room rs)=>
     if ys.length=0 then some (s,h)
     else if(len+ys.length)*P.bytesOf elem>140737488355328\/len+ys.length>140737488355328 then none
     else match h.get r with
      |some (.cells cs T)=>
       if len*n<=cs.length/\off=0/\rs=n/\T=elem then some (.hsl h.next 0 (len+ys.length) (.room n),(h.set r .dead).alloc (.cells (cs.take (len*n)++flat ys) T))
       else none
      |_=>none
    |_=>none
   |_,_,_=>none
  |_,_=>none
 |_,_=>none
def vI(P:Program)(t:TypeId)(x:AV)(h:AH):Option AV:=
 match P.underlying t,x with
 |some .string,.str l=>some (.int .i64 l.length)
 |some (.array n _),_=>some (.int .i64 n)
 |some (.slice _),.aj=>some (.int .i64 0)
 |some (.slice _),.fC xs _=>some (.int .i64 xs.length)
 |some (.slice _),.hsl _ _ n _=>some (.int .i64 n)
 |some (.map _ _),.fU=>some (.int .i64 0)
 |some (.map _ _),.map r=>match h.get r with|some (.map es _)=>some (.int .i64 es.length)|_=>none
 |_,_=>none
def agn(P:Program)(t:TypeId)(x:AV):Option AV:=
 match P.underlying t,x with
 |some (.slice _),.aj=>some (.int .i64 0)
 |some (.slice _),.fC xs .lit=>some (.int .i64 xs.length)
 |some (.slice _),.fC xs .full=>some (.int .i64 xs.length)
 |some (.slice _),.hsl _ _ _ (.known c)=>some (.int .i64 c)
 |_,_=>none
def acp(P:Program)(argTypes:Array TypeId)(d x:AV)(h:AH):Option (AV × AH):=
 match argTypes[0]? with
 |some t=>
  match P.underlying t with
  |some (.slice elem)=>
   match CQ P elem x h,sizeT P elem,d with
   |some ys,some n,.aj=>if n=0\/Ba n ys=false then none else some (.int .i64 0,h)
   |some ys,some n,.hsl r off len _=>
    match h.get r with
    |some (.cells cs T)=>
     let m:=Nat.min ys.length len
     if n=0\/Ba n ys=false\/off+len*n>cs.length then none
     else some (.int .i64 m,h.set r (.cells (setCells cs off (flat (ys.take m))) T))
    |_=>none
   |_,_,_=>none
  |_=>none
 |none=>none
def Zu:AV->AV->Option AV
 | .int k x,.int _ y=>some (.int k (if y>x then y else x))
 |_,_=>none
def Zw:AV->AV->Option AV
 | .int k x,.int _ y=>some (.int k (if y<x then y else x))
 |_,_=>none
def TV(f:AV->AV->Option AV):AV->List AV->Option AV
 |x,[]=>some x
 |x,y::r=>match f x y with|some z=>TV f z r|none=>none
def Ll(m:AV)(h:AH):Option (List (AV × AV × Nat)):=
 match m with
 | .fU=>some []
 | .map r=>match h.get r with|some (.map es _)=>some es|_=>none
 |_=>none
def Eb(P:Program)(t:TypeId)(m k:AV)(commaOk:Bool)(h:AH):Option AV:=
 match P.underlying t with
 |some (.map kt et)=>
  match Ll m h with
  |some es=>
   match ES P kt k es with
   |some (some (_,v,_))=>some (if commaOk then .fD [v,.bool true]else v)
   |some none=>(BL P et).map fun z=>if commaOk then .fD [z,.bool false]else z
   |none=>none
  |none=>none
 |_=>none
def Bf{α:Type}:List α->Nat->(α->α)->List α
 |[],_,_=>[]
 |a::l,0,f=>f a::l
 |a::l,n+1,f=>a::Bf l n f
def DL(P:Program)(t:TypeId)(m k v:AV)(h:AH):Option AH:=
 match P.underlying t,m with
 |some (.map kt _),.map r=>
  match h.get r with
  |some (.map es clock)=>
   match ES P kt k es with
   |some (some (i,_,_))=>some (h.set r (.map (Bf es i fun e=>(k,v,e.2.2)) clock))
   |some none=>some (h.set r (.map (es++[(k,v,clock)]) (clock+1)))
   |none=>none
  |_=>none
 |_,_=>none
def FZ(P:Program)(t:TypeId)(m k:AV)(h:AH):Option (AV × AH):=
 match P.underlying t,m with
 |some (.map kt et),.map r=>
  match h.get r with
  |some (.map es clock)=>
   match ES P kt k es with
   |some (some (i,v,b))=>some (.fD [v,.int .i64 b],h.set r (.map (Bf es i fun e=>(k,e.2.1,e.2.2)) clock))
   |some none=>(BL P et).map fun z=>(.fD [z,.int .i64 clock],h.set r (.map (es++[(k,z,clock)]) (clock+1)))
   |none=>none
  |_=>none
 |_,_=>none
def Ia(b:Int):List (AV × AV × Nat)->Nat->Option Nat
 |[],_=>none
 |e::es,i=>if(e.2.2:Int)=b then some i else Ia b es (i+1)
def CW(m stamp v:AV)(h:AH):Option AH:=
 match m,stamp with
 | .map r,.int _ b=>
  match h.get r with
  |some (.map es clock)=>
   match Ia b es 0 with
   |some i=>some (h.set r (.map (Bf es i fun e=>(e.1,v,e.2.2)) clock))
   |none=>none
  |_=>none
 |_,_=>none
def VK(P:Program)(argTypes:Array TypeId)(m k:AV)(h:AH):Option AH:=
 match argTypes[0]? with
 |some t=>
  match P.underlying t with
  |some (.map kt _)=>
   match m with
   | .fU=>if F8 P 10000 kt k then some h else none
   | .map r=>
    match h.get r with
    |some (.map es clock)=>
     match ES P kt k es with
     |some (some (i,_,_))=>some (h.set r (.map (es.eraseIdx i) clock))
     |some none=>some h
     |none=>none
    |_=>none
   |_=>none
  |_=>none
 |none=>none
def Ir(v:AV)(y:Nat):Option Nat:=
 match v with
 | .int _ i=>if 0<=i/\i<=(y:Int)then some i.toNat else none
 |_=>none
def Cr(v:Option AV)(y d:Nat):Option Nat:=
 match v with
 |some v=>Ir v y
 |none=>some d
def D7(len cap:Nat)(lo hi mx:Option AV):Option (Nat × Nat × Nat):=
 if hi.isNone&&mx.isSome then none else
 (Cr mx cap cap).bind fun m=>(Cr hi m len).bind fun h=>(Cr lo h 0).bind fun l=>some (l,h,m)
def Un(P:Program)(elem:TypeId)(xs:List AV)(c:Cap)(lo hi mx:Option AV):Option AV:=
 match c,lo,mx,hi with
 | .pat k m,none,none,some (.int ki i)=>
  match Ir (.int ki i) (xs.length+m)with
  |some h=>if xs.length<h/\sizeT P elem=some (KQ k)/\xs.all (fun v=>v.cells.length==KQ k)=true then some (.fC (xs++QB k xs.length (h - xs.length)) (.pat k (xs.length+m - h)))else none
  |none=>none
 |_,_,_,_=>none
def ET(P:Program)(t:TypeId)(x:AV)(lo hi mx:Option AV):Option AV:=
 match P.underlying t,x with
 |some (.array n elem),.ptr r off=>
  match D7 n n lo hi mx,sizeT P elem with
  |some (l,h,m),some s=>some (.hsl r (if m=l then off else off+l*s) (h - l) (.known (m - l)))
  |_,_=>none
 |some .string,.str s=>
  match mx with
  |some _=>none
  |none=>match D7 s.length s.length lo hi none with
   |some (l,h,_)=>some (.str ((s.take h).drop l))
   |none=>none
 |some (.slice elem),.aj=>
  match D7 0 0 lo hi mx,sizeT P elem with
  |some _,some _=>some .aj
  |_,_=>none
 |some (.slice elem),.fC xs c=>
  match D7 xs.length xs.length lo hi mx,sizeT P elem with
  |some (l,h,m),some s=>
   if l≠0/\Ba s xs=false then none else
   let ys:=(xs.take h).drop l
   match mx,c with
   |some _,_=>some (.fC ys (if h=m then .full else .unk))
   |none,.lit=>some (.fC ys (if h=xs.length then .full else .unk))
   |none,.full=>some (.fC ys (if h=xs.length then .full else .unk))
   |none,.own g e=>some (.fC ys (if h=xs.length then .own g e else .unk))
   |none,.unk=>some (.fC ys .unk)
   |none,.pat _ _=>some (.fC ys .unk)
  |_,_=>Un P elem xs c lo hi mx
 |some (.slice elem),.hsl r off len (.known cap)=>
  match D7 len cap lo hi mx,sizeT P elem with
  |some (l,h,m),some s=>some (.hsl r (if m=l then off else off+l*s) (h - l) (.known (m - l)))
  |_,_=>none
 |some (.slice elem),.hsl r off len c=>
  match mx with
  |some _=>
   match D7 len len lo hi mx,sizeT P elem with
   |some (l,h,m),some s=>some (.hsl r (if m=l then off else off+l*s) (h - l) (.known (m - l)))
   |_,_=>none
  |none=>
   match D7 len len lo hi none,sizeT P elem with
   |some (l,h,_),some s=>if l=0\/l<len then some (.hsl r (off+l*s) (h - l) (if c= .room s then c else .unk))else some (.fC [] .unk)
   |_,_=>none
 |_,_=>none
def OA(P:Program)(t:TypeId)(cs:List AV)(off:Nat):Option AV:=
 match Ez P t with
 |some true=>(sizeT P t).map fun n=> .ref (.agg ((cs.drop off).take n))
 |some false=>match cs[off]? with
  |some (.agg _)=>none
  |some u=>some (.ref u)
  |none=>none
 |none=>none
def IG(P:Program)(s:TypeId)(x:AV)(i:Nat):Option AV:=
 match P.underlying s with
 |some (.struct fs)=>
  match fs[i]? with
  |some f=>
   match sizeT P f.type,x with
   |some n,.ptr r off=>if n=0 then none else some (.ptr r (off+f.offset))
   |some n,.ref v=>if n=0 then none else OA P f.type v.cells f.offset
   |_,_=>none
  |none=>none
 |_=>none
def S9(P:Program)(t:TypeId)(x:AV)(i:Nat):Option AV:=
 match P.underlying t,x with
 |some (.struct fs),.agg cs=>match fs[i]? with|some f=>Hq P f.type cs f.offset|none=>none
 |_,_=>none
def BX(P:Program)(t:TypeId)(x ix:AV):Option AV:=
 match P.underlying t,ix with
 |some (.array len elem),.int _ i=>
  match sizeT P elem with
  |some s=>
   if 0<=i/\i<(len:Int)then
    match x with
    | .ptr r off=>some (.ptr r (off+i.toNat*s))
    | .ref v=>OA P elem v.cells (i.toNat*s)
    |_=>none
   else none
  |none=>none
 |some (.slice elem),.int _ i=>
  match sizeT P elem with
  |some s=>
   match x with
   | .fC xs _=>if 0<=i/\i<(xs.length:Int)then match xs[i.toNat]? with|some v=>if v.cells.length=s then some (.ref v)else none|none=>none else none
   | .hsl r off len _=>if 0<=i/\i<(len:Int)then some (.ptr r (off+i.toNat*s))else none
   |_=>none
  |none=>none
 |_,_=>none
def MW(P:Program)(t:TypeId)(x ix:AV):Option AV:=
 match P.underlying t,x,ix with
 |some (.array len elem),.agg cs,.int _ i=>
  if 0<=i/\i<(len:Int)then match sizeT P elem with|some s=>Hq P elem cs (i.toNat*s)|none=>none else none
 |some .string,.str s,.int _ i=>if 0<=i then match s[i.toNat]? with|some b=>some (.int .u8 b.toNat)|none=>none else none
 |_,_,_=>none
def OV:List AV->Option (List UInt8)
 |[]=>some []
 | .int .u8 n::r=>(OV r).map (UInt8.ofNat n.toNat:: ·)
 |_=>none
def GU(P:Program)(src dst:TypeId)(x:AV)(h:AH):Option (AV × AH):=
 match P.underlying src,P.underlying dst,x with
 |some _,some (.int k),.int _ n=>some (.int k (k.wrap n),h)
 |some _,some .string,.int _ n=>some (.str (Utf8.encode n).data.toList,h)
 |some _,some .string,.str s=>some (.str s,h)
 |some _,some (.slice e),.str s=>
  match P.underlying e with
  |some (.int .u8)=>if s.length>140737488355328 then none else some (.fC (s.map fun b=> .int .u8 b.toNat) (.own h.next s.length),h.alloc (.fM s.length))
  |_=>none
 |some (.slice _),some (.slice e),.hsl r off len cap=>
  match P.underlying e,h.get r with
  |some (.int .u8),some (.cells _ _)=>if src=dst then some (.hsl r off len cap,h)else none
  |_,_=>none
 |some (.slice e),some .string,x=>
  match P.underlying e,sizeT P e with
  |some (.int .u8),some 1=>match CQ P e x h with|some xs=>(OV xs).map fun s=>(.str s,h)|none=>none
  |_,_=>none
 |_,_,_=>none
def Mj(s:List UInt8)(i:Nat):Nat × Nat:=Utf8.decode ⟨⟨s⟩⟩ i
def Td(P:Program)(t:TypeId)(x:AV)(h:AH):Option (AV × AH):=
 match P.underlying t,x with
 |some .string,.str s=>some (.ptr h.next 0,h.alloc (.jQ s 0))
 |some (.map _ _),.fU=>some (.ptr h.next 0,h.alloc (.jH none 0 [] 0))
 |some (.map _ _),.map r=>match h.get r with|some (.map _ clock)=>some (.ptr h.next 0,h.alloc (.jH (some r) clock [] clock))|_=>none
 |_,_=>none
def RS(it:AV)(isString:Bool)(h:AH):Option (AV × AH):=
 match it,isString with
 | .ptr r 0,true=>
  match h.get r with
  |some (.jQ s pos)=>
   if pos<s.length then
    let cw:=Mj s pos
    some (.fD [.bool true,.int .i64 pos,.int .i32 cw.1],h.set r (.jQ s (pos+cw.2)))
   else some (.fD [.bool false],h)
  |_=>none
 | .ptr r 0,false=>
  match h.get r with
  |some (.jH none _ _ _)=>some (.fD [.bool false],h)
  |some (.jH (some m) since seen last)=>
   match h.get m with
   |some (.map es clock)=>
    if !seen.isEmpty&&!es.isEmpty&&es.all (fun e=>e.2.2>=last)then none else
    let left:=es.filter fun e=>!seen.contains e.2.2
    let old:=left.filter fun e=>e.2.2<since
    let new:=left.filter fun e=>e.2.2>=since
    match old,new with
    |[],[]=>some (.fD [.bool false],h)
    |[e],[]=>some (.fD [.bool true,e.1,e.2.1],h.set r (.jH (some m) since (seen++[e.2.2]) clock))
    |_,_=>none
   |_=>none
  |_=>none
 |_,_=>none
def Ja(P:Program)(x:AV)(asserted:TypeId)(commaOk:Bool):Option AV:=
 match P.underlying asserted,x with
 |some (.interface _),.fH=>if commaOk then(BL P asserted).map fun z=> .fD [z,.bool false]else none
 |some (.interface want),.iface t v=>
  match P.info? t with
  |some i=>
   match Instr.missingMethod want i.methods with
   |none=>some (if commaOk then .fD [.iface t v,.bool true]else .iface t v)
   |some _=>if commaOk then(BL P asserted).map fun z=> .fD [z,.bool false]else none
  |none=>none
 |some _,.fH=>if commaOk then(BL P asserted).map fun z=> .fD [z,.bool false]else none
 |some _,.iface t v=>
  if t=asserted then some (if commaOk then .fD [v,.bool true]else v)
  else if commaOk then(BL P asserted).map fun z=> .fD [z,.bool false]else none
 |_,_=>none
def fF(h:AH):Option AV->Option (Aq × AH)
 |some v=>some (.ret v,h)
 |none=>none
def CS:Option (AV × AH)->Option (Aq × AH)
 |some (v,h)=>some (.ret v,h)
 |none=>none
def iM:Option AH->Option (Aq × AH)
 |some h=>some (.ret Aj,h)
 |none=>none
def Dh(tm:List AV):List Operand->Option (List AV)
 |[]=>some []
 |o::r=>match Av tm o,Dh tm r with|some v,some l=>some (v::l)|_,_=>none
def Da(tm:List AV):List (Nat × Operand)->Option (List (Nat × AV))
 |[]=>some []
 |(i,o)::r=>match Av tm o,Da tm r with|some v,some l=>some ((i,v)::l)|_,_=>none
def D6(tm:List AV):Option Operand->Option (Option AV)
 |none=>some none
 |some o=>(Av tm o).map some
def Bh(X:Cx)(mu:Bool)(b:Builtin)(argTypes:Array TypeId)(args:List AV)(h:AH):Option (Aq × AH):=
 match b,args with
 | .append,[s,x]=>CS (AX X.P mu argTypes s x h)
 | .len,[x]=>match argTypes[0]? with|some t=>fF h (vI X.P t x h)|none=>none
 | .cap,[x]=>match argTypes[0]? with|some t=>fF h (agn X.P t x)|none=>none
 | .copy,[d,x]=>CS (acp X.P argTypes d x h)
 | .delete,[m,k]=>iM (VK X.P argTypes m k h)
 | .max,x::r=>fF h (TV Zu x r)
 | .min,x::r=>fF h (TV Zw x r)
 | .panic,[.iface t v]=>some (.jl (.iface t v),h)
 |_,_=>none
def IZ(X:Cx)(mu:Bool)(tm:List AV)(c:Call)(h:AH):Option (Aq × AH):=
 match Dh tm c.args.toList with
 |none=>none
 |some args=>
  match c.callee with
  | .builtin b=>Bh X mu b c.argTypes args h
  | .value f=>
   match Av tm f with
   |some (.fn (.func k) first captured)=>X.call (.func k) (first++args++captured) h
   |some (.fn (.yield l) first captured)=>if captured.isEmpty then X.call (.yield l) (first++args) h else none
   |_=>none
  | .invoke _ _=>none
def Cm(X:Cx)(fn:FuncId)(tm:List AV)(o:Oper)(h:AH):Option (Aq × AH):=
 let P:=X.P
 match o.op with
 | .move x| .assign x=>fF h (Av tm x)
 | .pick c a b=>match Av tm c with|some (.bool true)=>fF h (Av tm a)|some (.bool false)=>fF h (Av tm b)|_=>none
 | .alloc elem=>match BL P elem with|some z=>CS (La elem z h)|none=>none
 | .box elem x=>match Av tm x with|some v=>CS (La elem v h)|none=>none
 | .build t parts=>match Da tm parts.toList with|some l=>fF h (RV P t l)|none=>none
 | .buildSlice t len parts=>match Da tm parts.toList with|some l=>CS (F5 P (o.dst.any (X.mu fn)) t len l h)|none=>none
 | .load t a=>match Av tm a with|some p=>fF h (Ay P t p h)|none=>none
 | .store t a x=>match Av tm a,Av tm x with|some p,some v=>iM (Ce P t p v h)|_,_=>none
 | .nilCheck x=>match Av tm x with|some (.ptr r off)=>some (.ret (.ptr r off),h)|some (.ref v)=>some (.ret (.ref v),h)|some (.fn f a b)=>some (.ret (.fn f a b),h)|_=>none
 | .binOp op t x y _=>match Av tm x,Av tm y with|some a,some b=>fF h (FH P op t x y a b)|_,_=>none
 | .unOp op _ x=>match Av tm x with|some a=>fF h (WY op a)|none=>none
 | .convert src dst x=>match Av tm x with|some a=>CS (GU P src dst a h)|none=>none
 | .makeInterface t x=>match P.underlying t,Av tm x with|some (.interface _),_=>none|some _,some v=>some (.ret (.iface t v),h)|_,_=>none
 | .makeFunc (.func k) first captured=>match Dh tm first.toList,Dh tm captured.toList with|some a,some b=>some (.ret (.fn (.func k) a b),h)|_,_=>none
 | .makeMap t r=>
  match r with
  |none=>some (.ret (.map h.next),h.alloc (.map [] 0))
  |some x=>match P.underlying t,Av tm x with|some (.map _ _),some (.int _ _)=>some (.ret (.map h.next),h.alloc (.map [] 0))|_,_=>none
 | .makeSlice t l c=>match Av tm l,Av tm c with|some a,some b=>CS (FW P t a b h)|_,_=>none
 | .slice t x lo hi mx=>match Av tm x,D6 tm lo,D6 tm hi,D6 tm mx with|some v,some a,some b,some c=>fF h (ET P t v a b c)|_,_,_,_=>none
 | .fieldAddr s x f=>match Av tm x with|some v=>fF h (IG P s v f)|none=>none
 | .field t x f=>match Av tm x with|some v=>fF h (S9 P t v f)|none=>none
 | .indexAddr t x ix=>match Av tm x,Av tm ix with|some a,some b=>fF h (BX P t a b)|_,_=>none
 | .index t x ix=>match Av tm x,Av tm ix with|some a,some b=>fF h (MW P t a b)|_,_=>none
 | .lookup t x ix ok=>match Av tm x,Av tm ix with|some a,some b=>fF h (Eb P t a b ok h)|_,_=>none
 | .mapUpdate t m k x| .insert t m k x=>match Av tm m,Av tm k,Av tm x with|some a,some b,some c=>iM (DL P t a b c h)|_,_,_=>none
 | .mapEntry t m k=>match Av tm m,Av tm k with|some a,some b=>CS (FZ P t a b h)|_,_=>none
 | .entryStore _ m s x=>match Av tm m,Av tm s,Av tm x with|some a,some b,some c=>iM (CW a b c h)|_,_,_=>none
 | .range t x=>match Av tm x with|some v=>CS (Td P t v h)|none=>none
 | .next it s=>match Av tm it with|some v=>CS (RS v s h)|none=>none
 | .typeAssert x _ asserted ok=>match Av tm x with|some v=>fF h (Ja P v asserted ok)|none=>none
 | .extract t ix=>match Av tm t with|some (.fD vs)=>fF h vs[ix]?|_=>none
 | .call c=>IZ X (o.dst.any (X.mu fn)) tm c h
 | .panic x=>match Av tm x with|some (.iface t v)=>some (.jl (.iface t v),h)|_=>none
 |_=>none
structure gB where
 tm:List AV
 df:List Id
 h:AH
inductive Bl where
 |normal
 |exit (id:Nat)
 |ret
 |jl (v:AV)
def Iy(tm:List AV)(d:Option Tmp)(v:AV):List AV:=
 match d with
 |some d=>tm.set d v
 |none=>tm
def Jv(ops:Array Oper)(tm:List AV)(j:Nat):Option Bool:=
 match(ops[j]?).bind (·.dst)with
 |some d=>match tm[d]? with|some (.bool b)=>some b|_=>none
 |none=>none
def BU(ops:Array Oper)(tm:List AV)(o:Oper):Bool:=
 match o.guard with
 |none=>true
 |some (j,want)=>Jv ops tm j==some want
def Hr(X:Cx)(fn:FuncId)(ops:Array Oper):List Oper->gB->Option (Bl × gB)
 |[],s=>some (.normal,s)
 |o::r,s=>
  if BU ops s.tm o then
   match Cm X fn s.tm o s.h with
   |some (.ret v,h)=>Hr X fn ops r ⟨Iy s.tm o.dst v,s.df,h⟩
   |some (.jl v,h)=>some (.jl v,⟨s.tm,s.df,h⟩)
   |none=>none
  else Hr X fn ops r ⟨Iy s.tm o.dst Aj,s.df,s.h⟩
def iter(f:gB->Option (Bl × gB)):Nat->gB->Option (Bl × gB)
 |0,_=>none
 |n+1,s=>
  match f s with
  |some (.normal,s')=>iter f n s'
  |r=>r
def Xy(r:Option (Bl × gB))(f:gB->Option (Bl × gB)):Option (Bl × gB):=
 match r with
 |some (.normal,s)=>f s
 |r=>r
def outBlock(id:Nat)(r:Option (Bl × gB)):Option (Bl × gB):=
 match r with
 |some (.exit i,s)=>if i=id then some (.normal,s)else some (.exit i,s)
 |r=>r
def Gw(fn:FuncId)(rd:Option Id)(ps:Array Tmp)(assign body:Code)(s:gB):Option (Id × gB):=
 match rd with
 |some l=>
  match s.h.get l with
  |some (.loop _ _ _ _ _ _ _ d)=>some (s.h.next,⟨s.tm,s.df,s.h.alloc (.loop .ready none fn s.tm ps assign body d)⟩)
  |_=>none
 |none=>
  let h1:=s.h.alloc (.defs true)
  some (h1.next,⟨s.tm,s.h.next::s.df,h1.alloc (.loop .ready none fn s.tm ps assign body s.h.next)⟩)
def Cq(l:Id)(s:gB):Option (Bl × gB):=
 match s.h.get l with
 |some (.loop st pend fn tm ps assign body d)=>
  match st with
  | .busy=>none
  |_=>
   let s':gB:=⟨s.tm,s.df,s.h.set l (.loop .exhausted pend fn tm ps assign body d)⟩
   match pend with
   |none=>some (.normal,s')
   |some .ret=>some (.ret,s')
   |some (.exit id)=>some (.exit id,s')
   |_=>none
 |_=>none
def BZ(X:Cx)(fn:FuncId)(rd:Option Id)(f:Operand)(ps:Array Tmp)(assign body:Code)(s:gB):Option (Bl × gB):=
 match Gw fn rd ps assign body s with
 |none=>none
 |some (l,s1)=>
  match Av s.tm f with
  |some (.fn (.func k) first captured)=>
   match X.call (.func k) (first++[.fn (.yield l) [] []]++captured) s1.h with
   |some (.ret _,h2)=>Cq l ⟨s1.tm,s1.df,h2⟩
   |some (.jl v,h2)=>some (.jl v,⟨s1.tm,s1.df,h2⟩)
   |none=>none
  |_=>none
def AB(X:Cx)(eu:Nat->Array Oper->gB->Option (Bl × gB))(fn:FuncId)(rd:Option Id)(n:Nat):Code->gB->Option (Bl × gB)
 | .skip,s=>some (.normal,s)
 | .label _,s=>some (.normal,s)
 | .region id ops draw,s=>if draw then eu id ops s else Hr X fn ops ops.toList s
 | .seq a b,s=>Xy (AB X eu fn rd n a s) (AB X eu fn rd n b)
 | .cond c t e,s=>
  match Av s.tm c with
  |some (.bool true)=>AB X eu fn rd n t s
  |some (.bool false)=>AB X eu fn rd n e s
  |_=>none
 | .block id b,s=>outBlock id (AB X eu fn rd n b s)
 | .loop b,s=>iter (AB X eu fn rd n b) n s
 | .scope b,s=>AB X eu fn rd n b s
 | .exit id,s=>some (.exit id,s)
 | .ret,s=>some (.ret,s)
 | .rangeFunc f ps assign body,s=>BZ X fn rd f ps assign body s
 | .goto _,_=>none
 | .refuse _,_=>none
def GA(P:Program)(tm:List AV)(h:AH):ResultVar->Option AV
 | .tmp t=>some (tm.getD t Aj)
 | .cell a t=>Ay P t (tm.getD a Aj) h
def Cc(P:Program)(tm:List AV)(h:AH):List ResultVar->Option (List AV)
 |[]=>some []
 |r::rs=>match GA P tm h r,Cc P tm h rs with|some v,some l=>some (v::l)|_,_=>none
def Eo:List AV->AV
 |[v]=>v
 |l=> .fD l
def CJ:List Id->AH->Option AH
 |[],h=>some h
 |d::ds,h=>
  match h.get d with
  |some (.defs true)=>CJ ds (h.set d (.defs false))
  |_=>none
def Er(P:Program)(fn:Func)(r:Option (Bl × gB)):Option (Aq × AH):=
 match r with
 |some (.normal,s)|some (.ret,s)=>
  match CJ s.df s.h with
  |some h=>match Cc P s.tm h fn.results.toList with|some l=>some (.ret (Eo l),h)|none=>none
  |none=>none
 |some (.jl v,s)=>match CJ s.df s.h with|some h=>some (.jl v,h)|none=>none
 |_=>none
def BO(tm:List AV):List Tmp->List AV->List AV
 |t::ts,v::vs=>BO (tm.set t v) ts vs
 |_,_=>tm
def Dw(l:Id)(f:LoopState->Option Code->Option (LoopState × Option Code))(h:AH):Option AH:=
 match h.get l with
 |some (.loop st pd fn tm ps assign body d)=>
  match f st pd with
  |some (st',p)=>some (h.set l (.loop st' p fn tm ps assign body d))
  |none=>none
 |_=>none
def Ei(l:Id)(r:Option (Bl × gB)):Option (Aq × AH):=
 match r with
 |some (.normal,s)=>match Dw l (fun _ _=>some (.ready,none)) s.h with|some h=>some (.ret (.bool true),h)|none=>none
 |some (.ret,s)=>match Dw l (fun _ _=>some (.done,some .ret)) s.h with|some h=>some (.ret (.bool false),h)|none=>none
 |some (.exit id,s)=>match Dw l (fun _ _=>some (.done,some (.exit id))) s.h with|some h=>some (.ret (.bool false),h)|none=>none
 |_=>none
abbrev Ar:=FuncId->List AV->AH->Option (AV × AH)
structure Ev where
 P:Program
 mu:FuncId->Nat->Bool
 hk:Ar
 eu:Cx->FuncId->Nat->Array Oper->gB->Option (Bl × gB)
def Ah(E:Ev):Nat->oF->List AV->AH->Option (Aq × AH)
 |0,_,_,_=>none
 |n+1,.func f,args,h=>
  match E.hk f args h with
  |some r=>some (.ret r.1,r.2)
  |none=>
   match E.P.funcs[f]? with
   |none=>none
   |some fn=>
    match fn.body with
    |none=>none
    |some c=>
     let X:Cx:=⟨E.P,E.mu,Ah E n⟩
     Er E.P fn (AB X (E.eu X f) f none n c ⟨args++List.replicate (fn.ntmps - args.length) Aj,[],h⟩)
 |n+1,.yield l,args,h=>
  match h.get l with
  |some (.loop _ _ fn tm ps assign body _)=>
   if args.length≠ps.size then none else
   let X:Cx:=⟨E.P,E.mu,Ah E n⟩
   match AB X (E.eu X fn) fn (some l) n assign ⟨BO tm ps.toList args,[],h⟩with
   |some (.normal,s)=>
    match Dw l (fun st pd=>match st with| .ready=>some (.busy,pd)|_=>none) s.h with
    |some h2=>if s.df.isEmpty then Ei l (AB X (E.eu X fn) fn (some l) n body ⟨s.tm,[],h2⟩)else none
    |none=>none
   |_=>none
  |_=>none
end Go.Sk
namespace Go.Sk
structure eT where
 base:Nat
 obj:Id->Option Nat
 fM:Id->Nat->Option (Nat × Nat × Nat)
 gG:Nat->Nat->Option Value
 jk:Nat->Option Nat
structure eT.le (a b:eT):Prop where
 base:b.base=a.base
 obj:∀r x,a.obj r=some x->b.obj r=some x
 fM:∀g e x,a.fM g e=some x->b.fM g e=some x
 gG:∀k o v,a.gG k o=some v->b.gG k o=some v
 jk:∀k z,a.jk k=some z->b.jk k=some z
theorem eT.le_refl(a:eT):a.le a:=⟨rfl,fun _ _ h=>h,fun _ _ _ h=>h,fun _ _ _ h=>h,fun _ _ h=>h⟩
theorem eT.le_trans{a b c:eT}(h:a.le b)(k:b.le c):a.le c:=
 ⟨k.base.trans h.base,fun r x e=>k.obj r x (h.obj r x e),fun g e x q=>k.fM g e x (h.fM g e x q),fun b o v q=>k.gG b o v (h.gG b o v q),fun b z q=>k.jk b z (h.jk b z q)⟩
def agb:AV->Value
 | .int k n=> .int k n
 | .bool b=> .bool b
 | .str l=> .string ⟨⟨l⟩⟩
 |_=>Go.undef
def jR(ρ:eT)(c:Cap)(b end_ s len n:Nat):Prop:=
 match c with
 | .lit=>n=len
 | .full=>n=len
 | .own g e=>n=len\/∃z,ρ.fM g e=some (b,end_,z)/\end_+(n - len)*s<=z
 | .unk=>True
 | .pat k m=>n=len+m/\(m=0\/KQ k=s)/\∀i j,i<m->j<s->ρ.gG b (end_+i*s+j)=some (agb ((O4 k (len+i)).cells.getD j Aj))
theorem jR.mono{ρ ρ':eT}(hl:ρ.le ρ'){c:Cap}{b x s len n:Nat}(h:jR ρ c b x s len n):jR ρ' c b x s len n:=by
 cases c with
 |lit=>exact h
 |full=>exact h
 |own g e=>exact h.imp id (fun⟨z,h1,h2⟩=>⟨z,hl.fM g e _ h1,h2⟩)
 |unk=>trivial
 |pat k m=>exact⟨h.1,h.2.1,fun i j hi hj=>hl.gG _ _ _ (h.2.2 i j hi hj)⟩
def l7(ρ:eT)(c:Gg)(b off n:Nat):Prop:=
 match c with
 | .known c=>n=c
 | .room s=> ∃z,ρ.jk b=some z/\off+n*s<=z
 | .unk=>True
theorem l7.mono{ρ ρ':eT}(hl:ρ.le ρ'){c:Gg}{b off n:Nat}(h:l7 ρ c b off n):l7 ρ' c b off n:=by
 cases c with
 |known c=>exact h
 |room s=>exact let⟨z,h1,h2⟩:=h;⟨z,hl.jk _ _ h1,h2⟩
 |unk=>trivial
def mK(ρ:eT):oF->Fn->Prop
 | .func f,.func f'=>f=f'
 | .yield l,.yield b=>ρ.obj l=some b
 |_,_=>False
theorem mK.mono{ρ ρ':eT}(hl:ρ.le ρ'){f:oF}{g:Fn}(h:mK ρ f g):mK ρ' f g:=by
 cases f<;>cases g<;>simp_all [mK]
 exact hl.obj _ _ h
inductive bf (ρ:eT):AV->Value->Prop
 |bool (b:Bool):bf ρ (.bool b) (.bool b)
 |int (k:IntKind) (n:Int):bf ρ (.int k n) (.int k n)
 |str (l:List UInt8):bf ρ (.str l) (.string ⟨⟨l⟩⟩)
 |gF:bf ρ .gF (.pointer none)
 |ptr (r:Id) (off b:Nat) (h:ρ.obj r=some b):bf ρ (.ptr r off) (.pointer (some ⟨b,off,none⟩))
 |ref (v:AV) (b off:Nat) (c:Nat->Value) (hc:∀j,j<v.cells.length->ρ.gG b (off+j)=some (c j))
  (hv:∀j (hj:j<v.cells.length),bf ρ v.cells[j] (c j)):bf ρ (.ref v) (.pointer (some ⟨b,off,none⟩))
 |aj:bf ρ .aj (.slice none 0 0)
 |fC (xs:List AV) (cap:Cap) (b off n s:Nat) (c:Nat->Nat->Value)
  (hs:∀i (hi:i<xs.length),xs[i].cells.length=s)
  (hc:∀i j,i<xs.length->j<s->ρ.gG b (off+i*s+j)=some (c i j))
  (hv:∀i (hi:i<xs.length) j (hj:j<xs[i].cells.length),bf ρ xs[i].cells[j] (c i j))
  (hn:xs.length<=n) (hcap:jR ρ cap b (off+xs.length*s) s xs.length n) :
  bf ρ (.fC xs cap) (.slice (some ⟨b,off,none⟩) xs.length n)
 |hsl (r:Id) (off len:Nat) (cap:Gg) (b n:Nat) (h:ρ.obj r=some b) (hn:len<=n) (hcap:l7 ρ cap b off n) :
  bf ρ (.hsl r off len cap) (.slice (some ⟨b,off,none⟩) len n)
 |fU:bf ρ .fU (.map none)
 |map (r:Id) (b:Nat) (h:ρ.obj r=some b):bf ρ (.map r) (.map (some b))
 |fn (f:oF) (g:Fn) (first captured:List AV) (l9 qO:Array Value) (hf:mK ρ f g)
  (h1:l9.size=first.length) (hv1:∀i (hi:i<first.length) (hj:i<l9.size),bf ρ first[i] l9[i])
  (h2:qO.size=captured.length) (hv2:∀i (hi:i<captured.length) (hj:i<qO.size),bf ρ captured[i] qO[i]) :
  bf ρ (.fn f first captured) (.func g l9 qO)
 |iq:bf ρ .iq .nilFunc
 |iface (t:TypeId) (v:AV) (cv:Value) (h:bf ρ v cv):bf ρ (.iface t v) (.iface t cv)
 |fH:bf ρ .fH .nilIface
 |agg (cs:List AV) (eU:Array Value) (h1:eU.size=cs.length) (hv:∀i (hi:i<cs.length) (hj:i<eU.size),bf ρ cs[i] eU[i]) :
  bf ρ (.agg cs) (.agg eU)
 |fD (cs:List AV) (eU:Array Value) (h1:eU.size=cs.length) (hv:∀i (hi:i<cs.length) (hj:i<eU.size),bf ρ cs[i] eU[i]) :
  bf ρ (.fD cs) (.tuple eU)
theorem bf.mono{ρ ρ':eT}(hl:ρ.le ρ'){v:AV}{c:Value}(h:bf ρ v c):bf ρ' v c:=by
 induction h with
 |bool b=>exact .bool b
 |int k n=>exact .int k n
 |str l=>exact .str l
 |gF=>exact .gF
 |ptr r off b h=>exact .ptr r off b (hl.obj _ _ h)
 |ref v b off c hc _ ih=>exact .ref v b off c (fun j hj=>hl.gG _ _ _ (hc j hj)) ih
 |aj=>exact .aj
 |fC xs cap b off n s c hs hc _ hn hcap ih=>exact .fC xs cap b off n s c hs (fun i j hi hj=>hl.gG _ _ _ (hc i j hi hj)) ih hn (hcap.mono hl)
 |hsl r off len cap b n h hn hcap=>exact .hsl r off len cap b n (hl.obj _ _ h) hn (hcap.mono hl)
 |fU=>exact .fU
 |map r b h=>exact .map r b (hl.obj _ _ h)
 |fn f g a b ca cb hf h1 _ h2 _ ih1 ih2=>exact .fn f g a b ca cb (hf.mono hl) h1 ih1 h2 ih2
 |iq=>exact .iq
 |iface t v cv _ ih=>exact .iface t v cv ih
 |fH=>exact .fH
 |agg cs eU h1 _ ih=>exact .agg cs eU h1 ih
 |fD cs eU h1 _ ih=>exact .fD cs eU h1 ih
theorem ab9(ρ:eT)(k i j:Nat)(hj:j<(O4 k i).cells.length):bf ρ (O4 k i).cells[j] (agb (O4 k i).cells[j]):=by
 rw[R8]at hj
 match k,hj with
 |0,hj=>obtain rfl:j=0:=by simp[KQ]at hj;omega
        exact .int ..
 |1,hj=>obtain rfl:j=0:=by simp[KQ]at hj;omega
        exact .int ..
 |2,hj=>match j,hj with
  |0,_=>exact .str _
  |1,_=>exact .int ..
 |3,hj=>match j,hj with
  |0,_=>exact .int ..
  |1,_=>exact .int ..
  |2,_=>exact .int ..
  |3,_=>exact .int ..
 |4,hj=>match j,hj with
  |0,_=>exact .int ..
  |1,_=>exact .int ..
 |5,hj=>match j,hj with
  |0,_=>exact .int ..
  |1,_=>exact .int ..
 |k+6,hj=>obtain rfl:j=0:=by simp[KQ]at hj;omega
          exact .int ..
def dw(ρ:eT)(l:List AV)(c:List Value):Prop:=c.length=l.length/\∀i (hi:i<l.length) (hj:i<c.length),bf ρ l[i] c[i]
theorem dw.mono{ρ ρ':eT}(hl:ρ.le ρ'){l:List AV}{c:List Value}(h:dw ρ l c):dw ρ' l c:=⟨h.1,fun i hi hj=>(h.2 i hi hj).mono hl⟩
theorem dw.nil(ρ:eT):dw ρ [] []:=⟨rfl,fun i hi=>by simp at hi⟩
theorem dw.cons{ρ:eT}{v:AV}{c:Value}{l:List AV}{cl:List Value}(h:bf ρ v c)(hl:dw ρ l cl):dw ρ (v::l) (c::cl):=by
 refine⟨by simp[hl.1],fun i hi hj=>?_⟩
 cases i with
 |zero=>exact h
 |succ i=>exact hl.2 i (by simpa using hi) (by simpa using hj)
theorem dw.head{ρ:eT}{v:AV}{c:Value}{l:List AV}{cl:List Value}(h:dw ρ (v::l) (c::cl)):bf ρ v c:=h.2 0 (by simp) (by simp)
theorem dw.tail{ρ:eT}{v:AV}{c:Value}{l:List AV}{cl:List Value}(h:dw ρ (v::l) (c::cl)):dw ρ l cl:=
 ⟨by have:=h.1;simpa using this,fun i hi hj=>h.2 (i+1) (by simpa using hi) (by simpa using hj)⟩
theorem dw.append{ρ:eT}:∀{a:List AV} {ca:List Value} {b:List AV} {cb:List Value},dw ρ a ca->dw ρ b cb->dw ρ (a++b) (ca++cb)
 |[],[],_,_,_,h=>h
 |[],_::_,_,_,h,_=>by have:=h.1;simp at this
 |_::_,[],_,_,h,_=>by have:=h.1;simp at this
 |_::_,_::_,_,_,h,k=> .cons h.head (dw.append h.tail k)
theorem dw.take{ρ:eT}{l:List AV}{c:List Value}(n:Nat)(h:dw ρ l c):dw ρ (l.take n) (c.take n):=by
 refine⟨by simp[h.1],fun i hi hj=>?_⟩
 simp only[akY]
 exact h.2 i _ _
theorem dw.drop{ρ:eT}{l:List AV}{c:List Value}(n:Nat)(h:dw ρ l c):dw ρ (l.drop n) (c.drop n):=by
 refine⟨by simp[h.1],fun i hi hj=>?_⟩
 simp only[List.getElem_drop]
 exact h.2 _ _ _
theorem dw.set{ρ:eT}{l:List AV}{c:List Value}{v:AV}{x:Value}(n:Nat)(h:dw ρ l c)(hv:bf ρ v x):dw ρ (l.set n v) (c.set n x):=by
 refine⟨by simp[h.1],fun i hi hj=>?_⟩
 simp only[List.getElem_set]
 split
 ·exact hv
 ·exact h.2 _ _ _
theorem dw.getD{ρ:eT}{l:List AV}{c:List Value}{d:AV}{x:Value}(n:Nat)(h:dw ρ l c)(hd:bf ρ d x):bf ρ (l.getD n d) (c.getD n x):=by
 by_cases hn:n<l.length
 ·have hn':n<c.length:=by rw[h.1];exact hn
  simp only[List.getD,aaj hn,aaj hn',akK]
  exact h.2 _ _ _
 ·simp only[List.getD,acD (Nat.not_lt.1 hn),acD (by rw[h.1];exact Nat.not_lt.1 hn),Option.getD_none]
  exact hd
theorem dw.find{ρ:eT}{l:List AV}{c:List Value}{v:AV}{n:Nat}(h:dw ρ l c)(hv:l[n]?=some v):∃x,c[n]?=some x/\bf ρ v x:=by
 obtain⟨hn,rfl⟩:=abo.1 hv
 have hn':n<c.length:=by rw[h.1];exact hn
 exact⟨c[n],by simp[hn'],h.2 _ _ _⟩
theorem dw.replicate{ρ:eT}{v:AV}{x:Value}(n:Nat)(h:bf ρ v x):dw ρ (List.replicate n v) (List.replicate n x):=
 ⟨by simp,fun i hi hj=>by simpa using h⟩
def iU(ρ:eT)(l:List AV)(c:List Value):Prop:=l.length<=c.length/\∀i (hi:i<l.length) (hj:i<c.length),bf ρ l[i] c[i]
theorem dw.pre{ρ:eT}{l:List AV}{c:List Value}(h:dw ρ l c):iU ρ l c:=⟨by rw[h.1];exact acu _,h.2⟩
theorem dw.nG{ρ:eT}{l:List AV}{c:List Value}(h:dw ρ l c)(d:List Value):iU ρ l (c++d):=
 ⟨by rw[abO,h.1];omega,fun i hi hj=>by rw[akP (by rw[h.1];exact hi)];exact h.2 i hi _⟩
theorem iU.mono{ρ ρ':eT}(hl:ρ.le ρ'){l:List AV}{c:List Value}(h:iU ρ l c):iU ρ' l c:=⟨h.1,fun i hi hj=>(h.2 i hi hj).mono hl⟩
theorem iU.find{ρ:eT}{l:List AV}{c:List Value}{v:AV}{n:Nat}(h:iU ρ l c)(hv:l[n]?=some v):∃x,c[n]?=some x/\bf ρ v x:=by
 obtain⟨hn,rfl⟩:=abo.1 hv
 have hn':n<c.length:=ajF hn h.1
 exact⟨c[n],by simp[hn'],h.2 _ _ _⟩
theorem iU.piece{ρ:eT}{l:List AV}{c:List Value}(h:iU ρ l c)(off n:Nat)(hle:off+n<=l.length):dw ρ ((l.drop off).take n) ((c.drop off).take n):=by
 have:=h.1
 refine⟨by simp only[ajE,akb];omega,fun i hi hj=>?_⟩
 simp only[akY,List.getElem_drop]
 exact h.2 _ _ _
theorem iU.set{ρ:eT}{l:List AV}{c:List Value}{v:AV}{x:Value}(n:Nat)(h:iU ρ l c)(hv:bf ρ v x):iU ρ (l.set n v) (c.set n x):=by
 refine⟨by simp[h.1],fun i hi hj=>?_⟩
 simp only[List.getElem_set]
 split
 ·exact hv
 ·exact h.2 _ _ _
theorem bf.j4{ρ:eT}{cs:List AV}{eU:List Value}(h:dw ρ cs eU):bf ρ (.agg cs) (.agg eU.toArray):=
 .agg cs _ (by simpa using h.1) (fun i hi hj=>by simpa using h.2 i hi (by simpa using hj))
theorem bf.iE{ρ:eT}{cs:List AV}{eU:List Value}(h:dw ρ cs eU):bf ρ (.fD cs) (.tuple eU.toArray):=
 .fD cs _ (by simpa using h.1) (fun i hi hj=>by simpa using h.2 i hi (by simpa using hj))
theorem bf.iN{ρ:eT}{cs:List AV}{c:Value}(h:bf ρ (.agg cs) c):∃eU:List Value,c= .agg eU.toArray/\dw ρ cs eU:=by
 cases h with
 |agg _ eU h1 hv=>exact⟨eU.toList,by simp,by simpa using h1,fun i hi hj=>by simpa using hv i hi (by simpa using hj)⟩
theorem bf.qP{ρ:eT}{cs:List AV}{c:Value}(h:bf ρ (.fD cs) c):∃eU:List Value,c= .tuple eU.toArray/\dw ρ cs eU:=by
 cases h with
 |fD _ eU h1 hv=>exact⟨eU.toList,by simp,by simpa using h1,fun i hi hj=>by simpa using hv i hi (by simpa using hj)⟩
theorem bf.undef(ρ:eT):bf ρ Aj Go.undef:=bf.iE (dw.nil ρ)
theorem bf.cells{ρ:eT}{v:AV}{c:Value}(h:bf ρ v c):dw ρ v.cells c.cells.toList:=by
 have key:∀{v:AV} {c:Value},bf ρ v c->dw ρ [v] [c]:=fun h=> .cons h (.nil ρ)
 cases h with
 |agg cs eU h1 hv=>exact⟨h1,fun i hi hj=>hv i hi hj⟩
 |bool b=>exact key (.bool b)
 |int k n=>exact key (.int k n)
 |str l=>exact key (.str l)
 |gF=>exact key .gF
 |ptr r off b h=>exact key (.ptr r off b h)
 |ref v b off c hc hv=>exact key (.ref v b off c hc hv)
 |aj=>exact key .aj
 |fC xs cap b off n s c hs hc hv hn hcap=>exact key (.fC xs cap b off n s c hs hc hv hn hcap)
 |hsl r off len cap b n h hn hcap=>exact key (.hsl r off len cap b n h hn hcap)
 |fU=>exact key .fU
 |map r b h=>exact key (.map r b h)
 |fn f g a b ca cb hf h1 hv1 h2 hv2=>exact key (.fn f g a b ca cb hf h1 hv1 h2 hv2)
 |iq=>exact key .iq
 |iface t v cv h=>exact key (.iface t v cv h)
 |fH=>exact key .fH
 |fD cs eU h1 hv=>exact key (.fD cs eU h1 hv)
def AO.live:AO->Prop
 | .fM _=>False
 | .dead=>False
 |_=>True
def Z0(ρ:eT)(e:AV × AV × Nat)(c:MapEntry):Prop:=bf ρ e.1 c.key/\bf ρ e.2.1 c.val/\c.born=e.2.2
def j5(ρ:eT)(o:AO)(x:Option Obj):Prop:=
 match o with
 | .cells cs T=> ∃(eU:List Value) (fr:Nat × Nat),x=some (.cells eU.toArray T fr)/\iU ρ cs eU/\(∀v∈eU,v.oneCell'=true)/\(fr=(0,0)\/fr=(eU.length,eU.length+1))
 | .map es clock=> ∃gK:List MapEntry,x=some (.map gK.toArray clock)/\gK.length=es.length/\∀i (hi:i<es.length) (hj:i<gK.length),Z0 ρ es[i] gK[i]
 | .jQ s pos=>x=some (.stringIter ⟨⟨s⟩⟩ pos)
 | .jH m since seen st=> ∃cm,x=some (.mapIter cm since seen.toArray st)/\(match m with|none=>cm=none|some r=> ∃b,ρ.obj r=some b/\cm=some b)
 | .loop st pend _ tm ps assign body d=> ∃(mg:List Value) (db:Nat) (cfn:FuncId),x=some (.loop { state:=st,pending:=pend,fn:=cfn,tmps:=mg.toArray,params:=ps,assign:=assign,body:=body,defers:=db })/\dw ρ tm mg/\ρ.obj d=some db
 | .defs b=>x=some (.deferred (if b then some []else none))
 | .fM _=>True
 | .dead=>True
theorem j5.mono{ρ ρ':eT}(hl:ρ.le ρ'){o:AO}{x:Option Obj}(h:j5 ρ o x):j5 ρ' o x:=by
 cases o with
 |cells cs T=>obtain⟨eU,fr,e,hr,h1,h2⟩:=h;exact⟨eU,fr,e,hr.mono hl,h1,h2⟩
 |map es clock=>obtain⟨gK,e,hn,hr⟩:=h;exact⟨gK,e,hn,fun i hi hj=>let⟨a,b,c⟩:=hr i hi hj;⟨a.mono hl,b.mono hl,c⟩⟩
 |jQ s pos=>exact h
 |jH m since seen st=>
  obtain⟨cm,e,hm⟩:=h
  refine⟨cm,e,?_⟩
  cases m with
  |none=>exact hm
  |some r=>obtain⟨b,hb,e2⟩:=hm;exact⟨b,hl.obj _ _ hb,e2⟩
 |loop st pend fn tm ps assign body d=>obtain⟨mg,db,cfn,e,hr,hd⟩:=h;exact⟨mg,db,cfn,e,hr.mono hl,hl.obj _ _ hd⟩
 |defs b=>exact h
 |fM e=>trivial
 |dead=>trivial
theorem Oz{n:Nat}{fr:Nat × Nat}(h:fr=(0,0)\/fr=(n,n+1)){o:Nat}(ho:o<n):¬(fr.1<=o/\o<fr.2):=by
 rcases h with rfl|rfl
 ·simp
 ·simp only;omega
def Own(ρ:eT)(h:AH)(b:Nat):Prop:=
 (∃r o,ρ.obj r=some b/\h.get r=some o/\o.live)\/(∃g e c,ρ.fM g e=some (b,c)/\h.get g=some (.fM e))
structure Rel (ρ:eT) (h:AH) (w:World):Prop where
 obj:∀r o b,h.get r=some o->ρ.obj r=some b->j5 ρ o w.heap[b]?
 bound:∀r b,ρ.obj r=some b->ρ.base<=b/\b<w.heap.size/\r.nat<h.next.nat
 inj:∀r r' b,ρ.obj r=some b->ρ.obj r'=some b->h.get r≠some .dead->h.get r'≠some .dead->r=r'
 dom:∀r o,h.get r=some o->r.nat<h.next.nat
 fM:∀g e b c,h.get g=some (.fM e)->ρ.fM g e=some (b,c)->ρ.base<=b/\
  (∃eU T fr,w.heap[b]?=some (.cells eU T fr)/\eU.size=c.2/\∀o,c.1<=o->o<eU.size->¬(fr.1<=o/\o<fr.2))/\
  (∀o v,ρ.gG b o=some v->o<c.1)/\(∀r,ρ.obj r=some b->h.get r=some .dead)
 iF:∀g e x,ρ.fM g e=some x->g.nat<h.next.nat/\x.1<w.heap.size
 iW:∀g e e' x,h.get g=some (.fM e)->ρ.fM g e'=some x->e'<=e
 gone:∀g o e x,h.get g=some o->ρ.fM g e=some x->∃e',o= .fM e'
 je:∀g g' e e' b c c',h.get g=some (.fM e)->h.get g'=some (.fM e')->ρ.fM g e=some (b,c)->ρ.fM g' e'=some (b,c')->g=g'
 gG:∀b o v,ρ.gG b o=some v->w.cell? ⟨b,o,none⟩=some v
 one:∀b o v,ρ.gG b o=some v->v.oneCell'=true
 jd:∀b o v r,ρ.gG b o=some v->ρ.obj r=some b->h.get r=some .dead
 jk:∀b z,ρ.jk b=some z->∃eU T fr,w.heap[b]?=some (.cells eU T fr)/\z<=eU.size
 jf:∀b cs,vH b=some cs->b<ρ.base/\∃T fr,w.heap[b]?=some (.cells cs T fr)
structure Stp (ρ:eT) (h:AH) (w:World) (ρ':eT) (h':AH) (w':World):Prop where
 le:ρ.le ρ'
 next:h.next.nat<=h'.next.nat
 os:w'.os=w.os
 tape:w'.tape=w.tape
 output:w'.output=w.output
 size:w.heap.size<=w'.heap.size
 kept:∀b,b<w.heap.size->¬Own ρ h b->w'.heap[b]?=w.heap[b]?
 own:∀b,b<w.heap.size->Own ρ' h' b->Own ρ h b
 old:∀r x,r.nat<h.next.nat->ρ'.obj r=some x->ρ.obj r=some x
 gG:∀b o v,b<w.heap.size->ρ'.gG b o=some v->ρ.gG b o=some v\/Own ρ h b
theorem Stp.refl(ρ:eT)(h:AH)(w:World):Stp ρ h w ρ h w:=⟨ρ.le_refl,acu _,rfl,rfl,rfl,acu _,fun _ _ _=>rfl,fun _ _ h=>h,fun _ _ _ e=>e,fun _ _ _ _ h=> .inl h⟩
theorem Stp.trans{ρ ρ1 ρ2:eT}{h h1 h2:AH}{w w1 w2:World}(a:Stp ρ h w ρ1 h1 w1)(b:Stp ρ1 h1 w1 ρ2 h2 w2):Stp ρ h w ρ2 h2 w2 where
 le:=eT.le_trans a.le b.le
 next:=aj3 a.next b.next
 os:=b.os.trans a.os
 tape:=b.tape.trans a.tape
 output:=b.output.trans a.output
 size:=aj3 a.size b.size
 kept:=fun k hk ho=>(b.kept k (ajF hk a.size) (fun h'=>ho (a.own k hk h'))).trans (a.kept k hk ho)
 own:=fun k hk ho=>a.own k hk (b.own k (ajF hk a.size) ho)
 old:=fun r x hr e=>a.old r x hr (b.old r x (ajF hr a.next) e)
 gG:=fun k o v hk e=>(b.gG k o v (ajF hk a.size) e).elim (a.gG k o v hk) fun h'=> .inr (a.own k hk h')
theorem Own.base{ρ:eT}{h:AH}{w:World}(hR:Rel ρ h w){b:Nat}(ho:Own ρ h b):ρ.base<=b:=by
 rcases ho with⟨r,o,hr,_,_⟩|⟨g,e,c,hg,he⟩
 ·exact(hR.bound r b hr).1
 ·exact(hR.fM g e b c he hg).1
theorem Stp.below{ρ ρ':eT}{h h':AH}{w w':World}(hR:Rel ρ h w)(hs:Stp ρ h w ρ' h' w')(hb:ρ.base<=w.heap.size):RowKit.Below ρ.base w w':=
 ⟨hs.os,hs.tape,hs.output,hs.size,fun k hk=>hs.kept k (by omega) (fun ho=>by have:=ho.base hR;omega)⟩
theorem Rel.drew{ρ:eT}{h:AH}{w w':World}(hR:Rel ρ h w)(he:w'.heap=w.heap):Rel ρ h w' where
 obj:=by rw[he];exact hR.obj
 bound:=by rw[he];exact hR.bound
 inj:=hR.inj
 dom:=hR.dom
 fM:=by rw[he];exact hR.fM
 iF:=by rw[he];exact hR.iF
 iW:=hR.iW
 gone:=hR.gone
 je:=hR.je
 gG:=fun b o v q=>by have:=hR.gG b o v q;simpa[World.cell?,he]using this
 one:=hR.one
 jd:=hR.jd
 jk:=by rw[he];exact hR.jk
 jf:=by rw[he];exact hR.jf
theorem Rel.ext{ρ:eT}{h h':AH}{w:World}(hR:Rel ρ h w)(hg:∀r,h'.get r=h.get r)(hn:h'.next=h.next):Rel ρ h' w:=by
 constructor
 ·intro r o b;rw[hg];exact hR.obj r o b
 ·rw[hn];exact hR.bound
 ·intro r r' b;rw[hg,hg];exact hR.inj r r' b
 ·intro r o;rw[hg,hn];exact hR.dom r o
 ·intro g e b c h1 h2
  rw[hg]at h1
  obtain⟨a1,a2,a3,a4⟩:=hR.fM g e b c h1 h2
  exact⟨a1,a2,a3,fun r hr=>by rw[hg];exact a4 r hr⟩
 ·rw[hn];exact hR.iF
 ·intro g e e' x;rw[hg];exact hR.iW g e e' x
 ·intro g o e x;rw[hg];exact hR.gone g o e x
 ·intro g g' e e' b c c';rw[hg,hg];exact hR.je g g' e e' b c c'
 ·exact hR.gG
 ·exact hR.one
 ·intro b o v r;rw[hg];exact hR.jd b o v r
 ·exact hR.jk
 ·exact hR.jf
theorem bf.one{ρ:eT}{v:AV}{c:Value}(h:bf ρ v c)(hs:v.scalar=true):c.oneCell'=true:=by
 cases h<;>first|rfl|(simp[AV.scalar]at hs)
theorem dw.one{ρ:eT}{l:List AV}{c:List Value}(h:dw ρ l c)(hs:l.all AV.scalar=true):∀v∈c,v.oneCell'=true:=by
 intro v hv
 obtain⟨i,hi,rfl⟩:=List.getElem_of_mem hv
 have hi':i<l.length:=by rw[<-h.1];exact hi
 exact(h.2 i hi' hi).one (ajG.1 hs _ (akv hi'))
end Go.Sk
namespace Go.Sk
def eT.dh(ρ:eT)(r:Id)(b:Nat):eT:={ ρ with obj:=fun x=>if x=r then some b else ρ.obj x }
def eT.fG(ρ:eT)(g:Id)(e:Nat)(x:Nat × Nat × Nat):eT:={ ρ with fM:=fun g' e'=>if g'=g/\e'=e then some x else ρ.fM g' e' }
def eT.gq(ρ:eT)(b c n:Nat)(f:Nat->Value):eT:={ ρ with gG:=fun b' o=>if b'=b/\c<=o/\o<c+n then some (f (o - c))else ρ.gG b' o }
theorem eT.fV{ρ:eT}{r:Id}{b:Nat}(h:ρ.obj r=none):ρ.le (ρ.dh r b):=
 ⟨rfl,fun x y e=>by
  have:x≠r:=by rintro rfl;rw[h]at e;cases e
  simpa[eT.dh,this]using e,fun _ _ _ e=>e,fun _ _ _ e=>e,fun _ _ e=>e⟩
theorem eT.iK{ρ:eT}{g:Id}{e:Nat}{x:Nat × Nat × Nat}(h:ρ.fM g e=none):ρ.le (ρ.fG g e x):=
 ⟨rfl,fun _ _ e=>e,fun g' e' y q=>by
  have:¬(g'=g/\e'=e):=by rintro⟨rfl,rfl⟩;rw[h]at q;cases q
  simpa[eT.fG,this]using q,fun _ _ _ e=>e,fun _ _ e=>e⟩
theorem eT.jK{ρ:eT}{b c n:Nat}{f:Nat->Value}(h:∀o,c<=o->o<c+n->ρ.gG b o=none):ρ.le (ρ.gq b c n f):=
 ⟨rfl,fun _ _ e=>e,fun _ _ _ e=>e,fun b' o v q=>by
  have:¬(b'=b/\c<=o/\o<c+n):=by rintro⟨rfl,h1,h2⟩;rw[h o h1 h2]at q;cases q
  simpa[eT.gq,this]using q,fun _ _ e=>e⟩
theorem eT.fE(ρ:eT)(r:Id)(b:Nat):(ρ.dh r b).obj r=some b:=by simp[eT.dh]
theorem eT.fZ(ρ:eT)(g:Id)(e:Nat)(x:Nat × Nat × Nat):(ρ.fG g e x).fM g e=some x:=by simp[eT.fG]
theorem eT.iG(ρ:eT)(b c n:Nat)(f:Nat->Value)(j:Nat)(h:j<n):(ρ.gq b c n f).gG b (c+j)=some (f j):=by
 have h':c<=c+j/\c+j<c+n:=by omega
 simp[eT.gq,h]
theorem Rel.fresh{ρ:eT}{h:AH}{w:World}(hR:Rel ρ h w):h.get h.next=none:=by
 cases e:h.get h.next with
 |none=>rfl
 |some o=>exact absurd (hR.dom _ _ e) (akx _)
theorem Rel.fT{ρ:eT}{h:AH}{w:World}(hR:Rel ρ h w):ρ.obj h.next=none:=by
 cases e:ρ.obj h.next with
 |none=>rfl
 |some o=>exact absurd (hR.bound _ _ e).2.2 (akx _)
theorem Rel.iw{ρ:eT}{h:AH}{w:World}(hR:Rel ρ h w)(e:Nat):ρ.fM h.next e=none:=by
 cases q:ρ.fM h.next e with
 |none=>rfl
 |some o=>exact absurd (hR.iF _ _ _ q).1 (akx _)
theorem Rel.iB{ρ:eT}{h:AH}{w:World}(hR:Rel ρ h w)(o:Nat):ρ.gG w.heap.size o=none:=by
 cases e:ρ.gG w.heap.size o with
 |none=>rfl
 |some v=>have:=World.block_lt_of_cell? w _ (hR.gG _ _ _ e);simp at this
structure iX (w w':World):Prop where
 os:w'.os=w.os
 tape:w'.tape=w.tape
 output:w'.output=w.output
 size:w.heap.size<=w'.heap.size
 block:∀k,k<w.heap.size->w'.heap[k]?=w.heap[k]?
theorem iX.alloc(w:World)(o:Obj):iX w { w with heap:=w.heap.push o }:=
 ⟨rfl,rfl,rfl,by simp,fun k hk=>by rw[Array.getElem?_push,if_neg (by omega)]⟩
theorem iX.drawn(w:World)(n:Nat):iX w { w with drawn:=n }:=⟨rfl,rfl,rfl,acu _,fun _ _=>rfl⟩
theorem iX.cell{w w':World}(h:iX w w'){a:Addr}{v:Value}(hc:w.cell? a=some v):w'.cell? a=some v:=by
 have:=World.block_lt_of_cell? w _ hc
 rw[World.cell?_of_block (w:=w) (h.block _ this)];exact hc
theorem Rel.grew{ρ:eT}{h:AH}{w w':World}(hR:Rel ρ h w)(hg:iX w w'):Rel ρ h w' where
 obj:=fun r o b h1 h2=>by rw[hg.block b (hR.bound r b h2).2.1];exact hR.obj r o b h1 h2
 bound:=fun r b h1=>let⟨a,b,c⟩:=hR.bound r b h1;⟨a,ajF b hg.size,c⟩
 inj:=hR.inj
 dom:=hR.dom
 fM:=fun g e b c h1 h2=>by
  obtain⟨a1,a2,a3,a4⟩:=hR.fM g e b c h1 h2
  exact⟨a1,by rw[hg.block b (hR.iF g e _ h2).2];exact a2,a3,a4⟩
 iF:=fun g e x h1=>let⟨a,b⟩:=hR.iF g e x h1;⟨a,ajF b hg.size⟩
 iW:=hR.iW
 gone:=hR.gone
 je:=hR.je
 gG:=fun b o v q=>hg.cell (hR.gG b o v q)
 one:=hR.one
 jd:=hR.jd
 jk:=fun b z q=>by
  obtain⟨eU,T,fr,h1,h2⟩:=hR.jk b z q
  have hb:b<w.heap.size:=by
   rcases ajV b w.heap.size with k|k
   ·exact k
   ·rw[akA k]at h1;cases h1
  exact⟨eU,T,fr,by rw[hg.block b hb];exact h1,h2⟩
 jf:=fun b cs q=>by
  obtain⟨h0,T,fr,h1⟩:=hR.jf b cs q
  have hb:b<w.heap.size:=by
   rcases ajV b w.heap.size with k|k
   ·exact k
   ·rw[akA k]at h1;cases h1
  exact⟨h0,T,fr,by rw[hg.block b hb];exact h1⟩
theorem Stp.grew{ρ:eT}{h:AH}{w w':World}(hg:iX w w'):Stp ρ h w ρ h w':=
 ⟨ρ.le_refl,acu _,hg.os,hg.tape,hg.output,hg.size,fun k hk _=>hg.block k hk,fun _ _ h=>h,fun _ _ _ e=>e,fun _ _ _ _ h=> .inl h⟩
theorem P6{ρ:eT}{h:AH}{w:World}(hR:Rel ρ h w){r:Id}{o:AO}(hr:h.get r=some o):r≠h.next:=by
 rintro rfl;rw[hR.fresh]at hr;cases hr
theorem Rel.newObj{ρ:eT}{h:AH}{w:World}(hR:Rel ρ h w)(hbase:ρ.base<=w.heap.size)(o:AO)(ho:o.live)(x:Obj)
  (hx:j5 (ρ.dh h.next w.heap.size) o (some x)) :
  Rel (ρ.dh h.next w.heap.size) (h.alloc o) { w with heap:=w.heap.push x }:=by
 have hle:ρ.le (ρ.dh h.next w.heap.size):=eT.fV hR.fT
 have hg:=iX.alloc w x
 have hR':=hR.grew hg
 have hat:∀b,ρ.obj h.next=some b->False:=fun b e=>by rw[hR.fT]at e;cases e
 constructor
 ·intro r o' b h1 h2
  rw[AH.au]at h1
  by_cases hr:r=h.next
  ·subst hr
   simp only[if_true,aai]at h1;subst h1
   simp only[eT.dh,if_true,aai]at h2;subst h2
   simpa using hx
  ·rw[if_neg hr]at h1
   simp only[eT.dh,if_neg hr]at h2
   exact(hR'.obj r o' b h1 h2).mono hle
 ·intro r b h1
  by_cases hr:r=h.next
  ·subst hr
   simp only[eT.dh,if_true,aai]at h1;subst h1
   exact⟨hbase,by simp,by simp[AH.bn,Id.dz]⟩
  ·simp only[eT.dh,if_neg hr]at h1
   obtain⟨a,b,c⟩:=hR'.bound r b h1
   exact⟨a,b,by simp only[AH.bn,Id.dz];omega⟩
 ·intro r r' b h1 h2 d1 d2
  rw[AH.au]at d1 d2
  by_cases hr:r=h.next
  ·by_cases hr':r'=h.next
   ·rw[hr,hr']
   ·subst hr
    simp only[eT.dh,if_true,aai,if_neg hr']at h1 h2
    have:=(hR.bound r' b h2).2.1;omega
  ·by_cases hr':r'=h.next
   ·subst hr'
    simp only[eT.dh,if_true,aai,if_neg hr]at h1 h2
    have:=(hR.bound r b h1).2.1;omega
   ·simp only[eT.dh,if_neg hr,if_neg hr']at h1 h2
    rw[if_neg hr]at d1;rw[if_neg hr']at d2
    exact hR.inj r r' b h1 h2 d1 d2
 ·intro r o' h1
  rw[AH.au]at h1
  simp only[AH.bn,Id.dz]
  by_cases hr:r=h.next
  ·subst hr;omega
  ·rw[if_neg hr]at h1;have:=hR.dom r o' h1;omega
 ·intro g e b c h1 h2
  rw[AH.au]at h1
  by_cases hr:g=h.next
  ·subst hr;simp only[if_true,aai]at h1;subst h1;exact ho.elim
  ·rw[if_neg hr]at h1
   obtain⟨a1,a2,a3,a4⟩:=hR'.fM g e b c h1 h2
   refine⟨a1,a2,a3,fun r hr2=>?_⟩
   rw[AH.au]
   by_cases hrn:r=h.next
   ·subst hrn
    simp only[eT.dh,if_true,aai]at hr2
    have:=(hR.iF g e _ h2).2;simp at this;omega
   ·rw[if_neg hrn];simp only[eT.dh,if_neg hrn]at hr2;exact a4 r hr2
 ·intro g e x' h1
  obtain⟨a,b⟩:=hR'.iF g e x' h1
  exact⟨by simp only[AH.bn,Id.dz];omega,b⟩
 ·intro g e e' x' h1 h2
  rw[AH.au]at h1
  by_cases hr:g=h.next
  ·subst hr;simp only[if_true,aai]at h1;subst h1;exact ho.elim
  ·rw[if_neg hr]at h1;exact hR.iW g e e' x' h1 h2
 ·intro g o' e x' h1 h2
  rw[AH.au]at h1
  by_cases hr:g=h.next
  ·subst hr;rw[show(ρ.dh h.next w.heap.size).fM=ρ.fM from rfl,hR.iw]at h2;cases h2
  ·rw[if_neg hr]at h1;exact hR.gone g o' e x' h1 h2
 ·intro g g' e e' b c c' h1 h2 h3 h4
  rw[AH.au]at h1 h2
  by_cases hr:g=h.next
  ·subst hr;simp only[if_true,aai]at h1;subst h1;exact ho.elim
  ·by_cases hr':g'=h.next
   ·subst hr';simp only[if_true,aai]at h2;subst h2;exact ho.elim
   ·rw[if_neg hr]at h1;rw[if_neg hr']at h2;exact hR.je g g' e e' b c c' h1 h2 h3 h4
 ·exact hR'.gG
 ·exact hR.one
 ·intro b o' v r h1 h2
  rw[AH.au]
  by_cases hr:r=h.next
  ·subst hr
   simp only[eT.dh,if_true,aai]at h2;subst h2
   rw[show(ρ.dh h.next w.heap.size).gG=ρ.gG from rfl,hR.iB]at h1;cases h1
  ·rw[if_neg hr];simp only[eT.dh,if_neg hr]at h2;exact hR.jd b o' v r h1 h2
 ·exact hR'.jk
 ·exact hR'.jf
theorem Stp.newObj{ρ:eT}{h:AH}{w:World}(hR:Rel ρ h w)(o:AO)(x:Obj) :
  Stp ρ h w (ρ.dh h.next w.heap.size) (h.alloc o) { w with heap:=w.heap.push x } where
 le:=eT.fV hR.fT
 next:=by simp only[AH.bn,Id.dz];omega
 os:=rfl
 tape:=rfl
 output:=rfl
 size:=by simp
 kept:=fun b hb _=>(iX.alloc w x).block b hb
 old:=fun r y hr e=>by
  have:r≠h.next:=by rintro rfl;omega
  simpa[eT.dh,this]using e
 gG:=fun _ _ _ _ h=> .inl h
 own:=fun b hb ho=>by
  rcases ho with⟨r,o',hr,hg,hl⟩|⟨g,e,c,hg,he⟩
  ·by_cases hrn:r=h.next
   ·subst hrn;simp only[eT.dh,if_true,aai]at hr;omega
   ·simp only[eT.dh,if_neg hrn]at hr
    rw[AH.au,if_neg hrn]at hg
    exact .inl ⟨r,o',hr,hg,hl⟩
  ·rw[AH.au]at he
   by_cases hgn:g=h.next
   ·subst hgn;rw[show(ρ.dh h.next w.heap.size).fM=ρ.fM from rfl,hR.iw]at hg;cases hg
   ·rw[if_neg hgn]at he;exact .inr ⟨g,e,c,hg,he⟩
structure Wrote (w w':World) (b:Nat) (x:Obj):Prop where
 os:w'.os=w.os
 tape:w'.tape=w.tape
 output:w'.output=w.output
 size:w'.heap.size=w.heap.size
 here:w'.heap[b]?=some x
 block:∀k,k≠b->w'.heap[k]?=w.heap[k]?
theorem Rel.setObj{ρ:eT}{h:AH}{w w':World}(hR:Rel ρ h w){r:Id}{b:Nat}{o o':AO}{x:Obj}(hr:h.get r=some o)(hl:o.live)(hb:ρ.obj r=some b)
  (ho:o'.live) (hw:Wrote w w' b x) (hsz:∀eU T fr,w.heap[b]?=some (.cells eU T fr)->∃jL T' fr',x= .cells jL T' fr'/\jL.size=eU.size) (hx:j5 ρ o' (some x)):Rel ρ (h.set r o') w':=by
 have hnd:h.get r≠some .dead:=by rw[hr];rintro⟨⟩;exact hl
 have same:∀{q:Id},(h.set r o').get q≠some .dead->h.get q≠some .dead:=by
  intro q hq;rw[AH.ak]at hq
  by_cases e:q=r
  ·subst e;exact hnd
  ·rwa [if_neg e]at hq
 have dead:∀{q:Id},h.get q=some .dead->(h.set r o').get q=some .dead:=by
  intro q hq;rw[AH.ak]
  by_cases e:q=r
  ·subst e;exact absurd hq hnd
  ·rwa [if_neg e]
 have jS:∀{q:Id} {e:Nat},(h.set r o').get q=some (.fM e)->h.get q=some (.fM e):=by
  intro q e hq;rw[AH.ak]at hq
  by_cases e':q=r
  ·rw[if_pos e']at hq;simp only[aai]at hq;subst hq;exact ho.elim
  ·rwa [if_neg e']at hq
 constructor
 ·intro q oq bq h1 h2
  rw[AH.ak]at h1
  by_cases e:q=r
  ·subst e
   rw[if_pos rfl]at h1;simp only[aai]at h1;subst h1
   rw[hb]at h2;simp only[aai]at h2;subst h2
   rw[hw.here];exact hx
  ·rw[if_neg e]at h1
   by_cases hd:oq= .dead
   ·subst hd;trivial
   ·have hne:bq≠b:=by
     rintro rfl
     exact e (hR.inj q r bq h2 hb (by rw[h1];simpa using hd) hnd)
    rw[hw.block bq hne];exact hR.obj q oq bq h1 h2
 ·intro q bq h1;rw[hw.size];exact hR.bound q bq h1
 ·intro q q' bq h1 h2 d1 d2;exact hR.inj q q' bq h1 h2 (same d1) (same d2)
 ·intro q oq h1
  rw[AH.ak]at h1
  by_cases e:q=r
  ·subst e;exact hR.dom q o hr
  ·rw[if_neg e]at h1;exact hR.dom q oq h1
 ·intro g e bg c h1 h2
  obtain⟨a1,a2,a3,a4⟩:=hR.fM g e bg c (jS h1) h2
  have hne:bg≠b:=by
   rintro rfl
   exact hnd (a4 r hb)
  exact⟨a1,by rw[hw.block bg hne];exact a2,a3,fun q hq=>dead (a4 q hq)⟩
 ·intro g e y h1;rw[hw.size];exact hR.iF g e y h1
 ·intro g e e' y h1 h2;exact hR.iW g e e' y (jS h1) h2
 ·intro g og e y h1 h2
  rw[AH.ak]at h1
  by_cases e':g=r
  ·subst e'
   obtain⟨e2,h3⟩:=hR.gone g o e y hr h2
   subst h3;exact hl.elim
  ·rw[if_neg e']at h1;exact hR.gone g og e y h1 h2
 ·intro g g' e e' bg c c' h1 h2 h3 h4;exact hR.je g g' e e' bg c c' (jS h1) (jS h2) h3 h4
 ·intro bi oi v h1
  have hne:bi≠b:=by
   rintro rfl
   exact hnd (hR.jd bi oi v r h1 hb)
  rw[World.cell?_of_block (w:=w) (hw.block bi hne)];exact hR.gG bi oi v h1
 ·exact hR.one
 ·intro bi oi v q h1 h2;exact dead (hR.jd bi oi v q h1 h2)
 ·intro b' z q
  obtain⟨eU,T,fr,h1,h2⟩:=hR.jk b' z q
  by_cases e:b'=b
  ·subst e
   obtain⟨jL,T',fr',rfl,h3⟩:=hsz eU T fr h1
   exact⟨jL,T',fr',hw.here,by omega⟩
  ·exact⟨eU,T,fr,by rw[hw.block b' e];exact h1,h2⟩
 ·intro b' cs q
  obtain⟨h0,T,fr,h1⟩:=hR.jf b' cs q
  have hge:=(hR.bound r b hb).1
  exact⟨h0,T,fr,by rw[hw.block b' (by omega)];exact h1⟩
theorem Stp.setObj{ρ:eT}{h:AH}{w w':World}{r:Id}{b:Nat}{o o':AO}{x:Obj}(hr:h.get r=some o)(hl:o.live)(hb:ρ.obj r=some b)(ho:o'.live)
  (hw:Wrote w w' b x):Stp ρ h w ρ (h.set r o') w' where
 le:=ρ.le_refl
 next:=acu _
 os:=hw.os
 tape:=hw.tape
 output:=hw.output
 size:=by rw[hw.size];exact acu _
 kept:=fun k _ hn=>hw.block k (by rintro rfl;exact hn (.inl ⟨r,o,hb,hr,hl⟩))
 old:=fun _ _ _ e=>e
 gG:=fun _ _ _ _ h=> .inl h
 own:=fun k _ hk=>by
  rcases hk with⟨q,oq,h1,h2,h3⟩|⟨g,e,c,h1,h2⟩
  ·rw[AH.ak]at h2
   by_cases e:q=r
   ·subst e;exact .inl ⟨q,o,h1,hr,hl⟩
   ·rw[if_neg e]at h2;exact .inl ⟨q,oq,h1,h2,h3⟩
  ·rw[AH.ak]at h2
   by_cases e':g=r
   ·rw[if_pos e']at h2;simp only[aai]at h2;subst h2;exact ho.elim
   ·rw[if_neg e']at h2;exact .inr ⟨g,e,c,h1,h2⟩
end Go.Sk
namespace Go.Sk
theorem Rel.jA{ρ:eT}{h:AH}{w:World}(hR:Rel ρ h w)(b c n:Nat)(f:Nat->Value)
  (hc:∀j,j<n->w.cell? ⟨b,c+j,none⟩=some (f j)) (h1:∀j,j<n->(f j).oneCell'=true) (hn:∀o,c<=o->o<c+n->ρ.gG b o=none)
  (ho:∀r,ρ.obj r=some b->h.get r=some .dead)
  (hg:∀g e c',h.get g=some (.fM e)->ρ.fM g e=some (b,c')->c+n<=c'.1):Rel (ρ.gq b c n f) h w:=by
 have hle:ρ.le (ρ.gq b c n f):=eT.jK hn
 constructor
 ·intro r o b' h1 h2;exact(hR.obj r o b' h1 h2).mono hle
 ·exact hR.bound
 ·exact hR.inj
 ·exact hR.dom
 ·intro g e b' c' h1 h2
  obtain⟨a1,a2,a3,a4⟩:=hR.fM g e b' c' h1 h2
  refine⟨a1,a2,fun o v q=>?_,a4⟩
  simp only[eT.gq]at q
  split at q
  ·rename_i hh
   obtain⟨rfl,h3,h4⟩:=hh
   have:=hg g e c' h1 h2;omega
  ·exact a3 o v q
 ·exact hR.iF
 ·exact hR.iW
 ·exact hR.gone
 ·exact hR.je
 ·intro b' o v q
  simp only[eT.gq]at q
  split at q
  ·rename_i hh
   obtain⟨rfl,h3,h4⟩:=hh
   simp only[aai]at q;subst q
   have:=hc (o - c) (by omega)
   rwa [show c+(o - c)=o by omega]at this
  ·exact hR.gG b' o v q
 ·intro b' o v q
  simp only[eT.gq]at q
  split at q
  ·rename_i hh
   obtain⟨rfl,h3,h4⟩:=hh
   simp only[aai]at q;subst q
   exact h1 _ (by omega)
  ·exact hR.one b' o v q
 ·intro b' o v r q h2
  simp only[eT.gq]at q
  split at q
  ·rename_i hh
   obtain⟨rfl,h3,h4⟩:=hh
   exact ho r h2
  ·exact hR.jd b' o v r q h2
 ·exact hR.jk
 ·exact hR.jf
theorem Stp.jA{ρ0 ρ:eT}{h0 h:AH}{w0 w:World}(hs:Stp ρ0 h0 w0 ρ h w)(b c n:Nat)(f:Nat->Value)(hn:∀o,c<=o->o<c+n->ρ.gG b o=none)
  (hb:w0.heap.size<=b\/Own ρ0 h0 b):Stp ρ0 h0 w0 (ρ.gq b c n f) h w where
 le:=eT.le_trans hs.le (eT.jK hn)
 next:=hs.next
 os:=hs.os
 tape:=hs.tape
 output:=hs.output
 size:=hs.size
 kept:=hs.kept
 own:=hs.own
 old:=hs.old
 gG:=fun k o v hk e=>by
  by_cases hkb:k=b
  ·subst hkb
   rcases hb with hb|hb
   ·omega
   ·exact .inr hb
  ·refine hs.gG k o v hk ?_
   simp only[eT.gq]at e
   rw[if_neg (fun q=>hkb q.1)]at e
   exact e
theorem Rel.kP{ρ:eT}{h:AH}{w:World}(hR:Rel ρ h w)(cs:Array Value)(T:TypeId)(n:Nat)(hn:n<=cs.size)(h1:∀j,j<n->(cs.getD j Go.undef).oneCell'=true) :
  Rel (ρ.gq w.heap.size 0 n (fun j=>cs.getD j Go.undef)) h { w with heap:=w.heap.push (.cells cs T) }:=by
 have hR':=hR.grew (iX.alloc w (.cells cs T))
 refine hR'.jA _ _ _ _ (fun j hj=>?_) h1 (fun o _ _=>hR.iB o) (fun r hr=>?_) (fun g e c' _ h2=>?_)
 ·have:j<cs.size:=by omega
  simp[World.cell?,this]
 ·have:=(hR.bound r _ hr).2.1;omega
 ·have:=(hR.iF g e _ h2).2;simp at this
theorem Stp.kP{ρ:eT}{h:AH}{w:World}(hR:Rel ρ h w)(x:Obj)(n:Nat)(f:Nat->Value) :
  Stp ρ h w (ρ.gq w.heap.size 0 n f) h { w with heap:=w.heap.push x }:=
 Stp.jA (Stp.grew (iX.alloc w x)) _ _ _ _ (fun o _ _=>hR.iB o) (.inl (acu _))
structure WK (ρ:eT) (h:AH) (w:World) (b:Nat) (c:Nat × Nat):Prop where
 base:ρ.base<=b
 cells:∃eU T fr,w.heap[b]?=some (.cells eU T fr)/\eU.size=c.2/\∀o,c.1<=o->o<eU.size->¬(fr.1<=o/\o<fr.2)
 gG:∀o v,ρ.gG b o=some v->o<c.1
 obj:∀r,ρ.obj r=some b->h.get r=some .dead
theorem lt_of_block{w:World}{b:Nat}{x:Obj}(h:w.heap[b]?=some x):b<w.heap.size:=by
 rcases ajV b w.heap.size with q|q
 ·exact q
 ·rw[akA q]at h;cases h
theorem Rel.kQ{ρ:eT}{h:AH}{w:World}(hR:Rel ρ h w)(e b:Nat)(c:Nat × Nat)(he:WK ρ h w b c)
  (hg:∀g' e1 c1,h.get g'=some (.fM e1)->ρ.fM g' e1=some (b,c1)->False):Rel (ρ.fG h.next e (b,c)) (h.alloc (.fM e)) w:=by
 obtain⟨eU,T,fr,hbl,hfr⟩:=he.cells
 have hlt:=lt_of_block hbl
 constructor
 ·intro r o b' h1 h2
  rw[AH.au]at h1
  by_cases hr:r=h.next
  ·subst hr;rw[show(ρ.fG h.next e (b,c)).obj=ρ.obj from rfl,hR.fT]at h2;cases h2
  ·rw[if_neg hr]at h1;exact(hR.obj r o b' h1 h2).mono (eT.iK (hR.iw e))
 ·intro r b' h1;obtain⟨a1,a2,a3⟩:=hR.bound r b' h1;exact⟨a1,a2,by simp only[AH.bn,Id.dz];omega⟩
 ·intro r r' b' h1 h2 d1 d2
  have n1:r≠h.next:=by rintro rfl;rw[show(ρ.fG h.next e (b,c)).obj=ρ.obj from rfl,hR.fT]at h1;cases h1
  have n2:r'≠h.next:=by rintro rfl;rw[show(ρ.fG h.next e (b,c)).obj=ρ.obj from rfl,hR.fT]at h2;cases h2
  rw[AH.au,if_neg n1]at d1;rw[AH.au,if_neg n2]at d2
  exact hR.inj r r' b' h1 h2 d1 d2
 ·intro r o h1
  rw[AH.au]at h1
  simp only[AH.bn,Id.dz]
  by_cases hr:r=h.next
  ·subst hr;omega
  ·rw[if_neg hr]at h1;have:=hR.dom r o h1;omega
 ·intro g e' b' c' h1 h2
  rw[AH.au]at h1
  have dead:∀r,ρ.obj r=some b'->h.get r=some .dead->(h.alloc (.fM e)).get r=some .dead:=fun r h3 h4=>by
   rw[AH.au,if_neg]
   ·exact h4
   ·rintro rfl;rw[hR.fresh]at h4;cases h4
  by_cases hr:g=h.next
  ·subst hr
   simp only[if_true,aai,AO.fM.injEq]at h1;subst h1
   rw[eT.fZ]at h2;simp only[aai,abW]at h2;obtain⟨rfl,rfl⟩:=h2
   exact⟨he.base,⟨eU,T,fr,hbl,hfr⟩,he.gG,fun r h3=>dead r h3 (he.obj r h3)⟩
  ·rw[if_neg hr]at h1
   simp only[eT.fG,hr,false_and,if_false]at h2
   obtain⟨a1,a2,a3,a4⟩:=hR.fM g e' b' c' h1 h2
   exact⟨a1,a2,a3,fun r h3=>dead r h3 (a4 r h3)⟩
 ·intro g e' x h1
  simp only[AH.bn,Id.dz]
  simp only[eT.fG]at h1
  split at h1
  ·rename_i hh;simp only[aai]at h1;subst h1;exact⟨by rw[hh.1];omega,hlt⟩
  ·obtain⟨a1,a2⟩:=hR.iF g e' x h1;exact⟨by omega,a2⟩
 ·intro g e1 e2 x h1 h2
  rw[AH.au]at h1
  simp only[eT.fG]at h2
  by_cases hr:g=h.next
  ·subst hr
   simp only[if_true,aai,AO.fM.injEq]at h1;subst h1
   split at h2
   ·rename_i hh;omega
   ·rw[hR.iw]at h2;cases h2
  ·rw[if_neg hr]at h1;rw[if_neg (by simp[hr])]at h2;exact hR.iW g e1 e2 x h1 h2
 ·intro g o e1 x h1 h2
  rw[AH.au]at h1
  by_cases hr:g=h.next
  ·rw[if_pos hr]at h1;simp only[aai]at h1;exact⟨e,h1.symm⟩
  ·rw[if_neg hr]at h1;simp only[eT.fG,hr,false_and,if_false]at h2;exact hR.gone g o e1 x h1 h2
 ·intro g g' e1 e2 b' c1 c2 h1 h2 h3 h4
  rw[AH.au]at h1 h2
  by_cases hr:g=h.next
  ·by_cases hr':g'=h.next
   ·rw[hr,hr']
   ·subst hr
    simp only[if_true,aai,AO.fM.injEq]at h1;subst h1
    rw[if_neg hr']at h2
    rw[eT.fZ]at h3;simp only[aai,abW]at h3;obtain⟨rfl,rfl⟩:=h3
    simp only[eT.fG,hr',false_and,if_false]at h4
    exact(hg g' e2 c2 h2 h4).elim
  ·by_cases hr':g'=h.next
   ·subst hr'
    simp only[if_true,aai,AO.fM.injEq]at h2;subst h2
    rw[if_neg hr]at h1
    rw[eT.fZ]at h4;simp only[aai,abW]at h4;obtain⟨rfl,rfl⟩:=h4
    simp only[eT.fG,hr,false_and,if_false]at h3
    exact(hg g e1 c1 h1 h3).elim
   ·rw[if_neg hr]at h1;rw[if_neg hr']at h2
    simp only[eT.fG,hr,hr',false_and,if_false]at h3 h4
    exact hR.je g g' e1 e2 b' c1 c2 h1 h2 h3 h4
 ·exact hR.gG
 ·exact hR.one
 ·intro b' o v r h1 h2
  have:=hR.jd b' o v r h1 h2
  rw[AH.au,if_neg]
  ·exact this
  ·rintro rfl;rw[hR.fresh]at this;cases this
 ·exact hR.jk
 ·exact hR.jf
theorem Stp.kQ{ρ0 ρ:eT}{h0 h:AH}{w0 w:World}(hR:Rel ρ h w)(e b:Nat)(c:Nat × Nat)(hb:w0.heap.size<=b)(hs:Stp ρ0 h0 w0 ρ h w) :
  Stp ρ0 h0 w0 (ρ.fG h.next e (b,c)) (h.alloc (.fM e)) w where
 le:=eT.le_trans hs.le (eT.iK (hR.iw e))
 next:=by have:=hs.next;simp only[AH.bn,Id.dz];omega
 os:=hs.os
 tape:=hs.tape
 output:=hs.output
 size:=hs.size
 kept:=hs.kept
 old:=hs.old
 gG:=hs.gG
 own:=fun k hk ho=>by
  rcases ho with⟨r,o',hr,hg,hl⟩|⟨g,e',c',hg,he⟩
  ·have n1:r≠h.next:=by rintro rfl;rw[show(ρ.fG h.next e (b,c)).obj=ρ.obj from rfl,hR.fT]at hr;cases hr
   rw[AH.au,if_neg n1]at hg
   exact hs.own k hk (.inl ⟨r,o',hr,hg,hl⟩)
  ·rw[AH.au]at he
   by_cases hgn:g=h.next
   ·subst hgn
    simp only[if_true,aai,AO.fM.injEq]at he;subst he
    rw[eT.fZ]at hg;simp only[aai,abW]at hg;omega
   ·rw[if_neg hgn]at he;simp only[eT.fG,hgn,false_and,if_false]at hg;exact hs.own k hk (.inr ⟨g,e',c',hg,he⟩)
theorem Rel.jT{ρ:eT}{h:AH}{w:World}(hR:Rel ρ h w){g:Id}{e:Nat}(hge:h.get g=some (.fM e))(e' b:Nat)(c:Nat × Nat)(hlt:e<e')
  (he:WK ρ h w b c) (hg:∀g' e1 c1,g'≠g->h.get g'=some (.fM e1)->ρ.fM g' e1=some (b,c1)->False) :
  Rel (ρ.fG g e' (b,c)) (h.set g (.fM e')) w:=by
 obtain⟨eU,T,fr,hbl,hfr⟩:=he.cells
 have hb:=lt_of_block hbl
 have hnone:ρ.fM g e'=none:=by
  cases q:ρ.fM g e' with
  |none=>rfl
  |some x=>have:=hR.iW g e e' x hge q;omega
 have dead:∀{r:Id},h.get r=some .dead->(h.set g (.fM e')).get r=some .dead:=by
  intro r h4
  rw[AH.ak,if_neg]
  ·exact h4
  ·rintro rfl;rw[hge]at h4;cases h4
 have kR:∀{r:Id},(h.set g (.fM e')).get r≠some .dead->h.get r≠some .dead:=fun hd h4=>hd (dead h4)
 constructor
 ·intro r o b' h1 h2
  rw[AH.ak]at h1
  by_cases hr:r=g
  ·rw[if_pos hr]at h1;simp only[aai]at h1;subst h1;trivial
  ·rw[if_neg hr]at h1;exact(hR.obj r o b' h1 h2).mono (eT.iK hnone)
 ·exact hR.bound
 ·intro r r' b' h1 h2 d1 d2;exact hR.inj r r' b' h1 h2 (kR d1) (kR d2)
 ·intro r o h1
  rw[AH.ak]at h1
  by_cases hr:r=g
  ·subst hr;exact hR.dom r _ hge
  ·rw[if_neg hr]at h1;exact hR.dom r o h1
 ·intro g1 e1 b' c' h1 h2
  rw[AH.ak]at h1
  by_cases hr:g1=g
  ·subst hr
   simp only[if_true,aai,AO.fM.injEq]at h1;subst h1
   rw[eT.fZ]at h2;simp only[aai,abW]at h2;obtain⟨rfl,rfl⟩:=h2
   exact⟨he.base,⟨eU,T,fr,hbl,hfr⟩,he.gG,fun r h3=>dead (he.obj r h3)⟩
  ·rw[if_neg hr]at h1
   simp only[eT.fG,hr,false_and,if_false]at h2
   obtain⟨a1,a2,a3,a4⟩:=hR.fM g1 e1 b' c' h1 h2
   exact⟨a1,a2,a3,fun r h3=>dead (a4 r h3)⟩
 ·intro g1 e1 x h1
  simp only[eT.fG]at h1
  split at h1
  ·rename_i hh;simp only[aai]at h1;subst h1;exact⟨by rw[hh.1];exact hR.dom g _ hge,hb⟩
  ·exact hR.iF g1 e1 x h1
 ·intro g1 e1 e2 x h1 h2
  rw[AH.ak]at h1
  simp only[eT.fG]at h2
  by_cases hr:g1=g
  ·subst hr
   simp only[if_true,aai,AO.fM.injEq]at h1;subst h1
   split at h2
   ·rename_i hh;omega
   ·have:=hR.iW g1 e e2 x hge h2;omega
  ·rw[if_neg hr]at h1;rw[if_neg (by simp[hr])]at h2;exact hR.iW g1 e1 e2 x h1 h2
 ·intro g1 o e1 x h1 h2
  rw[AH.ak]at h1
  by_cases hr:g1=g
  ·rw[if_pos hr]at h1;simp only[aai]at h1;exact⟨e',h1.symm⟩
  ·rw[if_neg hr]at h1;simp only[eT.fG,hr,false_and,if_false]at h2;exact hR.gone g1 o e1 x h1 h2
 ·intro g1 g2 e1 e2 b' c1 c2 h1 h2 h3 h4
  rw[AH.ak]at h1 h2
  by_cases hr:g1=g
  ·by_cases hr':g2=g
   ·rw[hr,hr']
   ·subst hr
    simp only[if_true,aai,AO.fM.injEq]at h1;subst h1
    rw[if_neg hr']at h2
    rw[eT.fZ]at h3;simp only[aai,abW]at h3;obtain⟨rfl,rfl⟩:=h3
    simp only[eT.fG,hr',false_and,if_false]at h4
    exact(hg g2 e2 c2 hr' h2 h4).elim
  ·by_cases hr':g2=g
   ·subst hr'
    simp only[if_true,aai,AO.fM.injEq]at h2;subst h2
    rw[if_neg hr]at h1
    rw[eT.fZ]at h4;simp only[aai,abW]at h4;obtain⟨rfl,rfl⟩:=h4
    simp only[eT.fG,hr,false_and,if_false]at h3
    exact(hg g1 e1 c1 hr h1 h3).elim
   ·rw[if_neg hr]at h1;rw[if_neg hr']at h2
    simp only[eT.fG,hr,hr',false_and,if_false]at h3 h4
    exact hR.je g1 g2 e1 e2 b' c1 c2 h1 h2 h3 h4
 ·exact hR.gG
 ·exact hR.one
 ·intro b' o v r h1 h2;exact dead (hR.jd b' o v r h1 h2)
 ·exact hR.jk
 ·exact hR.jf
theorem Rel.jB{ρ:eT}{h:AH}{w w':World}(hR:Rel ρ h w){g:Id}{e b:Nat}{c:Nat × Nat}(hge:h.get g=some (.fM e))(hgb:ρ.fM g e=some (b,c))
  {eU jL:Array Value} {T:TypeId} {fr:Nat × Nat} (hbl:w.heap[b]?=some (.cells eU T fr)) (hsz:jL.size=eU.size) (hlow:∀o,o<c.1->jL[o]?=eU[o]?)
  (hw:Wrote w w' b (.cells jL T fr)):Rel ρ h w':=by
 obtain⟨p1,⟨ajg,T0,fr0,tK,wI⟩,p3,p4⟩:=hR.fM g e b c hge hgb
 rw[hbl]at tK;simp only[aai,Obj.cells.injEq]at tK;obtain⟨rfl,rfl,rfl⟩:=tK
 constructor
 ·intro r o b' h1 h2
  by_cases hb:b'=b
  ·subst hb;have:=p4 r h2;rw[h1]at this;simp only[aai]at this;subst this;trivial
  ·rw[hw.block b' hb];exact hR.obj r o b' h1 h2
 ·intro r b' h1;rw[hw.size];exact hR.bound r b' h1
 ·exact hR.inj
 ·exact hR.dom
 ·intro g1 e1 b' c' h1 h2
  obtain⟨a1,a2,a3,a4⟩:=hR.fM g1 e1 b' c' h1 h2
  refine⟨a1,?_,a3,a4⟩
  by_cases hb:b'=b
  ·subst hb
   obtain rfl:=hR.je g1 g e1 e b' c' c h1 hge h2 hgb
   rw[h1]at hge;simp only[aai,AO.fM.injEq]at hge;subst hge
   rw[h2]at hgb;simp only[aai,abW,true_and]at hgb;subst hgb
   exact⟨jL,T,fr,hw.here,hsz.trans wI.1,fun o h3 h4=>wI.2 o h3 (by rw[<-hsz];exact h4)⟩
  ·rw[hw.block b' hb];exact a2
 ·intro g1 e1 x h1;rw[hw.size];exact hR.iF g1 e1 x h1
 ·exact hR.iW
 ·exact hR.gone
 ·exact hR.je
 ·intro b' o v q
  have h0:=hR.gG b' o v q
  by_cases hb:b'=b
  ·subst hb
   have hlt:=p3 o v q
   simp only[World.cell?,hbl]at h0
   simp only[World.cell?,hw.here]
   simpa[hlow o hlt]using h0
  ·rw[World.cell?_of_block (w:=w) (hw.block b' hb)];exact h0
 ·exact hR.one
 ·exact hR.jd
 ·intro b' z q
  obtain⟨cs,T1,fr1,h1,h2⟩:=hR.jk b' z q
  by_cases e1:b'=b
  ·subst e1
   rw[hbl]at h1;simp only[aai,Obj.cells.injEq]at h1;obtain⟨rfl,rfl,rfl⟩:=h1
   exact⟨jL,T,fr,hw.here,by omega⟩
  ·exact⟨cs,T1,fr1,by rw[hw.block b' e1];exact h1,h2⟩
 ·intro b' cs q
  obtain⟨h0,T1,fr1,h1⟩:=hR.jf b' cs q
  have hge:=(hR.fM g e b c hge hgb).1
  exact⟨h0,T1,fr1,by rw[hw.block b' (by omega)];exact h1⟩
theorem Stp.jB{ρ:eT}{h:AH}{w w':World}{g:Id}{e b:Nat}{c:Nat × Nat}(hge:h.get g=some (.fM e))(hgb:ρ.fM g e=some (b,c)){x:Obj}(hw:Wrote w w' b x):Stp ρ h w ρ h w':=
 ⟨ρ.le_refl,acu _,hw.os,hw.tape,hw.output,by rw[hw.size];exact acu _,fun k _ hn=>hw.block k (by rintro rfl;exact hn (.inr ⟨g,e,c,hgb,hge⟩)),fun _ _ h=>h,fun _ _ _ e=>e,fun _ _ _ _ h=> .inl h⟩
theorem Stp.jT{ρ0 ρ:eT}{h0 h:AH}{w w0:World}(hR:Rel ρ h w){g:Id}{e:Nat}(hge:h.get g=some (.fM e))(e' b:Nat)(c:Nat × Nat)(hlt:e<e')
  (hb:w0.heap.size<=b\/∃c0,ρ.fM g e=some (b,c0)) (hs:Stp ρ0 h0 w0 ρ h w):Stp ρ0 h0 w0 (ρ.fG g e' (b,c)) (h.set g (.fM e')) w where
 le:=eT.le_trans hs.le <|eT.iK (by
  cases q:ρ.fM g e' with
  |none=>rfl
  |some x=>have:=hR.iW g e e' x hge q;omega)
 next:=hs.next
 os:=hs.os
 tape:=hs.tape
 output:=hs.output
 size:=hs.size
 kept:=hs.kept
 old:=hs.old
 gG:=hs.gG
 own:=fun k hk ho=>by
  rcases ho with⟨r,o',hr,hg,hl⟩|⟨g1,e1,c1,hg,he⟩
  ·rw[AH.ak]at hg
   by_cases hrg:r=g
   ·rw[if_pos hrg]at hg;simp only[aai]at hg;subst hg;exact hl.elim
   ·rw[if_neg hrg]at hg;exact hs.own k hk (.inl ⟨r,o',hr,hg,hl⟩)
  ·rw[AH.ak]at he
   by_cases hgn:g1=g
   ·subst hgn
    simp only[if_true,aai,AO.fM.injEq]at he;subst he
    rw[eT.fZ]at hg;simp only[aai,abW]at hg
    rcases hb with hb|⟨c0,hb⟩
    ·omega
    ·exact hs.own k hk (.inr ⟨g1,e,c0,by rw[<-hg.1];exact hb,hge⟩)
   ·rw[if_neg hgn]at he;simp only[eT.fG,hgn,false_and,if_false]at hg;exact hs.own k hk (.inr ⟨g1,e1,c1,hg,he⟩)
end Go.Sk
namespace Go.Sk
variable{P:Program}{ρ:eT}
theorem Gs{t:TypeId}{b:Bool}(h:Ez P t=some b)(w:World):(isAgg t).run P w= .ok b w:=by
 unfold Ez at h
 cases hu:P.underlying t with
 |none=>rw[hu]at h;cases h
 |some d=>rw[hu]at h;simp only[isAgg,Sem.run_bind,run_underlying hu,Result.andThen_ok];cases d<;>simp_all
theorem AU{t:TypeId}{n:Nat}(h:sizeT P t=some n)(w:World):(sizeOf t).run P w= .ok n w:=by
 unfold sizeT at h
 cases hi:P.info? t with
 |none=>rw[hi]at h;cases h
 |some i=>rw[hi]at h;simp only[ajL,aai]at h;subst h;simp[sizeOf,typeInfo,hi]
theorem bf.of_cell{v:Value}{a:AV}(h:Fy v=some a):bf ρ a v:=by
 cases v with
 |bool b=>simp only[Fy,aai]at h;subst h;exact .bool b
 |int k n=>simp only[Fy,aai]at h;subst h;exact .int k n
 |string s=>simp only[Fy,aai]at h;subst h;obtain⟨⟨l⟩⟩:=s;exact .str l
 |pointer a=>cases a<;>simp[Fy]at h;subst h;exact .gF
 |slice a n c=>
  simp only[Fy]at h
  split at h<;>simp_all
  subst h;exact .aj
 |map r=>cases r<;>simp[Fy]at h;subst h;exact .fU
 |nilFunc=>simp only[Fy,aai]at h;subst h;exact .iq
 |nilIface=>simp only[Fy,aai]at h;subst h;exact .fH
 |_=>simp[Fy]at h
theorem dw.of_cells:∀{l:List Value} {a:List AV},l.mapM Fy=some a->dw ρ a l
 |[],a,h=>by simp at h;subst h;exact .nil ρ
 |v::l,a,h=>by
  simp only[List.mapM_cons,Option.bind_eq_bind,Option.pure_def]at h
  cases hv:Fy v with
  |none=>rw[hv]at h;simp at h
  |some x=>
   cases hl:l.mapM Fy with
   |none=>rw[hv,hl]at h;simp at h
   |some y=>rw[hv,hl]at h;simp at h;subst h;exact .cons (.of_cell hv) (dw.of_cells hl)
theorem bf.kS{v:Value}{a:AV}(h:ofConst v=some a):bf ρ a v:=by
 cases v with
 |agg cs=>
  simp only[ofConst]at h
  cases hc:cs.toList.mapM Fy with
  |none=>rw[hc]at h;cases h
  |some l=>
   rw[hc]at h;simp only[ajL,aai]at h;subst h
   have:=bf.j4 (dw.of_cells (ρ:=ρ) hc)
   simpa using this
 |tuple vs=>
  simp only[ofConst]at h
  split at h
  ·rename_i h0
   simp only[aai]at h;subst h
   have:vs= #[]:=Array.eq_empty_of_size_eq_zero h0
   subst this;exact bf.iE (.nil ρ)
  ·cases h
 |_=>exact .of_cell h
theorem Fe{t:TypeId}{z:AV}(h:BL P t=some z)(w:World):∃cz,(zeroValue t).run P w= .ok cz w/\bf ρ z cz:=by
 unfold BL at h
 cases hi:P.info? t with
 |none=>rw[hi]at h;cases h
 |some i=>
  rw[hi]at h
  simp only[ajK]at h
  cases hz:i.zero with
  |none=>rw[hz]at h;cases h
  |some v=>
   rw[hz]at h
   exact⟨v,by simp[zeroValue,typeInfo,hi,hz],.kS h⟩
theorem F3{t:TypeId}{cs:List AV}{eU:List Value}{off:Nat}{v:AV}(hl:dw ρ cs eU)(h:Hq P t cs off=some v)(w:World) :
  ∃cv,(part t eU.toArray off).run P w= .ok cv w/\bf ρ v cv:=by
 unfold Hq at h
 cases ha:Ez P t with
 |none=>rw[ha]at h;cases h
 |some b=>
  rw[ha]at h
  cases b with
  |true=>
   simp only at h
   cases hs:sizeT P t with
   |none=>rw[hs]at h;cases h
   |some n=>
    rw[hs]at h;simp only[ajL,aai]at h;subst h
    refine⟨.agg ((eU.drop off).take n).toArray,?_,bf.j4 ((hl.drop off).take n)⟩
    simp[part,Gs ha,AU hs]
  |false=>
   simp only at h
   obtain⟨x,hx,hr⟩:=hl.find h
   exact⟨x,by simp[part,Gs ha,hx],hr⟩
theorem J9(d:Nat)(ih:∀t x y b cx cy (w:World),E9 P d t x y=some b->bf ρ x cx->bf ρ y cy->(Op.equalIn d t cx cy).run P w= .ok b w)
  {xs ys:List AV} {tL tN:List Value} (hx:dw ρ xs tL) (hy:dw ρ ys tN) (w:World) :
  ∀(fs:List Field) (b:Bool),Ie P (E9 P d) xs ys fs=some b->(Op.eqFields d tL.toArray tN.toArray fs).run P w= .ok b w
 |[],b,h=>by simp only[Ie,aai]at h;subst h;rfl
 |f::fs,b,h=>by
  unfold Ie at h
  unfold Op.eqFields
  split at h
  ·rename_i hn
   rw[if_pos hn]
   cases ha:Hq P f.type xs f.offset with
   |none=>rw[ha]at h;simp at h
   |some a=>
    cases hb:Hq P f.type ys f.offset with
    |none=>rw[ha,hb]at h;simp at h
    |some c=>
     rw[ha,hb]at h
     simp only at h
     obtain⟨ca,h1,r1⟩:=F3 hx ha w
     obtain⟨cc,h2,r2⟩:=F3 hy hb w
     simp only[Sem.run_bind,h1,h2,Result.andThen_ok]
     cases he:E9 P d f.type a c with
     |none=>rw[he]at h;simp at h
     |some e=>
      rw[he]at h
      rw[ih _ _ _ _ _ _ w he r1 r2]
      cases e with
      |true=>simp only at h;simpa using J9 d ih hx hy w fs b h
      |false=>simp only[aai]at h;subst h;simp
  ·rename_i hn
   rw[if_neg hn]
   exact J9 d ih hx hy w fs b h
theorem P9(d:Nat)(elem n:TypeId)(ih:∀t x y b cx cy (w:World),E9 P d t x y=some b->bf ρ x cx->bf ρ y cy->(Op.equalIn d t cx cy).run P w= .ok b w)
  {xs ys:List AV} {tL tN:List Value} (hx:dw ρ xs tL) (hy:dw ρ ys tN) (w:World) (b:Bool):∀(k i:Nat),K7 P (E9 P d elem) elem n xs ys k i=some b->
  (do
   for j in List.range' i k do
    let a <-part elem tL.toArray (j*n)
    let c <-part elem tN.toArray (j*n)
    if !(<-Op.equalIn d elem a c)then return false
   pure true:Sem Bool).run P w= .ok b w
 |0,i,h=>by simp only[K7,aai]at h;subst h;rfl
 |k+1,i,h=>by
  unfold K7 at h
  cases ha:Hq P elem xs (i*n)with
  |none=>rw[ha]at h;simp at h
  |some a=>
   cases hb:Hq P elem ys (i*n)with
   |none=>rw[ha,hb]at h;simp at h
   |some c=>
    rw[ha,hb]at h
    simp only at h
    obtain⟨ca,h1,r1⟩:=F3 hx ha w
    obtain⟨cc,h2,r2⟩:=F3 hy hb w
    simp only[List.range'_succ,List.forIn_cons,Sem.run_bind,h1,h2,Result.andThen_ok]
    cases he:E9 P d elem a c with
    |none=>rw[he]at h;simp at h
    |some e=>
     rw[he]at h
     rw[ih _ _ _ _ _ _ w he r1 r2]
     cases e with
     |true=>
      simp only at h
      have:=P9 d elem n ih hx hy w b k (i+1) h
      simpa using this
     |false=>simp only[aai]at h;subst h;simp
theorem aan:∀(d:Nat) (t:TypeId) (x y:AV) (b:Bool) (cx cy:Value) (w:World),E9 P d t x y=some b->bf ρ x cx->bf ρ y cy->(Op.equalIn d t cx cy).run P w= .ok b w:=by
 intro d
 induction d with
 |zero=>intro t x y b cx cy w h;simp[E9]at h
 |succ d ih=>
  intro t x y b cx cy w h hx hy
  unfold E9 at h
  cases hu:P.underlying t with
  |none=>rw[hu]at h;simp at h
  |some ty=>
   rw[hu]at h
   cases ty with
   |bool=>
    simp only at h
    cases x<;>cases y<;>simp at h
    subst h;cases hx;cases hy;simp[Op.equalIn,run_underlying hu]
   |int k=>
    simp only at h
    cases x<;>cases y<;>simp at h
    obtain⟨rfl,rfl⟩:=h;cases hx;cases hy;simp[Op.equalIn,run_underlying hu]
   |string=>
    simp only at h
    cases x<;>cases y<;>simp at h
    subst h;cases hx;cases hy
    rw[run_equalIn_string w d t _ _ hu,ByteArray.toList_eq,ByteArray.toList_eq]
   |pointer e=>
    simp only at h
    cases x<;>cases y<;>simp at h
    ·subst h;cases hx;cases hy;simp[Op.equalIn,run_underlying hu]
    ·subst h;cases hx;cases hy;simp[Op.equalIn,run_underlying hu]
    ·subst h;cases hx;cases hy;simp[Op.equalIn,run_underlying hu]
    ·subst h;cases hx;cases hy;simp[Op.equalIn,run_underlying hu]
    ·rename_i r1 o1 r2 o2
     obtain⟨⟨rfl,hs⟩,rfl⟩:=h
     cases hx with|ptr _ _ b1 h1=>
     cases hy with|ptr _ _ b2 h2=>
     rw[h1]at h2;simp only[aai]at h2;subst h2
     cases hn:sizeT P e with
     |none=>rw[hn]at hs;simp at hs
     |some n=>
      rw[hn]at hs
      have hn0:n≠0:=by simpa using hs
      simp[Op.equalIn,run_underlying hu,AU hn,hn0,sameAddr]
      by_cases e:o1=o2
      ·subst e;simp
      ·have:(({ block:=b1,off:=o1,spot:=none }:Addr)== { block:=b1,off:=o2,spot:=none })=false:=by
        rw[beq_eq_false_iff_ne];intro q;cases q;exact e rfl
       simp[this,e]
    ·subst h;cases hx;cases hy;simp[Op.equalIn,run_underlying hu]
   |slice e=>
    simp only at h
    cases x<;>cases y<;>simp at h<;>subst h<;>cases hx<;>cases hy<;>simp[Op.equalIn,run_underlying hu]
   |map k e=>
    simp only at h
    cases x<;>cases y<;>simp at h<;>subst h<;>cases hx<;>cases hy<;>simp[Op.equalIn,run_underlying hu]
   |func a c e=>
    simp only at h
    cases x<;>cases y<;>simp at h<;>subst h<;>cases hx<;>cases hy<;>simp[Op.equalIn,run_underlying hu]
   |interface ms=>
    simp only at h
    cases x<;>cases y<;>simp at h
    ·rename_i tx vx ty vy
     cases hx with|iface _ _ cvx hvx=>
     cases hy with|iface _ _ cvy hvy=>
     by_cases e:tx=ty
     ·subst e
      rw[if_pos rfl]at h
      cases hi:P.info? tx with
      |none=>rw[hi]at h;simp at h
      |some i=>
       rw[hi]at h
       by_cases hc:i.comparable
       ·simp only[Option.any_some,hc,if_true]at h
        have:=ih tx vx vy b cvx cvy w h hvx hvy
        simp[Op.equalIn,run_underlying hu,typeInfo,hi,hc,this]
       ·simp[hc]at h
     ·rw[if_neg e]at h;simp only[aai]at h;subst h
      simp[Op.equalIn,run_underlying hu,e]
    ·subst h;cases hx;cases hy;simp[Op.equalIn,run_underlying hu]
    ·subst h;cases hx;cases hy;simp[Op.equalIn,run_underlying hu]
    ·subst h;cases hx;cases hy;simp[Op.equalIn,run_underlying hu]
   |struct fs=>
    simp only at h
    cases x<;>cases y<;>simp at h
    rename_i xs ys
    obtain⟨hst,h⟩:=h
    obtain⟨tL,rfl,lx⟩:=hx.iN
    obtain⟨tN,rfl,ly⟩:=hy.iN
    have hf:P.fieldsOf t=fs:=by simp[Program.fieldsOf,hu]
    rw[run_equalIn_struct w d t _ _ (by rw[hf];exact hu) hst,hf]
    exact J9 d ih lx ly w fs.toList b h
   |array len elem=>
    simp only at h
    cases hn:sizeT P elem with
    |none=>rw[hn]at h;cases x<;>cases y<;>simp at h
    |some n=>
     rw[hn]at h
     cases x<;>cases y<;>simp at h
     rename_i xs ys
     obtain⟨tL,rfl,lx⟩:=hx.iN
     obtain⟨tN,rfl,ly⟩:=hy.iN
     have:=P9 d elem n ih lx ly w b len 0 h
     simp only[Op.equalIn,Sem.run_bind,run_underlying hu,AU hn,Result.andThen_ok]
     rw[Std.Legacy.Range.forIn_eq_forIn_range']
     simpa using this
   |_=>simp at h
theorem UW{t:TypeId}{x y:AV}{b:Bool}{cx cy:Value}(w:World)(h:nT P t x y=some b)(hx:bf ρ x cx)(hy:bf ρ y cy):(Op.equal t cx cy).run P w= .ok b w:=
 aan 10000 t x y b cx cy w h hx hy
end Go.Sk
namespace Go.Sk
variable{P:Program}{ρ:eT}
theorem Gc(r:Result PUnit):(r.andThen fun _ w'=> .ok () w')=r:=by cases r<;>rfl
theorem MJ(empty:Bool)(d:Nat)(ih:∀t v cv (w:World),F8 P d t v=true->bf ρ v cv->(Instr.checkKey empty d t cv).run P w= .ok () w)
  {cs:List AV} {eU:List Value} (hl:dw ρ cs eU) (w:World):∀(fs:List Field),Kr P (F8 P d) cs fs=true->
  (do
   for f in fs do
    if f.name≠ "_" then Instr.checkKey empty d f.type (<-part f.type eU.toArray f.offset)
   pure ():Sem Unit).run P w= .ok () w
 |[],_=>rfl
 |f::fs,h=>by
  simp only[Kr,aci]at h
  obtain⟨h1,h2⟩:=h
  have zU:=MJ empty d ih hl w fs h2
  simp only[List.forIn_cons,Sem.run_bind]
  split
  ·rename_i hn
   rw[if_pos hn]at h1
   cases ha:Hq P f.type cs f.offset with
   |none=>rw[ha]at h1;simp at h1
   |some v=>
    rw[ha]at h1
    obtain⟨cv,hp,hr⟩:=F3 hl ha w
    simp only[Sem.run_bind,hp,Result.andThen_ok,ih _ _ _ w h1 hr]
    simpa[Gc]using zU
  ·simpa[Gc]using zU
theorem Oq(empty:Bool)(d:Nat)(elem n:TypeId)(ih:∀t v cv (w:World),F8 P d t v=true->bf ρ v cv->(Instr.checkKey empty d t cv).run P w= .ok () w)
  (hn:sizeT P elem=some n) {cs:List AV} {eU:List Value} (hl:dw ρ cs eU) (w:World):∀(k i:Nat),LK P (F8 P d elem) elem n cs k i=true->
  (do
   for j in List.range' i k do Instr.checkKey empty d elem (<-part elem eU.toArray (j*(<-sizeOf elem)))
   pure ():Sem Unit).run P w= .ok () w
 |0,i,_=>rfl
 |k+1,i,h=>by
  simp only[LK,aci]at h
  obtain⟨h1,h2⟩:=h
  have zU:=Oq empty d elem n ih hn hl w k (i+1) h2
  cases ha:Hq P elem cs (i*n)with
  |none=>rw[ha]at h1;simp at h1
  |some v=>
   rw[ha]at h1
   obtain⟨cv,hp,hr⟩:=F3 hl ha w
   simp only[List.range'_succ,List.forIn_cons,Sem.run_bind,AU hn,hp,Result.andThen_ok,ih _ _ _ w h1 hr]
   simpa[Gc]using zU
theorem run_checkKey(empty:Bool):∀(d:Nat) (t:TypeId) (v:AV) (cv:Value) (w:World),F8 P d t v=true->bf ρ v cv->(Instr.checkKey empty d t cv).run P w= .ok () w:=by
 intro d
 induction d with
 |zero=>intro t v cv w h;simp[F8]at h
 |succ d ih=>
  intro t v cv w h hv
  unfold F8 at h
  cases hu:P.underlying t with
  |none=>rw[hu]at h;simp at h
  |some ty=>
   rw[hu]at h
   cases ty with
   |interface ms=>simp at h
   |array len elem=>
    simp only at h
    cases hn:sizeT P elem with
    |none=>rw[hn]at h;cases v<;>simp at h
    |some n=>
     rw[hn]at h
     cases v<;>simp at h
     obtain⟨eU,rfl,hl⟩:=hv.iN
     have:=Oq empty d elem n ih hn hl w len 0 h
     simp only[Instr.checkKey,Sem.run_bind,run_underlying hu,Result.andThen_ok]
     rw[Std.Legacy.Range.forIn_eq_forIn_range']
     simpa[Gc]using this
   |struct fs=>
    simp only at h
    cases v<;>simp at h
    obtain⟨eU,rfl,hl⟩:=hv.iN
    have:=MJ empty d ih hl w fs.toList h
    simp only[Instr.checkKey,Sem.run_bind,run_underlying hu,Result.andThen_ok]
    rw[<-Array.forIn_toList]
    simpa[Gc]using this
   |_=>simp[Instr.checkKey,run_underlying hu]
theorem bf.plainCell{a b:AV}{ca cb:Value}(h:Dk a b=true)(ha:bf ρ a ca)(hb:bf ρ b cb):ca=cb/\(∀n,Instr.sameBits n ca cb=true):=by
 cases a<;>cases b<;>simp[Dk]at h
 ·subst h;cases ha;cases hb;exact⟨rfl,fun n=>by cases n<;>simp[Instr.sameBits]⟩
 ·obtain⟨rfl,rfl⟩:=h;cases ha;cases hb;exact⟨rfl,fun n=>by cases n<;>simp[Instr.sameBits]⟩
 ·subst h;cases ha;cases hb;exact⟨rfl,fun n=>by cases n<;>simp[Instr.sameBits,beq_toListBytes]⟩
theorem dw.kT:∀{a b:List AV} {ca cb:List Value},BR a b=true->dw ρ a ca->dw ρ b cb->ca=cb/\(∀n,(ca.zip cb).all (fun x=>Instr.sameBits n x.1 x.2)=true)
 |[],[],[],[],_,_,_=>⟨rfl,fun _=>rfl⟩
 |[],[],[],_::_,_,_,h=>by have:=h.1;simp at this
 |[],[],_::_,_,_,h,_=>by have:=h.1;simp at this
 |[],_::_,_,_,h,_,_=>by simp[BR]at h
 |_::_,[],_,_,h,_,_=>by simp[BR]at h
 |_::_,_::_,[],_,_,h,_=>by have:=h.1;simp at this
 |_::_,_::_,_::_,[],_,_,h=>by have:=h.1;simp at this
 |a::l,b::r,ca::cl,cb::cr,h,ha,hb=>by
  simp only[BR,aci]at h
  obtain⟨e1,f1⟩:=bf.plainCell h.1 ha.head hb.head
  obtain⟨e2,f2⟩:=dw.kT h.2 ha.tail hb.tail
  exact⟨by rw[e1,e2],fun n=>by simp only[List.zip_cons_cons,adP,f1 n,f2 n,Bool.and_true]⟩
theorem bf.plain{a b:AV}{ca cb:Value}(h:D5 a b=true)(ha:bf ρ a ca)(hb:bf ρ b cb):Instr.sameBits 10000 ca cb=true:=by
 cases a with
 |agg as=>
  cases b with
  |agg bs=>
   obtain⟨eU,rfl,hl⟩:=ha.iN
   obtain⟨cds,rfl,hm⟩:=hb.iN
   obtain⟨rfl,hf⟩:=dw.kT (by simpa[D5]using h) hl hm
   have:=hf 9999
   simp only[Instr.sameBits,beq_self_eq_true,akT]
   simpa using this
  |_=>simp[D5,Dk]at h
 |_=>cases b<;>exact(bf.plainCell (by simpa[D5]using h) ha hb).2 _
theorem ML{kt:TypeId}{d:TypeDesc}{a b:Value}{r:Bool}(hu:P.underlying kt=some d)(h:Instr.sameNow d a b=some r)(w:World):(Op.equal kt a b).run P w= .ok r w:=by
 unfold Instr.sameNow at h
 split at h
 ·split at h
  ·rename_i hk;subst hk;simp only[aai]at h;subst h;exact run_equalIn_int w 9999 kt _ _ _ _ hu
  ·cases h
 ·simp only[aai]at h;subst h
  rw[show Op.equal kt=Op.equalIn (9999+1) kt from rfl,run_equalIn_string w 9999 kt _ _ hu,beq_toListBytes]
 ·simp only[aai]at h;subst h;exact run_equalIn_bool' w 9999 kt _ _ hu
 ·cases h
def gL(ρ:eT)(es:List (AV × AV × Nat))(gK:List MapEntry):Prop:=gK.length=es.length/\∀i (hi:i<es.length) (hj:i<gK.length),Z0 ρ es[i] gK[i]
theorem gL.head{e:AV × AV × Nat}{es:List (AV × AV × Nat)}{c:MapEntry}{gK:List MapEntry}(h:gL ρ (e::es) (c::gK)):Z0 ρ e c:=h.2 0 (by simp) (by simp)
theorem gL.tail{e:AV × AV × Nat}{es:List (AV × AV × Nat)}{c:MapEntry}{gK:List MapEntry}(h:gL ρ (e::es) (c::gK)):gL ρ es gK:=
 ⟨by have:=h.1;simpa using this,fun i hi hj=>h.2 (i+1) (by simpa using hi) (by simpa using hj)⟩
def Found(k:AV)(es:List (AV × AV × Nat))(i0:Nat)(r:Option (Nat × AV × Nat)):Prop:=
 match r with
 |none=>True
 |some (i,v,b)=>i0<=i/\∃k',es[i - i0]?=some (k',v,b)/\D5 k k'=true
def R9(gK:List MapEntry)(i0:Nat)(r:Option (Nat × AV × Nat))(q:Option (Nat × Value)):Prop:=
 match r,q with
 |none,none=>True
 |some (i,_,_),some (j,cv)=>j=i/\(gK[i - i0]?).map (·.val)=some cv
 |_,_=>False
theorem Uz{kt:TypeId}{d:TypeDesc}(hu:P.underlying kt=some d){k:AV}{ck:Value}(hk:bf ρ k ck)(w:World) :
  ∀(es:List (AV × AV × Nat)) (gK:List MapEntry) (i:Nat) (r:Option (Nat × AV × Nat)),gL ρ es gK->NT (fun e=>nT P kt k e) k es i=some r->
   Found k es i r/\(∃q,(Instr.findAsking kt ck gK i).run P w= .ok q w/\R9 gK i r q)/\(∀q,Instr.findNow d ck gK i=some q->R9 gK i r q)
 |[],[],i,r,_,h=>by
  simp only[NT,aai]at h;subst h
  exact⟨trivial,⟨none,rfl,trivial⟩,fun q hq=>by simp only[Instr.findNow,aai]at hq;subst hq;trivial⟩
 |[],_::_,_,_,h,_=>by have:=h.1;simp at this
 |_::_,[],_,_,h,_=>by have:=h.1;simp at this
 |(k',v,b)::es,c::gK,i,r,he,h=>by
  have hh:=he.head
  unfold NT at h
  cases hq:nT P kt k k' with
  |none=>simp[hq]at h
  |some t=>
   have hrun:=UW w hq hk hh.1
   cases t with
   |true=>
    simp only[hq]at h
    split at h
    ·rename_i hp
     simp only[aai]at h;subst h
     refine⟨⟨acu _,k',by simp,hp⟩,⟨some (i,c.val),?_,rfl,by simp⟩,?_⟩
     ·simp[Instr.findAsking,hrun]
     ·intro q hf
      simp only[Instr.findNow]at hf
      split at hf
      ·simp only[aai]at hf;subst hf;exact⟨rfl,by simp⟩
      ·rename_i hs
       have:=ML (P:=P) hu hs w
       rw[hrun]at this;cases this
      ·cases hf
    ·cases h
   |false=>
    simp only[hq]at h
    obtain⟨f1,⟨q,f2,f3⟩,f4⟩:=Uz hu hk w es gK (i+1) r he.tail h
    have up:∀q,R9 gK (i+1) r q->R9 (c::gK) i r q:=by
     intro q hf
     cases r with
     |none=>
      cases q with
      |none=>trivial
      |some y=>exact hf.elim
     |some x=>
      obtain⟨j,v',b'⟩:=x
      cases q with
      |none=>exact hf.elim
      |some y=>
       obtain⟨e1,e2⟩:=hf
       refine⟨e1,?_⟩
       have hle:i+1<=j:=f1.1
       rw[show j - i=(j - (i+1))+1 by omega,ajT];exact e2
    refine⟨?_,⟨q,?_,up q f3⟩,?_⟩
    ·cases r with
     |none=>trivial
     |some x=>
      obtain⟨j,v',b'⟩:=x
      obtain⟨e1,k2,e2,e3⟩:=f1
      exact⟨by omega,k2,by rw[show j - i=(j - (i+1))+1 by omega,ajT];exact e2,e3⟩
    ·simp[Instr.findAsking,hrun,f2]
    ·intro q hf
     simp only[Instr.findNow]at hf
     split at hf
     ·rename_i hs
      have:=ML (P:=P) hu hs w
      rw[hrun]at this;cases this
     ·exact up q (f4 q hf)
     ·cases hf
theorem run_findKey{kt:TypeId}{k:AV}{ck:Value}(hk:bf ρ k ck){es:List (AV × AV × Nat)}{gK:List MapEntry}(he:gL ρ es gK){r:Option (Nat × AV × Nat)}
  (h:ES P kt k es=some r) (w:World):(∀empty,(Instr.checkKey empty 10000 kt ck).run P w= .ok () w)/\Found k es 0 r/\∃q,(Instr.findKey kt ck gK).run P w= .ok q w/\R9 gK 0 r q:=by
 unfold ES at h
 split at h
 ·rename_i hok
  have hck:∀empty,(Instr.checkKey empty 10000 kt ck).run P w= .ok () w:=fun empty=>run_checkKey empty 10000 kt k ck w hok hk
  cases hu:P.underlying kt with
  |none=>simp[F8,hu]at hok
  |some d=>
   obtain⟨f1,⟨q,f2,f3⟩,f4⟩:=Uz hu hk w es gK 0 r he h
   refine⟨hck,f1,?_⟩
   simp only[Instr.findKey,Sem.run_bind,run_underlying hu,Result.andThen_ok]
   cases hn:Instr.findNow d ck gK 0 with
   |none=>exact⟨q,by simpa using f2,f3⟩
   |some q'=>exact⟨q',rfl,f4 q' hn⟩
 ·cases h
end Go.Sk
namespace Go.Sk
variable{P:Program}{ρ:eT}
theorem WO{op:BinOp}{t:TypeId}{ox oy:Operand}{x y:AV}{cx cy:Value}(h:Ip P t ox oy x y=true)(hx:bf ρ x cx)(hy:bf ρ y cy)(w:World) :
  (eqGuard op t ox oy cx cy).run P w= .ok () w:=by
 unfold eqGuard
 split
 case h_3=>rfl
 all_goals
  simp only[alh,ajI,if_false]
  split
  ·cases hx;cases hy
   simp only[Ip,ajM]at h
   rw[if_pos]
   ·rfl
   ·rcases h with h|h
    ·cases ox<;>simp at h ⊢
    ·cases oy<;>simp at h ⊢
  ·cases hx;cases hy
   simp only[Ip,akF]at h
   simp[h]
  ·rfl
theorem bf.mM{v:AV}{k:FloatKind}{b:Nat}(h:bf ρ v (.float k b)):False:=by cases h
theorem bf.kU{v:AV}{k:FloatKind}{a b:Nat}(h:bf ρ v (.complex k a b)):False:=by cases h
theorem binOp_eql(t:TypeId){cx cy:Value}(h1:∀k a k' b,cx= .int k a->cy= .int k' b->False)(h2:∀k a,cx= .float k a->False)
  (h3:∀k a b,cx= .complex k a b->False) (h4:∀a b,cx= .string a->cy= .string b->False) :
  binOp .eql t cx cy=(do pure (.bool (<-Op.equal t cx cy)):Sem Value):=by
 unfold binOp
 split
 all_goals first
  |rfl
  |exact(h1 _ _ _ _ rfl rfl).elim
  |exact(h2 _ _ rfl).elim
  |exact(h3 _ _ _ rfl).elim
  |exact(h4 _ _ rfl rfl).elim
  |(simp_all;done)
theorem binOp_neq(t:TypeId){cx cy:Value}(h1:∀k a k' b,cx= .int k a->cy= .int k' b->False)(h2:∀k a,cx= .float k a->False)
  (h3:∀k a b,cx= .complex k a b->False) (h4:∀a b,cx= .string a->cy= .string b->False) :
  binOp .neq t cx cy=(do pure (.bool (!(<-Op.equal t cx cy))):Sem Value):=by
 unfold binOp
 split
 all_goals first
  |rfl
  |exact(h1 _ _ _ _ rfl rfl).elim
  |exact(h2 _ _ rfl).elim
  |exact(h3 _ _ _ rfl).elim
  |exact(h4 _ _ rfl rfl).elim
  |(simp_all;done)
theorem Y3{op:BinOp}(hs:op≠ .shl)(hr:op≠ .shr){t:TypeId}{k:IntKind}{a b:Int}{v:AV}(h:Ku op k a b=some v)(w:World) :
  ∃cv,(binOp op t (.int k a) (.int k b)).run P w= .ok cv w/\bf ρ v cv:=by
 cases op<;>first|exact absurd rfl hs|exact absurd rfl hr|skip
 case quo=>
  simp only[Ku]at h
  split at h
  ·cases h
  ·rename_i hb;simp only[aai]at h;subst h
   refine⟨_,?_,.int _ _⟩
   simp[binOp,Op.intDiv,hb]
 case rem=>
  simp only[Ku]at h
  split at h
  ·cases h
  ·rename_i hb;simp only[aai]at h;subst h
   refine⟨_,?_,.int _ _⟩
   simp[binOp,Op.intDiv,hb]
 all_goals
  simp only[Ku,JQ,ajL,aai]at h;subst h
  first
   |(refine⟨_,?_,.int _ _⟩;simp[binOp,Op.intArith];done)
   |(refine⟨_,?_,.int _ _⟩;simp[binOp,Op.intBits];done)
   |(refine⟨_,?_,.bool _⟩;simp[binOp,Op.intCmp];done)
theorem Te{op:BinOp}{k yk:IntKind}{a b:Int}{v:AV}(h:UZ op k a b=some v)(w:World) :
  ∃cv,(Op.shift op k a yk b).run P w= .ok cv w/\bf ρ v cv:=by
 unfold UZ at h
 split at h
 ·cases h
 ·rename_i hb
  cases op<;>simp at h
  ·subst h;refine⟨_,?_,.int _ _⟩;simp[Op.shift,hb]
  ·subst h;refine⟨_,?_,.int _ _⟩;simp[Op.shift,hb]
theorem Ym{op:BinOp}{a b:List UInt8}{v:AV}(h:YV op a b=some v)(w:World) :
  ∃cv,(Op.stringOp op ⟨⟨a⟩⟩ ⟨⟨b⟩⟩).run P w= .ok cv w/\bf ρ v cv:=by
 have e:∀l:List UInt8,(⟨⟨l⟩⟩:ByteArray).toList=l:=fun l=>by rw[ByteArray.toList_eq]
 cases op<;>simp[YV]at h
 ·obtain⟨h1,rfl⟩:=h
  refine⟨.string (⟨⟨a⟩⟩++⟨⟨b⟩⟩),?_,?_⟩
  ·have:¬(((⟨⟨a⟩⟩:ByteArray).size+(⟨⟨b⟩⟩:ByteArray).size:Nat):Int)>IntKind.i64.max:=by
    have h2:IntKind.i64.max=9223372036854775807:=by decide
    rw[h2]
    show ¬((a.length+b.length:Nat):Int)>_
    omega
   simp only[Op.stringOp]
   rw[if_neg this];rfl
  ·have:(⟨⟨a⟩⟩++⟨⟨b⟩⟩:ByteArray)=⟨⟨a++b⟩⟩:=by
    apply ByteArray.ext
    simp[ByteArray.data_append]
   rw[this];exact .str _
 all_goals
  subst h
  refine⟨_,?_,.bool _⟩
  simp[Op.stringOp,e]
end Go.Sk
namespace Go.Sk
variable{P:Program}{ρ:eT}
theorem YE{op:BinOp}{t:TypeId}{ox oy:Operand}{x y v:AV}{cx cy:Value}(hni:∀k a k' b,x= .int k a->y= .int k' b->False)(hns:∀a b,x= .str a->y= .str b->False)
  (h:YH P op t ox oy x y=some v) (hx:bf ρ x cx) (hy:bf ρ y cy) (w:World):Ip P t ox oy x y=true/\∃cv,(binOp op t cx cy).run P w= .ok cv w/\bf ρ v cv:=by
 unfold YH at h
 split at h
 ·rename_i hg
  refine⟨hg,?_⟩
  cases op<;>simp only[aj4]at h<;>try (cases h;done)
  ·obtain⟨b,hq,rfl⟩:=h
   have hrun:=UW w hq hx hy
   refine⟨.bool b,?_,.bool b⟩
   rw[binOp_eql t (by rintro k a k' b rfl rfl;cases hx;cases hy;exact hni _ _ _ _ rfl rfl) (by rintro k a rfl;exact hx.mM) (by rintro k a b rfl;exact hx.kU)
    (by rintro a b rfl rfl;cases hx;cases hy;exact hns _ _ rfl rfl)]
   simp[hrun]
  ·obtain⟨b,hq,rfl⟩:=h
   have hrun:=UW w hq hx hy
   refine⟨.bool (!b),?_,.bool _⟩
   rw[binOp_neq t (by rintro k a k' b rfl rfl;cases hx;cases hy;exact hni _ _ _ _ rfl rfl) (by rintro k a rfl;exact hx.mM) (by rintro k a b rfl;exact hx.kU)
    (by rintro a b rfl rfl;cases hx;cases hy;exact hns _ _ rfl rfl)]
   simp[hrun]
 ·cases h
theorem V6{op:BinOp}(hs:op≠ .shl)(hr:op≠ .shr){t:TypeId}{ox oy:Operand}{x y v:AV}{cx cy:Value}(h:Rt P op t ox oy x y=some v)
  (hx:bf ρ x cx) (hy:bf ρ y cy) (w:World):Ip P t ox oy x y=true/\∃cv,(binOp op t cx cy).run P w= .ok cv w/\bf ρ v cv:=by
 unfold Rt at h
 split at h
 ·split at h
  ·rename_i hk;subst hk
   cases hx;cases hy
   exact⟨rfl,Y3 hs hr h w⟩
  ·cases h
 ·cases hx;cases hy
  obtain⟨cv,hrun,hv⟩:=Ym (P:=P) (ρ:=ρ) h w
  exact⟨rfl,cv,by cases op<;>first|exact absurd rfl hs|exact absurd rfl hr|exact hrun,hv⟩
 ·rename_i hni hns
  exact YE (fun k a k' b e1 e2=>hni k a k' b e1 e2) (fun a b e1 e2=>hns a b e1 e2) h hx hy w
theorem XJ{op:BinOp}{t:TypeId}{ox oy:Operand}{x y v:AV}{cx cy:Value}(h:FH P op t ox oy x y=some v)(hx:bf ρ x cx)(hy:bf ρ y cy)(w:World) :
  ∃cv,(do eqGuard op t ox oy cx cy;binOp op t cx cy:Sem Value).run P w= .ok cv w/\bf ρ v cv:=by
 have guard:Ip P t ox oy x y=true/\(∃cv,(binOp op t cx cy).run P w= .ok cv w/\bf ρ v cv)->∃cv,(do eqGuard op t ox oy cx cy;binOp op t cx cy:Sem Value).run P w= .ok cv w/\bf ρ v cv:=by
  intro⟨hg,cv,hr,hv⟩
  exact⟨cv,by simp only[Sem.run_bind,WO hg hx hy,Result.andThen_ok,hr],hv⟩
 refine guard ?_
 unfold FH at h
 split at h
 ·split at h
  ·rename_i k a yk b
   cases hx;cases hy
   obtain⟨cv,hr,hv⟩:=Te (P:=P) (ρ:=ρ) (yk:=yk) h w
   exact⟨rfl,cv,hr,hv⟩
  ·cases h
 ·split at h
  ·rename_i k a yk b
   cases hx;cases hy
   obtain⟨cv,hr,hv⟩:=Te (P:=P) (ρ:=ρ) (yk:=yk) h w
   exact⟨rfl,cv,hr,hv⟩
  ·cases h
 ·rename_i hs hr
  exact V6 hs hr h hx hy w
theorem Z5{op:UnOp}{x v:AV}{cx:Value}(h:WY op x=some v)(hx:bf ρ x cx)(w:World):∃cv,(Op.unary op cx).run P w= .ok cv w/\bf ρ v cv:=by
 cases op<;>cases x<;>simp[WY]at h
 ·cases hx
  simp only[Ku,aai]at h;subst h
  refine⟨_,?_,.int _ _⟩;simp[Op.unary,Op.intArith]
 ·cases hx
  simp only[Ku,JQ,ajL,aai]at h;subst h
  refine⟨_,?_,.int _ _⟩;simp[Op.unary,Op.intBits]
 ·subst h;cases hx;refine⟨_,?_,.bool _⟩;simp[Op.unary]
theorem Yb{t:TypeId}{x v:AV}{cx:Value}{i:Nat}(h:S9 P t x i=some v)(hx:bf ρ x cx)(w:World):∃cv,(Instr.field t cx i).run P w= .ok cv w/\bf ρ v cv:=by
 unfold S9 at h
 split at h
 ·rename_i fs cs hu
  obtain⟨eU,rfl,hl⟩:=hx.iN
  cases hf:fs[i]? with
  |none=>rw[hf]at h;simp at h
  |some f=>
   rw[hf]at h
   obtain⟨cv,hr,hv⟩:=F3 hl h w
   exact⟨cv,by simp[Instr.field,run_underlying hu,hf,asAgg,hr],hv⟩
 ·cases h
theorem XM{t:TypeId}{x ix v:AV}{cx ci:Value}(h:MW P t x ix=some v)(hx:bf ρ x cx)(hi:bf ρ ix ci)(w:World):∃cv,(Instr.index t cx ci).run P w= .ok cv w/\bf ρ v cv:=by
 unfold MW at h
 split at h
 ·rename_i len elem cs k i hu
  obtain⟨eU,rfl,hl⟩:=hx.iN
  cases hi
  split at h
  ·rename_i hb
   cases hs:sizeT P elem with
   |none=>rw[hs]at h;simp at h
   |some s=>
    rw[hs]at h
    obtain⟨cv,hr,hv⟩:=F3 hl h w
    exact⟨cv,by simp[Instr.index,asIntOf,run_underlying hu,hb,AU hs,hr],hv⟩
  ·cases h
 ·rename_i s k i hu
  cases hx;cases hi
  split at h
  ·rename_i h0
   split at h
   ·rename_i b hb
    simp only[aai]at h;subst h
    refine⟨.int .u8 b.toNat,?_,.int _ _⟩
    have:(⟨⟨s⟩⟩:ByteArray)[i.toNat]?=some b:=by
     obtain⟨hlt,hb'⟩:=abo.1 hb
     rw[getElem?_pos (⟨⟨s⟩⟩:ByteArray) i.toNat (show i.toNat<s.length from hlt)]
     exact congrArg some hb'
    simp[Instr.index,asIntOf,run_underlying hu,h0,this]
   ·cases h
  ·cases h
 ·cases h
theorem bf.nU{t:TypeId}{z v:AV}{b off o:Nat}(h:OA P t z.cells o=some v)(hz:bf ρ (.ref z) (.pointer (some ⟨b,off,none⟩))):bf ρ v (.pointer (some ⟨b,off+o,none⟩)):=by
 cases hz with|ref _ _ _ c hc hv=>
 unfold OA at h
 cases ha:Ez P t with
 |none=>rw[ha]at h;cases h
 |some bb=>
  rw[ha]at h
  cases bb with
  |true=>
   cases hs:sizeT P t with
   |none=>rw[hs]at h;cases h
   |some n=>
    rw[hs]at h;simp only[ajL,aai]at h;subst h
    have hlen:∀j,j<(AV.agg ((z.cells.drop o).take n)).cells.length->o+j<z.cells.length:=fun j hj=>by
     change j<((z.cells.drop o).take n).length at hj
     simp only[ajE,akb]at hj;omega
    refine .ref _ b (off+o) (fun j=>c (o+j)) (fun j hj=>?_) (fun j hj=>?_)
    ·rw[aky];exact hc _ (hlen j hj)
    ·have e:(AV.agg ((z.cells.drop o).take n)).cells[j]=z.cells[o+j]'(hlen j hj):=by
      simp only[show(AV.agg ((z.cells.drop o).take n)).cells=(z.cells.drop o).take n from rfl,akY,List.getElem_drop]
     rw[e];exact hv _ (hlen j hj)
  |false=>
   simp only at h
   split at h
   ·cases h
   ·rename_i u hna hu
    simp only[aai]at h;subst h
    obtain⟨hlt,hu2⟩:=abo.1 hu
    have hsc:u.cells=[u]:=by cases u<;>first|rfl|exact(hna _ rfl).elim
    have h0:∀j,j<u.cells.length->j=0:=fun j hj=>by rw[hsc]at hj;simpa using hj
    refine .ref _ b (off+o) (fun j=>c (o+j)) (fun j hj=>?_) (fun j hj=>?_)
    ·rw[aky];exact hc _ (by have:=h0 j hj;omega)
    ·obtain rfl:=h0 j hj
     have:u.cells[0]=z.cells[o]:=by simp only[hsc,hu2,ajS]
     rw[this];exact hv o hlt
   ·cases h
theorem RL{s:TypeId}{x v:AV}{cx:Value}{i:Nat}(h:IG P s x i=some v)(hx:bf ρ x cx)(w:World):∃cv,(Instr.fieldAt s cx i).run P w= .ok cv w/\bf ρ v cv:=by
 unfold IG at h
 split at h
 ·rename_i fs hu
  cases hf:fs[i]? with
  |none=>rw[hf]at h;simp at h
  |some f=>
   rw[hf]at h
   simp only at h
   cases hs:sizeT P f.type with
   |none=>rw[hs]at h;simp at h
   |some n=>
    rw[hs]at h
    cases x<;>simp at h
    ·rename_i r off
     obtain⟨hn,rfl⟩:=h
     cases hx with|ptr _ _ b hb=>
     exact⟨.pointer (some ⟨b,off+f.offset,none⟩),by simp[Instr.fieldAt,run_underlying hu,hf,Instr.sureAddr,fieldPlace,AU hs,hn,Addr.add_lit],.ptr _ _ _ hb⟩
    ·rename_i z
     obtain⟨hn,h⟩:=h
     cases hx with|ref _ b off c hc hv=>
     exact⟨.pointer (some ⟨b,off+f.offset,none⟩),by simp[Instr.fieldAt,run_underlying hu,hf,Instr.sureAddr,fieldPlace,AU hs,hn,Addr.add_lit],.nU h (.ref _ b off c hc hv)⟩
 ·cases h
theorem SL{t:TypeId}{x ix v:AV}{cx ci:Value}(h:BX P t x ix=some v)(hx:bf ρ x cx)(hi:bf ρ ix ci)(w:World):∃cv,(Instr.indexAt t cx ci).run P w= .ok cv w/\bf ρ v cv:=by
 unfold BX at h
 split at h
 ·rename_i len elem k i hu
  cases hi
  cases hs:sizeT P elem with
  |none=>rw[hs]at h;simp at h
  |some s=>
   rw[hs]at h
   simp only at h
   split at h
   ·rename_i hb
    cases x<;>simp at h
    ·subst h
     cases hx with|ptr _ _ b hb'=>
     rename_i r off
     exact⟨.pointer (some ⟨b,off+i.toNat*s,none⟩),by simp[Instr.indexAt,asIntOf,run_underlying hu,Instr.sureAddr,hb,AU hs,Addr.add_lit],.ptr _ _ _ hb'⟩
    ·rename_i z
     cases hx with|ref _ b off c hc hv=>
     exact⟨.pointer (some ⟨b,off+i.toNat*s,none⟩),by simp[Instr.indexAt,asIntOf,run_underlying hu,Instr.sureAddr,hb,AU hs,Addr.add_lit],.nU h (.ref _ b off c hc hv)⟩
   ·cases h
 ·rename_i elem k i hu
  cases hi
  cases hs:sizeT P elem with
  |none=>rw[hs]at h;simp at h
  |some s=>
   rw[hs]at h
   simp only at h
   cases x<;>simp only at h<;>try (cases h;done)
   ·rename_i xs cap
    split at h
    ·rename_i hb
     split at h
     ·rename_i u hu2
      split at h
      ·rename_i hus
       simp only[aai]at h;subst h
       obtain⟨hlt,hu3⟩:=abo.1 hu2
       cases hx with|fC _ _ b off n s' c hs' hc hv hn hcap=>
       have es:s'=s:=by rw[<-hs' i.toNat hlt,hu3];exact hus
       subst es
       refine⟨.pointer (some ⟨b,off+i.toNat*s',none⟩),by simp[Instr.indexAt,asIntOf,run_underlying hu,hb,AU hs,Addr.add_lit],?_⟩
       refine .ref _ b _ (fun j=>c i.toNat j) (fun j hj=>hc _ _ hlt (by omega)) (fun j hj=>?_)
       have:=hv i.toNat hlt j (by rw[hu3];exact hj)
       simpa only[hu3]using this
      ·cases h
     ·cases h
    ·cases h
   ·rename_i r off len cap
    split at h
    ·rename_i hb
     simp only[aai]at h;subst h
     cases hx with|hsl _ _ _ _ b n hb' hn hcap=>
     exact⟨.pointer (some ⟨b,off+i.toNat*s,none⟩),by simp[Instr.indexAt,asIntOf,run_underlying hu,hb,AU hs,Addr.add_lit],.ptr _ _ _ hb'⟩
    ·cases h
 ·cases h
end Go.Sk
namespace Go.Sk
variable{P:Program}{ρ:eT}{h:AH}{w:World}
theorem Eh{b off n:Nat}{eU:List Value}{T:TypeId}{fr:Nat × Nat}(hb:w.heap[b]?=some (.cells eU.toArray T fr))(hn:off+n<=eU.length) :
  (loadCells ⟨b,off,none⟩ n).run P w= .ok ((eU.drop off).take n).toArray w:=by
 have hl:((eU.drop off).take n).length=n:=by simp;omega
 have:=run_loadCells_list (P:=P) w ⟨b,off,none⟩ ((eU.drop off).take n) (fun j v hj=>by
  rw[Addr.add_lit]
  rw[alm]at hj
  split at hj
  ·simp only[List.getElem?_drop]at hj
   simp[World.cell?,hb,hj]
  ·cases hj)
 rwa [hl]at this
theorem N7(hR:Rel ρ h w){b off n:Nat}{c:Nat->Value}(hc:∀j,j<n->ρ.gG b (off+j)=some (c j)) :
  (loadCells ⟨b,off,none⟩ n).run P w= .ok ((List.range n).map c).toArray w:=
 run_loadCells w ⟨b,off,none⟩ n c (fun j hj=>by rw[Addr.add_lit];exact hR.gG _ _ _ (hc j hj))
theorem dw.pq{l:List AV}{c:Nat->Value}(hv:∀j (hj:j<l.length),bf ρ l[j] (c j)):dw ρ l ((List.range l.length).map c):=
 ⟨by simp,fun i hi hj=>by simpa using hv i hi⟩
theorem Uv(hR:Rel ρ h w){t:TypeId}{p v:AV}{cp:Value}(he:Ay P t p h=some v)(hp:bf ρ p cp):∃cv,(Instr.loadAt t cp).run P w= .ok cv w/\bf ρ v cv:=by
 unfold Ay at he
 split at he
 ·rename_i r off
  cases hp with|ptr _ _ b hb=>
  split at he
  ·rename_i cs T n hg ha hs
   split at he
   ·rename_i hle
    simp only[aai]at he;subst he
    obtain⟨eU,fr,hbl,hl,_,_⟩:=hR.obj r _ b hg hb
    have hrun:=Eh (P:=P) (n:=n) hbl (aj3 hle hl.1)
    exact⟨.agg ((eU.drop off).take n).toArray,by simp[Instr.loadAt,Instr.sureAddr,loadVar,Gs ha,AU hs,hrun],bf.j4 (hl.piece off n hle)⟩
   ·cases he
  ·rename_i cs T n hg ha hs
   obtain⟨eU,fr,hbl,hl,_,_⟩:=hR.obj r _ b hg hb
   obtain⟨x,hx,hr⟩:=hl.find he
   exact⟨x,by simp[Instr.loadAt,Instr.sureAddr,loadVar,Gs ha,World.cell?,hbl,hx],hr⟩
  ·cases he
 ·rename_i z
  cases hp with|ref _ b off c hc hv=>
  split at he
  ·rename_i n cs ha hs
   split at he
   ·rename_i hn
    simp only[aai]at he;subst he;subst hn
    have hrun:=N7 (P:=P) hR (n:=cs.length) (c:=c) (fun j hj=>hc j hj)
    exact⟨.agg ((List.range cs.length).map c).toArray,by simp[Instr.loadAt,Instr.sureAddr,loadVar,Gs ha,AU hs,hrun],bf.j4 (dw.pq (fun j hj=>hv j hj))⟩
   ·cases he
  ·cases he
  ·rename_i u x1 x2 _ n ha hs hna;clear x1 x2
   simp only[aai]at he;subst he
   have hsc:u.cells=[u]:=by cases u<;>first|rfl|exact(hna _ rfl).elim
   have h0:0<u.cells.length:=by rw[hsc];simp
   have hc0:=hR.gG _ _ _ (hc 0 h0)
   have hv0:=hv 0 h0
   have e:u.cells[0]=u:=by simp only[hsc,ajS]
   rw[e]at hv0
   rw[alo]at hc0
   exact⟨c 0,by simp[Instr.loadAt,Instr.sureAddr,loadVar,Gs ha,hc0],hv0⟩
  ·cases he
 ·cases he
theorem BK{α:Type}:∀(vs l:List α) (off:Nat),(setCells l off vs).length=l.length
 |[],l,off=>rfl
 |v::vs,l,off=>by simp only[setCells];rw[BK vs];simp
theorem dw.setCells:∀{vs l:List AV} {lI cl:List Value} {off:Nat},dw ρ l cl->dw ρ vs lI->dw ρ (Sk.setCells l off vs) (Sk.setCells cl off lI)
 |[],_,[],_,_,h,_=>h
 |[],_,_::_,_,_,_,h=>by have:=h.1;simp at this
 |_::_,_,[],_,_,_,h=>by have:=h.1;simp at this
 |_::_,_,_::_,_,off,h,k=>by
  simp only[Sk.setCells]
  exact dw.setCells (h.set off k.head) k.tail
theorem iU.setCells:∀{vs l:List AV} {lI cl:List Value} {off:Nat},iU ρ l cl->dw ρ vs lI->iU ρ (Sk.setCells l off vs) (Sk.setCells cl off lI)
 |[],_,[],_,_,h,_=>h
 |[],_,_::_,_,_,_,h=>by have:=h.1;simp at this
 |_::_,_,[],_,_,_,h=>by have:=h.1;simp at this
 |_::_,_,_::_,_,off,h,k=>by
  simp only[Sk.setCells]
  exact iU.setCells (h.set off k.head) k.tail
theorem KJ(cells:List Value):∀(vs:List Value) (off i:Nat),(vs.zipIdx i).foldl (fun(cs:Array Value) (x:Value × Nat)=>cs.setIfInBounds (off+x.2) x.1) cells.toArray=(setCells cells (off+i) vs).toArray:=by
 intro vs
 induction vs generalizing cells with
 |nil=>intro off i;rfl
 |cons v vs ih=>
  intro off i
  simp only[List.zipIdx_cons,aj9,setCells]
  rw[show cells.toArray.setIfInBounds (off+i) v=(cells.set (off+i) v).toArray by simp]
  rw[ih,aky]
def lJ(ρ:eT)(l:List (Nat × AV))(c:List (Nat × Value)):Prop:=c.length=l.length/\∀i (hi:i<l.length) (hj:i<c.length),c[i].1=l[i].1/\bf ρ l[i].2 c[i].2
theorem lJ.head{a:Nat × AV}{l:List (Nat × AV)}{b:Nat × Value}{c:List (Nat × Value)}(h:lJ ρ (a::l) (b::c)):b.1=a.1/\bf ρ a.2 b.2:=h.2 0 (by simp) (by simp)
theorem lJ.tail{a:Nat × AV}{l:List (Nat × AV)}{b:Nat × Value}{c:List (Nat × Value)}(h:lJ ρ (a::l) (b::c)):lJ ρ l c:=
 ⟨by have:=h.1;simpa using this,fun i hi hj=>h.2 (i+1) (by simpa using hi) (by simpa using hj)⟩
theorem Pz(place:Nat->Option (Nat × Nat)):∀(parts:List (Nat × AV)) (gZ:List (Nat × Value)) (cells out:List AV) (gX:List Value),lJ ρ parts gZ->dw ρ cells gX->
  Ug place cells parts=some out->∃cout,Instr.fill place gX.toArray gZ=some cout.toArray/\dw ρ out cout
 |[],[],cells,out,gX,_,hl,h=>by simp only[Ug,aai]at h;subst h;exact⟨gX,rfl,hl⟩
 |[],_::_,_,_,_,h,_,_=>by have:=h.1;simp at this
 |_::_,[],_,_,_,h,_,_=>by have:=h.1;simp at this
 |(i,v)::parts,(j,cv)::gZ,cells,out,gX,hp,hl,h=>by
  obtain⟨e,hv⟩:=hp.head
  simp only at e;subst e
  unfold Ug at h
  unfold Instr.fill
  cases hq:place j with
  |none=>rw[hq]at h;cases h
  |some x=>
   obtain⟨off,size⟩:=x
   rw[hq]at h
   simp only at h ⊢
   split at h
   ·cases h
   ·rename_i hn
    have hc:=hv.cells
    have e1:cv.cells.size=v.cells.length:=by simpa using hc.1
    have e2:gX.toArray.size=cells.length:=by simpa using hl.1
    rw[if_neg (by rw[e1,e2];exact hn)]
    have:=KJ gX cv.cells.toList off 0
    rw[show cv.cells.zipIdx.foldl (fun(cs:Array Value) (x:Value × Nat)=>cs.setIfInBounds (off+x.2) x.1) gX.toArray=(setCells gX off cv.cells.toList).toArray by
     rw[<-Array.foldl_toList,Array.toList_zipIdx];simpa using this]
    exact Pz place parts gZ _ out _ hp.tail (hl.setCells hc) h
theorem run_places{fs:List Field}{pl:List (Nat × Nat)}(hm:(fs.mapM fun f=>(sizeT P f.type).map fun n=>(f.offset,n))=some pl)(w:World) :
  (fs.mapM fun f=>Functor.map (Prod.mk f.offset) (sizeOf f.type):Sem (List (Nat × Nat))).run P w= .ok pl w:=by
 induction fs generalizing pl with
 |nil=>simp at hm;subst hm;rfl
 |cons f fs ih=>
  simp only[List.mapM_cons,Option.bind_eq_bind,Option.pure_def]at hm
  cases hs:sizeT P f.type with
  |none=>rw[hs]at hm;simp at hm
  |some n=>
   cases hl:(fs.mapM fun f=>(sizeT P f.type).map fun n=>(f.offset,n))with
   |none=>rw[hs,hl]at hm;simp at hm
   |some y=>
    rw[hs,hl]at hm;simp at hm;subst hm
    simp only[List.mapM_cons,Sem.run_bind,Sem.run_map,AU hs,Result.andThen_ok,ih hl,Sem.run_pure]
theorem Yo{t:TypeId}{parts:List (Nat × AV)}{gZ:List (Nat × Value)}{v:AV}(hp:lJ ρ parts gZ)(hb:RV P t parts=some v)(w:World) :
  ∃cv,(Instr.build t gZ.toArray).run P w= .ok cv w/\bf ρ v cv:=by
 unfold RV at hb
 split at hb
 ·rename_i z fs hz hu
  obtain⟨cz,hrz,lK⟩:=Fe (ρ:=ρ) hz w
  split at hb
  ·rename_i pl hpl
   simp only[aj4]at hb
   obtain⟨out,hf,rfl⟩:=hb
   obtain⟨cout,hf2,hl⟩:=Pz (pl[·]?) parts gZ z.cells out cz.cells.toList hp lK.cells hf
   have hm:=run_places hpl w
   refine⟨.agg cout.toArray,?_,bf.j4 hl⟩
   simp only[Array.toArray_toList]at hf2
   simp only[Instr.build,Sem.run_bind,hrz,Result.andThen_ok,run_underlying hu]
   rw[Array.mapM_eq_mapM_toList]
   simp[hm,hf2]
  ·cases hb
 ·rename_i z len elem hz hu
  obtain⟨cz,hrz,lK⟩:=Fe (ρ:=ρ) hz w
  split at hb
  ·rename_i n hs
   simp only[aj4]at hb
   obtain⟨out,hf,rfl⟩:=hb
   obtain⟨cout,hf2,hl⟩:=Pz (fun i=>some (i*n,n)) parts gZ z.cells out cz.cells.toList hp lK.cells hf
   refine⟨.agg cout.toArray,?_,bf.j4 hl⟩
   simp only[Array.toArray_toList]at hf2
   simp[Instr.build,hrz,run_underlying hu,AU hs,hf2]
  ·cases hb
 ·cases hb
end Go.Sk
namespace Go.Sk
variable{P:Program}{ρ:eT}
def Lg(ρ:eT)(a:Option AV)(c:Option Value):Prop:=
 match a,c with
 |none,none=>True
 |some v,some x=>bf ρ v x
 |_,_=>False
theorem SV{v:AV}{cv:Value}{y y' n:Nat}(h:Ir v y=some n)(hv:bf ρ v cv)(hy:y<=y')(code:BoundsCode)(w:World):(Instr.sliceBound cv y' code).run P w= .ok n w/\n<=y:=by
 unfold Ir at h
 split at h
 ·rename_i k i
  cases hv
  split at h
  ·rename_i hb
   simp only[aai]at h;subst h
   have:0<=i/\i<=(y':Int):=by omega
   exact⟨by simp[Instr.sliceBound,asIntOf,this],by omega⟩
  ·cases h
 ·cases h
theorem HV{v:Option AV}{cv:Option Value}{y y' d n:Nat}(h:Cr v y d=some n)(hr:Lg ρ v cv)(hy:y<=y')(w:World) :
  (∀x,v=some x->∃cx,cv=some cx/\(∀code,(Instr.sliceBound cx y' code).run P w= .ok n w)/\n<=y)/\(v=none->cv=none/\n=d):=by
 cases v with
 |none=>
  cases cv with
  |some _=>exact hr.elim
  |none=>simp only[Cr,aai]at h;exact⟨fun x e=>(by cases e),fun _=>⟨rfl,h.symm⟩⟩
 |some v=>
  cases cv with
  |none=>exact hr.elim
  |some cv=>exact⟨fun x e=>⟨cv,rfl,fun code=>(SV h hr hy code w).1,(SV (P:=P) h hr hy .index w).2⟩,fun e=>(by cases e)⟩
theorem D8{len cap cap' l h m:Nat}{lo hi mx:Option AV}{qQ tO nH:Option Value}(hb:D7 len cap lo hi mx=some (l,h,m))(h1:Lg ρ lo qQ)(h2:Lg ρ hi tO)
  (h3:Lg ρ mx nH) (hc:cap<=cap') (hl:len<=cap) (isS:Bool) (w:World) :
  (Instr.sliceBounds isS len cap' qQ tO nH).run P w= .ok (l,h,if mx.isSome then m else cap') w/\l<=h/\h<=m/\m<=cap/\(mx=none->m=cap):=by
 unfold D7 at hb
 split at hb
 ·cases hb
 ·rename_i hn
  simp only[Option.bind_eq_some_iff,aai,abW]at hb
  obtain⟨m',hm,h',hh,l',hl',rfl,rfl,rfl⟩:=hb
  obtain⟨m1,m2⟩:=HV (P:=P) hm h3 hc w
  obtain⟨l1,l2⟩:=HV (P:=P) hl' h1 (acu _) w
  cases mx with
  |none=>
   obtain⟨rfl,rfl⟩:=m2 rfl
   obtain⟨a1,a2⟩:=HV (P:=P) hh h2 hc w
   cases hi with
   |none=>
    obtain⟨rfl,rfl⟩:=a2 rfl
    cases lo with
    |none=>obtain⟨rfl,rfl⟩:=l2 rfl;exact⟨by simp[Instr.sliceBounds],by omega,hl,by omega,fun _=>rfl⟩
    |some x=>obtain⟨cx,rfl,b1,b2⟩:=l1 x rfl;exact⟨by simp[Instr.sliceBounds,b1],b2,hl,by omega,fun _=>rfl⟩
   |some y=>
    obtain⟨cy,rfl,c1,c2⟩:=a1 y rfl
    cases lo with
    |none=>obtain⟨rfl,rfl⟩:=l2 rfl;exact⟨by simp[Instr.sliceBounds,c1],by omega,c2,by omega,fun _=>rfl⟩
    |some x=>obtain⟨cx,rfl,b1,b2⟩:=l1 x rfl;exact⟨by simp[Instr.sliceBounds,c1,b1],b2,c2,by omega,fun _=>rfl⟩
  |some z=>
   obtain⟨cz,rfl,d1,d2⟩:=m1 z rfl
   cases hi with
   |none=>simp at hn
   |some y=>
    obtain⟨a1,a2⟩:=HV (P:=P) hh h2 (acu _) w
    obtain⟨cy,rfl,c1,c2⟩:=a1 y rfl
    cases lo with
    |none=>obtain⟨rfl,rfl⟩:=l2 rfl;exact⟨by simp[Instr.sliceBounds,c1,d1],by omega,c2,d2,fun e=>by cases e⟩
    |some x=>obtain⟨cx,rfl,b1,b2⟩:=l1 x rfl;exact⟨by simp[Instr.sliceBounds,c1,d1,b1],b2,c2,d2,fun e=>by cases e⟩
theorem GK{n s:Nat}{xs:List AV}(hh:Ba n xs=true)(hs:∀i (hi:i<xs.length),xs[i].cells.length=s):xs=[]\/s=n:=by
 cases xs with
 |nil=>exact .inl rfl
 |cons y ys=>
  right
  have:=hs 0 (by simp)
  simp only[ajS]at this
  simp only[Ba,beq_iff_eq]at hh
  omega
theorem bf.piece{xs:List AV}{b off s:Nat}{f:Nat->Nat->Value}(hs:∀i (hi:i<xs.length),xs[i].cells.length=s)
  (hc:∀i j,i<xs.length->j<s->ρ.gG b (off+i*s+j)=some (f i j)) (hv:∀i (hi:i<xs.length) j (hj:j<xs[i].cells.length),bf ρ xs[i].cells[j] (f i j))
  (l h:Nat) (hlh:l<=h) (hh:h<=xs.length) (c':Cap) (n':Nat) (hn:h - l<=n') (hcap:jR ρ c' b (off+l*s+(h - l)*s) s (h - l) n') :
  bf ρ (.fC ((xs.take h).drop l) c') (.slice (some ⟨b,off+l*s,none⟩) (h - l) n'):=by
 have hlen:((xs.take h).drop l).length=h - l:=by simp;omega
 have hget:∀i (hi:i<((xs.take h).drop l).length),((xs.take h).drop l)[i]=xs[l+i]'(by rw[hlen]at hi;omega):=fun i hi=>by simp
 have:=bf.fC (ρ:=ρ) ((xs.take h).drop l) c' b (off+l*s) n' s (fun i j=>f (l+i) j) (fun i hi=>by rw[hget i hi];exact hs _ _)
  (fun i j hi hj=>by rw[hlen]at hi;have:=hc (l+i) j (by omega) hj;rwa [ajW,<-aky]at this)
  (fun i hi j hj=>by
   have hj':j<(xs[l+i]'(by rw[hlen]at hi;omega)).cells.length:=by rw[<-hget i hi];exact hj
   have:=hv (l+i) (by rw[hlen]at hi;omega) j hj'
   simp only[hget i hi];exact this)
  (by rw[hlen];exact hn) (by rw[hlen];exact hcap)
 rwa [hlen]at this
theorem bf.nI{c:Cap}(b off:Nat)(hm:∀k m,c= .pat k m->m=0):bf ρ (.fC [] c) (.slice (some ⟨b,off,none⟩) 0 0):=
 bf.fC [] c b off 0 0 (fun _ _=>Go.undef) (fun i hi=>by simp at hi) (fun i j hi=>by simp at hi) (fun i hi=>by simp at hi) (by simp) (by
  cases c with
  |lit=>rfl
  |full=>rfl
  |own g e=>exact .inl rfl
  |unk=>trivial
  |pat k m=>
   have:=hm k m rfl
   subst this
   exact⟨rfl,.inl rfl,fun i j hi=>by omega⟩)
theorem bf.pE{xs:List AV}{b off n s k m h:Nat}{f:Nat->Nat->Value}(hs:∀i (hi:i<xs.length),xs[i].cells.length=s)
  (hc:∀i j,i<xs.length->j<s->ρ.gG b (off+i*s+j)=some (f i j)) (hv:∀i (hi:i<xs.length) j (hj:j<xs[i].cells.length),bf ρ xs[i].cells[j] (f i j))
  (hcap:jR ρ (.pat k m) b (off+xs.length*s) s xs.length n) (h1:xs.length<h) (h2:h<=xs.length+m) :
  bf ρ (.fC (xs++QB k xs.length (h - xs.length)) (.pat k (xs.length+m - h))) (.slice (some ⟨b,off,none⟩) h n):=by
 obtain⟨rfl,c2,c3⟩:=hcap
 have hsk:KQ k=s:=c2.resolve_left (by omega)
 subst hsk
 have hlen:(xs++QB k xs.length (h - xs.length)).length=h:=by rw[abO,WZ];omega
 have hget:∀i (hi:i<(xs++QB k xs.length (h - xs.length)).length) ,(∃hx:i<xs.length,(xs++QB k xs.length (h - xs.length))[i]=xs[i])\/(xs.length<=i/\(xs++QB k xs.length (h - xs.length))[i]=O4 k i):=fun i hi=>by
  by_cases hx:i<xs.length
  ·exact .inl ⟨hx,by rw[akP hx]⟩
  ·refine .inr ⟨by omega,?_⟩
   rw[List.getElem_append_right (by omega),abM]
   congr 1;omega
 have key:=bf.fC (ρ:=ρ) (xs++QB k xs.length (h - xs.length)) (.pat k (xs.length+m - h)) b off (xs.length+m) (KQ k) (fun i j=>if i<xs.length then f i j else agb ((O4 k i).cells.getD j Aj))
  (fun i hi=>by
   rcases hget i hi with⟨hx,e⟩|⟨hx,e⟩
   ·rw[e];exact hs i hx
   ·rw[e];exact R8 k i)
  (fun i j hi hj=>by
   rw[hlen]at hi
   by_cases hx:i<xs.length
   ·simp only[if_pos hx];exact hc i j hx hj
   ·simp only[if_neg hx]
    have:=c3 (i - xs.length) j (by omega) hj
    rw[show off+xs.length*KQ k+(i - xs.length)*KQ k=off+i*KQ k by rw[aky,<-ajW];congr 2;omega,show xs.length+(i - xs.length)=i by omega]at this
    exact this)
  (fun i hi j hj=>by
   rcases hget i hi with⟨hx,e⟩|⟨hx,e⟩
   ·simp only[if_pos hx,e]
    exact hv i hx j (by rw[<-e];exact hj)
   ·simp only[if_neg (show ¬i<xs.length by omega),e]
    have hj':j<(O4 k i).cells.length:=by rw[<-e];exact hj
    have:=ab9 ρ k i j hj'
    rw[show(O4 k i).cells.getD j Aj=(O4 k i).cells[j]by simp[List.getD,hj']];exact this)
  (by rw[hlen];omega)
  (by
   rw[hlen]
   refine⟨by omega,.inr rfl,fun i j hi hj=>?_⟩
   have:=c3 (h - xs.length+i) j (by omega) hj
   rw[show off+xs.length*KQ k+(h - xs.length+i)*KQ k=off+h*KQ k+i*KQ k by rw[aky,aky,<-ajW,<-ajW];congr 2;omega,show xs.length+(h - xs.length+i)=h+i by omega]at this
   exact this)
 rwa [hlen]at key
theorem Ye{t:TypeId}{x v:AV}{cx:Value}{lo hi mx:Option AV}{qQ tO nH:Option Value}(hx:bf ρ x cx)(h1:Lg ρ lo qQ)(h2:Lg ρ hi tO)
  (h3:Lg ρ mx nH) (he:ET P t x lo hi mx=some v) (w:World):∃cv,(Instr.sliceAt t cx qQ tO nH).run P w= .ok cv w/\bf ρ v cv:=by
 unfold ET at he
 split at he
 ·
  rename_i n elem r off hu
  cases hx with|ptr _ _ b hb=>
  split at he
  ·rename_i l h m s hbd hs
   simp only[aai]at he;subst he
   obtain⟨hr,h4,h5,h6,h7⟩:=D8 (P:=P) hbd h1 h2 h3 (acu n) (acu n) false w
   have em:(if mx.isSome=true then m else n)=m:=by cases mx with|none=>simp[h7 rfl]|some _=>rfl
   rw[em]at hr
   refine⟨.slice (some ⟨b,if m=l then off else off+l*s,none⟩) (h - l) (m - l),?_,.hsl _ _ _ _ b _ hb (by omega) rfl⟩
   simp only[Instr.sliceAt,Sem.run_bind,run_underlying hu,Result.andThen_ok,Instr.sureAddr,Sem.run_pure,hr,AU hs]
   split<;>simp[Addr.add_lit]
  ·cases he
 ·
  rename_i s hu
  cases hx
  split at he
  ·cases he
  ·rename_i mx'
   split at he
   ·rename_i l h m hbd
    simp only[aai]at he;subst he
    cases nH with
    |some _=>exact h3.elim
    |none=>
    obtain⟨hr,h4,h5,h6,h7⟩:=D8 (P:=P) (mx:=none) (nH:=none) hbd h1 h2 trivial (acu _) (acu _) false w
    refine⟨.string ((⟨⟨s⟩⟩:ByteArray).extract l h),?_,?_⟩
    ·simp only[ak7,ajI,if_false]at hr
     simp only[Instr.sliceAt,Instr.slice,Sem.run_bind,run_underlying hu,Result.andThen_ok,show(⟨⟨s⟩⟩:ByteArray).size=s.length from rfl]
     simp[hr]
    ·have:(⟨⟨s⟩⟩:ByteArray).extract l h=⟨⟨(s.take h).drop l⟩⟩:=by
      apply ByteArray.ext
      rw[ByteArray.data_extract]
      apply akZ
      simp[List.extract_eq_take_drop,List.drop_take]
     rw[this];exact .str _
   ·cases he
 ·
  rename_i elem hu
  cases hx
  split at he
  ·rename_i y n hbd hs
   obtain⟨l,h,m⟩:=y
   simp only[aai]at he;subst he
   obtain⟨hr,h4,h5,h6,h7⟩:=D8 (P:=P) hbd h1 h2 h3 (acu 0) (acu 0) true w
   have em:(if mx.isSome=true then m else 0)=0:=by split<;>omega
   rw[em]at hr
   have el:l=0:=by omega
   have eh:h=0:=by omega
   subst el;subst eh
   exact⟨.slice none 0 0,by simp[Instr.sliceAt,Instr.slice,run_underlying hu,hr,AU hs],.aj⟩
  ·cases he
 ·
  rename_i elem xs c hu
  cases hx with|fC _ _ b off n s f hss hc hv hn hcap=>
  split at he
  ·rename_i l h m s' hbd hs
   split at he
   ·cases he
   ·rename_i hh
    obtain⟨hr,h4,h5,h6,h7⟩:=D8 (P:=P) hbd h1 h2 h3 hn (acu _) true w
    have hrun:(Instr.sliceAt t (.slice (some ⟨b,off,none⟩) xs.length n) qQ tO nH).run P w =
      .ok (.slice (if(if mx.isSome=true then m else n)=l then some ⟨b,off,none⟩else some ⟨b,off+l*s',none⟩) (h - l) ((if mx.isSome=true then m else n) - l)) w:=by
     simp[Instr.sliceAt,Instr.slice,run_underlying hu,hr,AU hs,Addr.add_lit]
    generalize hM:(if mx.isSome=true then m else n)=M at hrun
    have hMh:h<=M:=by rw[<-hM];split<;>omega
    have air:l≠0->xs=[]\/s=s':=fun hl=>GK (by simpa[hl]using hh) hss
    have fin:∀c',(jR ρ c' b (off+l*s+(h - l)*s) s (h - l) (M - l))->∃cv,(Instr.sliceAt t (.slice (some ⟨b,off,none⟩) xs.length n) qQ tO nH).run P w= .ok cv w/\bf ρ (.fC ((xs.take h).drop l) c') cv:=by
     intro c' hck
     by_cases hml:M=l
     ·have wJ:h=l:=by omega
      subst wJ
      refine⟨_,hrun,?_⟩
      rw[if_pos hml,hml,alg]
      have e:(xs.take h).drop h=[]:=by simp
      rw[e];refine bf.nI b off fun k m e=>?_
      subst e
      have:=hck.1
      omega
     ·rw[if_neg hml]at hrun
      refine⟨_,hrun,?_⟩
      have:=bf.piece hss hc hv l h h4 (by omega) c' (M - l) (by omega) hck
      by_cases hl0:l=0
      ·subst hl0;simpa using this
      ·rcases air hl0 with rfl|rfl
       ·simp only[akp]at h6;omega
       ·exact this
    cases mx with
    |some mv=>
     simp only[Option.isSome_some,if_true]at hM
     simp only[aai]at he;subst he
     refine fin _ ?_
     split
     ·show M - l=h - l;omega
     ·trivial
    |none=>
     simp only[ak7,ajI,if_false]at hM
     subst hM
     cases c with
     |lit=>
      simp only[aai]at he;subst he
      refine fin _ ?_
      have:n=xs.length:=hcap
      split
      ·show n - l=h - l;omega
      ·trivial
     |full=>
      simp only[aai]at he;subst he
      refine fin _ ?_
      have:n=xs.length:=hcap
      split
      ·show n - l=h - l;omega
      ·trivial
     |own g e=>
      simp only[aai]at he;subst he
      refine fin _ ?_
      split
      ·rename_i hhx
       rcases hcap with hq|hq
       ·left;omega
       ·right
        have:off+l*s+(h - l)*s=off+xs.length*s:=by
         rw[aky,<-ajW,hhx];congr 2;omega
        rw[this,show n - l - (h - l)=n - xs.length by omega];exact hq
      ·trivial
     |unk=>
      simp only[aai]at he;subst he
      exact fin _ trivial
     |pat k m=>
      simp only[aai]at he;subst he
      exact fin _ trivial
  ·
   unfold Un at he
   split at he
   ·rename_i k m ki i _
    split at he
    ·rename_i h hb
     split at he
     ·rename_i hif
      simp only[aai]at he;subst he
      obtain⟨p1,p2,p3⟩:=hif
      cases qQ with
      |some _=>exact h1.elim
      |none=>
      cases nH with
      |some _=>exact h3.elim
      |none=>
      have hbd:D7 xs.length (xs.length+m) none (some (.int ki i)) none=some (0,h,xs.length+m):=by
       simp only[D7,Cr,Option.isNone_some,akh,ajI,if_false,ajK,hb]
      have hcn:n=xs.length+m:=hcap.1
      obtain⟨hr,h4,h5,h6,h7⟩:=D8 (P:=P) (ρ:=ρ) (mx:=none) (nH:=none) (lo:=none) (qQ:=none) hbd trivial h2 trivial (show xs.length+m<=n by omega) (by omega) true w
      simp only[ak7,ajI,if_false]at hr
      refine⟨.slice (some ⟨b,off,none⟩) h n,?_,bf.pE hss hc hv hcap p1 (by omega)⟩
      simp[Instr.sliceAt,Instr.slice,run_underlying hu,hr,AU p2,Addr.add_lit]
     ·cases he
    ·cases he
   ·cases he
 ·
  rename_i elem r off len cap hu
  cases hx with|hsl _ _ _ _ b n hb hn hcap=>
  obtain rfl:n=cap:=hcap
  split at he
  ·rename_i l h m s hbd hs
   simp only[aai]at he;subst he
   obtain⟨hr,h4,h5,h6,h7⟩:=D8 (P:=P) hbd h1 h2 h3 (acu _) hn true w
   have em:(if mx.isSome=true then m else n)=m:=by cases mx with|none=>simp[h7 rfl]|some _=>rfl
   rw[em]at hr
   refine⟨.slice (some ⟨b,if m=l then off else off+l*s,none⟩) (h - l) (m - l),?_,.hsl _ _ _ _ b _ hb (by omega) rfl⟩
   simp only[Instr.sliceAt,Instr.slice,Sem.run_bind,run_underlying hu,Result.andThen_ok,hr,AU hs]
   split<;>simp[Addr.add_lit]
  ·cases he
 ·
  rename_i elem r off len hc hnk hu
  cases hx with|hsl _ _ _ _ b n hb hn hcap=>
  split at he
  ·rename_i mv
   split at he
   ·rename_i l h m s hbd hs
    simp only[aai]at he;subst he
    obtain⟨hr,h4,h5,h6,h7⟩:=D8 (P:=P) hbd h1 h2 h3 hn (acu _) true w
    simp only[Option.isSome_some,if_true]at hr
    refine⟨.slice (some ⟨b,if m=l then off else off+l*s,none⟩) (h - l) (m - l),?_,.hsl _ _ _ _ b _ hb (by omega) rfl⟩
    simp only[Instr.sliceAt,Instr.slice,Sem.run_bind,run_underlying hu,Result.andThen_ok,hr,AU hs]
    split<;>simp[Addr.add_lit]
   ·cases he
  ·split at he
   ·rename_i l h m s hbd hs
    split at he
    ·rename_i hl
     simp only[aai]at he;subst he
     cases nH with
     |some _=>exact h3.elim
     |none=>
     obtain⟨hr,h4,h5,h6,h7⟩:=D8 (P:=P) (mx:=none) (nH:=none) hbd h1 h2 trivial hn (acu _) true w
     simp only[ak7,ajI,if_false]at hr
     refine⟨.slice (some ⟨b,off+l*s,none⟩) (h - l) (n - l),?_,.hsl _ _ _ _ b _ hb (by omega) (by
      split
      ·rename_i e;subst e
       obtain⟨z,hz1,hz2⟩:=hcap
       refine⟨z,hz1,?_⟩
       have:l*s+(n - l)*s=n*s:=by rw[<-ajW];congr 1;omega
       omega
      ·trivial)⟩
     simp only[Instr.sliceAt,Instr.slice,Sem.run_bind,run_underlying hu,Result.andThen_ok,hr,AU hs]
     split
     ·have:l=0:=by omega
      subst this;simp
     ·simp[Addr.add_lit]
    ·rename_i hl
     simp only[aai]at he;subst he
     cases nH with
     |some _=>exact h3.elim
     |none=>
     obtain⟨hr,h4,h5,h6,h7⟩:=D8 (P:=P) (mx:=none) (nH:=none) hbd h1 h2 trivial hn (acu _) true w
     simp only[ak7,ajI,if_false]at hr
     have h0:h - l=0:=by
      have:¬l<len:=fun e=>hl (.inr e)
      omega
     have hv:∀o,bf ρ (.fC [] .unk) (.slice (some ⟨b,o,none⟩) 0 (n - l)):=fun o=>
      .fC [] .unk b o (n - l) 0 (fun _ _=>Go.undef) (fun i hi=>by simp at hi) (fun i j hi=>by simp at hi) (fun i hi=>by simp at hi) (by simp) trivial
     refine⟨.slice (some ⟨b,if n=l then off else off+l*s,none⟩) 0 (n - l),?_,hv _⟩
     simp only[Instr.sliceAt,Instr.slice,Sem.run_bind,run_underlying hu,Result.andThen_ok,hr,AU hs]
     split<;>simp[Addr.add_lit,h0]
   ·cases he
 ·cases he
end Go.Sk
namespace Go.Sk
variable{P:Program}{ρ:eT}{h:AH}{w:World}
theorem abw:flat []=[]:=rfl
theorem DZ(x:AV)(xs:List AV):flat (x::xs)=x.cells++flat xs:=rfl
theorem Jf(xs ys:List AV):flat (xs++ys)=flat xs++flat ys:=by simp[flat]
theorem Bd{n:Nat}:∀{xs:List AV},(∀i (hi:i<xs.length),xs[i].cells.length=n)->(flat xs).length=xs.length*n
 |[],_=>by simp[flat]
 |x::xs,h=>by
  have h0:=h 0 (by simp)
  simp only[ajS]at h0
  rw[DZ,abO,Bd (xs:=xs) (fun i hi=>by have:=h (i+1) (by simpa using hi);simpa using this),h0,ajz,ajW,alr,Nat.add_comm]
theorem dw.kL{n:Nat}:∀{xs:List AV} (c:Nat->Nat->Value),(∀i (hi:i<xs.length),xs[i].cells.length=n)->
  (∀i (hi:i<xs.length) j (hj:j<xs[i].cells.length),bf ρ xs[i].cells[j] (c i j))->dw ρ (flat xs) ((List.range xs.length).flatMap fun i=>(List.range n).map (c i))
 |[],c,_,_=>by simpa[flat]using dw.nil ρ
 |x::xs,c,hn,hv=>by
  have h0:=hn 0 (by simp)
  simp only[ajS]at h0
  rw[DZ,ajz,List.range_succ_eq_map,ajN,List.flatMap_map]
  refine dw.append ?_ (dw.kL (fun i j=>c (i+1) j) (fun i hi=>by have:=hn (i+1) (by simpa using hi);simpa using this) (fun i hi j hj=>by
   have:=hv (i+1) (by simpa using hi) j (by simpa using hj);simpa using this))
  have:=dw.pq (ρ:=ρ) (l:=x.cells) (c:=c 0) (fun j hj=>by have:=hv 0 (by simp) j (by simpa using hj);simpa using this)
  rwa [h0]at this
theorem Je{α:Type}(f:Nat->Nat->α)(s:Nat):∀(n k:Nat),k<n*s->((List.range n).flatMap fun i=>(List.range s).map (f i))[k]?=some (f (k / s) (k % s)):=by
 intro n
 induction n with
 |zero=>intro k hk;omega
 |succ n ih=>
  intro k hk
  rw[akH,List.flatMap_append]
  have hl:((List.range n).flatMap fun i=>(List.range s).map (f i)).length=n*s:=by
   simp[List.length_flatMap,ak1]
  by_cases hkn:k<n*s
  ·rw[ajB (by rw[hl];exact hkn)];exact ih k hkn
  ·rw[adU (by rw[hl];omega),hl]
   have hs:0<s:=by
    rcases aln s with rfl|h
    ·simp at hk
    ·exact h
   have hks:k - n*s<s:=by rw[ajW,alr]at hk;omega
   have hd:k / s=n:=by
    exact Nat.div_eq_of_lt_le (show n*s<=k by omega) (show k<(n+1)*s from hk)
   have hm:k % s=k - n*s:=by
    have:=Nat.div_add_mod k s
    rw[hd,als]at this;omega
   simp[hd,hm,hks]
theorem PV(cs:List AV)(off n:Nat):∀len,off+len*n<=cs.length->flat ((List.range len).map fun i=>AV.agg ((cs.drop (off+i*n)).take n))=(cs.drop off).take (len*n)
 |0,_=>by simp[flat]
 |len+1,hl=>by
  rw[ajW,alr]at hl
  rw[akH,ajC,Jf,PV cs off n len (by omega),ajW,alr,List.take_add]
  congr 1
  simp only[aju,akz,DZ,abw,ajP,List.drop_drop]
  rfl
theorem bf.mh{v:AV}{c:Value}(hv:bf ρ v c)(h1:c.oneCell'=true):v.cells=[v]:=by
 cases hv<;>first|rfl|(simp[Value.oneCell']at h1)
theorem Ql:∀{l:List AV} {c:List Value},dw ρ l c->(∀v∈c,v.oneCell'=true)->flat l=l/\∀i (hi:i<l.length),l[i].cells.length=1
 |[],_,_,_=>⟨rfl,fun i hi=>by simp at hi⟩
 |_::_,[],h,_=>by have:=h.1;simp at this
 |v::l,c::cl,h,h1=>by
  have e:=bf.mh h.head (h1 c (by simp))
  obtain⟨a,b⟩:=Ql h.tail (fun x hx=>h1 x (by simp[hx]))
  refine⟨by rw[DZ,e,a];rfl,fun i hi=>?_⟩
  cases i with
  |zero=>simp[e]
  |succ i=>simpa using b i (by simpa using hi)
theorem Ib(hR:Rel ρ h w){elem:TypeId}{x:AV}{cx:Value}{ys:List AV}{n:Nat}(he:CQ P elem x h=some ys)(hx:bf ρ x cx)(hn:sizeT P elem=some n)(h0:n≠0)
  (hh:Ba n ys=true):(Builtin.lenOf cx).run P w= .ok ys.length w/\(∀i (hi:i<ys.length),ys[i].cells.length=n)/\
   ∃eU:List Value,dw ρ (flat ys) eU/\(∀v∈eU,v.oneCell'=true)/\∀m,m<=ys.length->∀w1:World,w1.heap=w.heap->(Builtin.firstCells n m cx).run P w1= .ok (eU.take (m*n)).toArray w1:=by
 unfold CQ at he
 split at he
 ·
  simp only[aai]at he;subst he
  cases hx
  exact⟨rfl,fun i hi=>by simp at hi,[],dw.nil ρ,by simp,fun m hm w1 _=>by
   have:m=0:=by simpa using hm
   subst this;simp[Builtin.firstCells]⟩
 ·
  rename_i xs c
  simp only[aai]at he;subst he
  cases hx with|fC _ _ b off cap s f hs hc hv hcn hcap=>
  have hsz:∀i (hi:i<xs.length),xs[i].cells.length=n:=fun i hi=>by
   rcases GK hh hs with rfl|rfl
   ·simp at hi
   ·exact hs i hi
  have hns:xs=[]\/s=n:=GK hh hs
  refine⟨rfl,hsz,(List.range xs.length).flatMap fun i=>(List.range n).map (f i),dw.kL f hsz hv,?_,?_⟩
  ·intro v hm
   simp only[List.mem_flatMap,ajD,ajA]at hm
   obtain⟨i,hi,j,hj,rfl⟩:=hm
   rcases hns with rfl|rfl
   ·simp at hi
   ·exact hR.one _ _ _ (hc i j hi hj)
  ·intro m hm w1 hw1
   have hl:((List.range xs.length).flatMap fun i=>(List.range n).map (f i)).length=xs.length*n:=by simp[List.length_flatMap,ak1]
   have hmn:m*n<=xs.length*n:=ajY _ hm
   refine run_firstCells_some (P:=P) w1 n m ⟨b,off,none⟩ xs.length cap _ (by rw[ajE,hl];omega) (fun k v hk=>?_)
   rw[alm]at hk
   split at hk
   ·rename_i hlt
    rw[Je f n xs.length k (by omega)]at hk
    simp only[aai]at hk;subst hk
    rw[Addr.add_lit]
    rcases hns with rfl|rfl
    ·simp at hm;subst hm;omega
    ·have hks:k / s<xs.length:=Nat.div_lt_of_lt_mul (by rw[als];omega)
     have:=(hR.drew hw1).gG _ _ _ (hc (k / s) (k % s) hks (Nat.mod_lt _ (by omega)))
     rwa [aky,show k / s*s+k % s=k by rw[als];exact Nat.div_add_mod k s]at this
   ·cases hk
 ·
  rename_i r off len cap
  cases hx with|hsl _ _ _ _ b nn hb hln hcap=>
  split at he
  ·rename_i cs T n' hg ha hs
   rw[hn]at hs;simp only[aai]at hs;subst hs
   split at he
   ·rename_i hle
    simp only[aai]at he;subst he
    obtain⟨eU,fr,hbl,hl,ho,_⟩:=hR.obj r _ b hg hb
    have hf:flat ((List.range len).map fun i=>AV.agg ((cs.drop (off+i*n)).take n))=(cs.drop off).take (len*n):=PV cs off n len hle
    have hsz:∀i (hi:i<((List.range len).map fun i=>AV.agg ((cs.drop (off+i*n)).take n)).length),((List.range len).map fun i=>AV.agg ((cs.drop (off+i*n)).take n))[i].cells.length=n:=by
     intro i hi
     simp only[aaq,akG]at hi
     have:(i+1)*n<=len*n:=ajY _ hi
     rw[ajW,alr]at this
     simp only[akf,List.getElem_range]
     show((cs.drop (off+i*n)).take n).length=n
     simp only[ajE,akb];omega
    refine⟨by simp[Builtin.lenOf],hsz,(eU.drop off).take (len*n),by rw[hf];exact hl.piece off _ hle,fun v hv=>ho v (List.mem_of_mem_drop (ake hv)),fun m hm w1 hw1=>?_⟩
    simp only[aaq,akG]at hm
    have hmn:m*n<=len*n:=ajY _ hm
    have:=Eh (P:=P) (off:=off) (w:=w1) (n:=m*n) (by rw[hw1];exact hbl) (by have:=hl.1;omega)
    rw[List.take_take,Nat.min_eq_left hmn]
    simpa[Builtin.firstCells]using this
   ·cases he
  ·rename_i cs T hg ha hs
   rw[hn]at hs;simp only[aai]at hs;subst hs
   split at he
   ·rename_i hle
    simp only[aai]at he;subst he
    obtain⟨eU,fr,hbl,hl,ho,_⟩:=hR.obj r _ b hg hb
    have hlt:dw ρ ((cs.drop off).take len) ((eU.drop off).take len):=hl.piece off _ hle
    have ho':∀v∈(eU.drop off).take len,v.oneCell'=true:=fun v hv=>ho v (List.mem_of_mem_drop (ake hv))
    obtain⟨e1,e2⟩:=Ql hlt ho'
    have el:((cs.drop off).take len).length=len:=by simp;omega
    refine⟨by rw[el];simp[Builtin.lenOf],e2,(eU.drop off).take len,by rw[e1];exact hlt,ho',fun m hm w1 hw1=>?_⟩
    rw[el]at hm
    have:=Eh (P:=P) (off:=off) (w:=w1) (n:=m*1) (by rw[hw1];exact hbl) (by have:=hl.1;omega)
    rw[List.take_take,Nat.min_eq_left (by omega)]
    simpa[Builtin.firstCells]using this
   ·cases he
  ·cases he
 ·
  rename_i l
  simp only[aai]at he;subst he
  cases hx
  have hf:∀l:List UInt8,flat (l.map fun b=>AV.int .u8 b.toNat)=l.map fun b=>AV.int .u8 b.toNat:=by
   intro l
   induction l with
   |nil=>rfl
   |cons a l ih=>simp only[aju,DZ,ih];rfl
  have hn1:l=[]\/n=1:=by
   cases l with
   |nil=>exact .inl rfl
   |cons a l=>right;simp only[aju,Ba,AV.cells,akc,beq_iff_eq]at hh;omega
  refine⟨by simp[Builtin.lenOf];rfl,?_,l.map fun b=>Value.int .u8 b.toNat,?_,?_,?_⟩
  ·intro i hi
   simp only[aaq]at hi
   rcases hn1 with rfl|rfl
   ·simp at hi
   ·simp only[akf,AV.cells,akc]
  ·rw[hf];exact⟨by simp,fun i hi hj=>by simp only[akf];exact .int _ _⟩
  ·intro v hv;simp only[ajA]at hv;obtain⟨a,_,rfl⟩:=hv;rfl
  ·intro m hm w1 _
   simp only[aaq]at hm
   have e:((⟨⟨l⟩⟩:ByteArray).extract 0 m).data.map (fun b=>Value.int .u8 b.toNat)=((l.map fun b=>Value.int .u8 b.toNat).take (m*n)).toArray:=by
    rw[ByteArray.data_extract]
    apply akZ
    rcases hn1 with rfl|rfl
    ·simp
    ·simp[List.extract_eq_take_drop,List.map_take]
   simp only[Builtin.firstCells,Sem.run_pure,e]
 ·cases he
theorem Ng(hR:Rel ρ h w){elem:TypeId}{x:AV}{cx:Value}{ys:List AV}{n:Nat}(he:CQ P elem x h=some ys)(hx:bf ρ x cx)(hn:sizeT P elem=some n)(h0:n≠0)
  (hh:Ba n ys=true):(Builtin.lenOf cx).run P w= .ok ys.length w/\(∀i (hi:i<ys.length),ys[i].cells.length=n)/\
   ∃eU:List Value,dw ρ (flat ys) eU/\(∀v∈eU,v.oneCell'=true)/\∀m,m<=ys.length->(Builtin.firstCells n m cx).run P w= .ok (eU.take (m*n)).toArray w:=
 let⟨a,b,eU,c,d,e⟩:=Ib hR he hx hn h0 hh
 ⟨a,b,eU,c,d,fun m hm=>e m hm w rfl⟩
end Go.Sk
namespace Go.Sk
variable{P:Program}{ρ:eT}{h:AH}{w:World}
theorem DI{b:Nat}{o:Obj}(hb:w.heap[b]?=some o)(ho:∀c t f,o≠ .cells c t f):(getObj b).run P w= .ok o w:=by
 cases o<;>first|exact absurd rfl (ho _ _ _)|simp[getObj,Sem.run,hb]
theorem abB(hR:Rel ρ h w){t:TypeId}{x v:AV}{cx:Value}{ts:Array TypeId}{ty:TypeId}(ht:ts[0]?=some t)(he:vI P t x h=some v)(hx:bf ρ x cx) :
  ∃cv,(Builtin.len_ ts ty #[cx]).run P w= .ok cv w/\bf ρ v cv:=by
 unfold vI at he
 split at he
 all_goals first
  |(cases he;done)
  |skip
 ·rename_i l hu
  simp only[aai]at he;subst he;cases hx
  exact⟨_,by simp[Builtin.len_,ht,run_underlying hu];rfl,.int _ _⟩
 ·rename_i y n e hu
  simp only[aai]at he;subst he
  exact⟨.int .i64 n,by simp[Builtin.len_,ht,run_underlying hu,goInt],.int _ _⟩
 ·rename_i e hu
  simp only[aai]at he;subst he;cases hx
  exact⟨.int .i64 0,by simp[Builtin.len_,ht,run_underlying hu,goInt],.int _ _⟩
 ·rename_i e xs c hu
  simp only[aai]at he;subst he
  cases hx
  exact⟨.int .i64 xs.length,by simp[Builtin.len_,ht,run_underlying hu,goInt],.int _ _⟩
 ·rename_i e r off n c hu
  simp only[aai]at he;subst he;cases hx
  exact⟨.int .i64 n,by simp[Builtin.len_,ht,run_underlying hu,goInt],.int _ _⟩
 ·rename_i k e hu
  simp only[aai]at he;subst he;cases hx
  exact⟨.int .i64 0,by simp[Builtin.len_,ht,run_underlying hu,goInt],.int _ _⟩
 ·rename_i k e r hu
  cases hx with|map _ b hb=>
  split at he
  ·rename_i es clock hg
   simp only[aai]at he;subst he
   obtain⟨gK,hbl,hn,_⟩:=hR.obj r _ b hg hb
   exact⟨.int .i64 es.length,by simp[Builtin.len_,ht,run_underlying hu,goInt,DI hbl (fun _ _ _ e=>by cases e),hn],.int _ _⟩
  ·cases he
theorem acT{t:TypeId}{x v:AV}{cx:Value}{ts:Array TypeId}{ty:TypeId}(ht:ts[0]?=some t)(he:agn P t x=some v)(hx:bf ρ x cx) :
  ∃cv,(Builtin.cap_ ts ty #[cx]).run P w= .ok cv w/\bf ρ v cv:=by
 unfold agn at he
 split at he
 all_goals first
  |(cases he;done)
  |skip
 ·rename_i e hu
  simp only[aai]at he;subst he;cases hx
  exact⟨.int .i64 0,by simp[Builtin.cap_,ht,run_underlying hu,goInt],.int _ _⟩
 ·rename_i e xs hu
  simp only[aai]at he;subst he
  cases hx with|fC _ _ b off n s f hs hc hv hn hcap=>
  obtain rfl:n=xs.length:=hcap
  exact⟨.int .i64 xs.length,by simp[Builtin.cap_,ht,run_underlying hu,goInt],.int _ _⟩
 ·rename_i e xs hu
  simp only[aai]at he;subst he
  cases hx with|fC _ _ b off n s f hs hc hv hn hcap=>
  obtain rfl:n=xs.length:=hcap
  exact⟨.int .i64 xs.length,by simp[Builtin.cap_,ht,run_underlying hu,goInt],.int _ _⟩
 ·rename_i e r off n c hu
  simp only[aai]at he;subst he
  cases hx with|hsl _ _ _ _ b n hb hln hcap=>
  obtain rfl:n=c:=hcap
  exact⟨.int .i64 n,by simp[Builtin.cap_,ht,run_underlying hu,goInt],.int _ _⟩
theorem XI(hR:Rel ρ h w){t:TypeId}{m k v:AV}{cm ck:Value}{ok:Bool}(he:Eb P t m k ok h=some v)(hm:bf ρ m cm)(hk:bf ρ k ck) :
  ∃cv,(Instr.lookup t cm ck ok).run P w= .ok cv w/\bf ρ v cv:=by
 unfold Eb at he
 split at he
 ·rename_i kt et hu
  split at he
  ·rename_i es hes
   have hent:∃gK:List MapEntry,gL ρ es gK/\((cm= .map none/\gK=[])\/∃b clock,cm= .map (some b)/\(getObj b).run P w= .ok (.map gK.toArray clock) w):=by
    unfold Ll at hes
    cases m<;>simp only at hes<;>try (cases hes;done)
    ·simp only[aai]at hes;subst hes;cases hm
     exact⟨[],⟨rfl,fun i hi=>by simp at hi⟩,.inl ⟨rfl,rfl⟩⟩
    ·rename_i r
     cases hm with|map _ b hb=>
     split at hes
     ·rename_i es' clock hg
      simp only[aai]at hes;subst hes
      obtain⟨gK,hbl,hn,hr⟩:=hR.obj r _ b hg hb
      exact⟨gK,⟨hn,hr⟩,.inr ⟨b,clock,rfl,DI hbl (fun _ _ _ e=>by cases e)⟩⟩
     ·cases hes
   obtain⟨gK,hrel,hrun⟩:=hent
   cases hf:ES P kt k es with
   |none=>rw[hf]at he;cases he
   |some r=>
    rw[hf]at he
    obtain⟨hck,hfound,q,hq,kE⟩:=run_findKey hk hrel hf w
    have fin:∀(cv:Value) (b:Bool) (v0:AV),bf ρ v0 cv->v=(if ok=true then .fD [v0,.bool b]else v0)->
      bf ρ v (if ok=true then .tuple #[cv,.bool b]else cv):=by
     rintro cv b v0 hv0 rfl
     cases ok with
     |false=>exact hv0
     |true=>exact bf.iE (.cons hv0 (.cons (.bool b) (.nil ρ)))
    cases r with
    |none=>
     cases q with
     |some _=>exact kE.elim
     |none=>
      simp only[aj4]at he
      obtain⟨z,hz,rfl⟩:=he
      obtain⟨cz,hcz,lK⟩:=Fe (ρ:=ρ) hz w
      refine⟨_,?_,fin cz false z lK rfl⟩
      rcases hrun with⟨rfl,rfl⟩|⟨b,clock,rfl,hg⟩
      ·simp[Instr.lookup,run_underlying hu,hck,hq,hcz]
      ·simp[Instr.lookup,run_underlying hu,hg,hck,hq,hcz]
    |some x=>
     obtain⟨i,v0,b⟩:=x
     cases q with
     |none=>exact kE.elim
     |some y=>
      obtain⟨j,cv⟩:=y
      obtain⟨rfl,hcv⟩:=kE
      obtain⟨_,k',hek,_⟩:=hfound
      simp only[aai]at he
      obtain⟨hlt,hee⟩:=abo.1 hek
      obtain⟨c,hc,rfl⟩:=aj4.1 hcv
      obtain⟨hlt2,hcc⟩:=abo.1 hc
      have hve:=(hrel.2 _ hlt hlt2).2.1
      rw[hee,hcc]at hve
      refine⟨_,?_,fin c.val true v0 hve he.symm⟩
      rcases hrun with⟨rfl,rfl⟩|⟨b,clock,rfl,hg⟩
      ·simp[Instr.lookup,run_underlying hu,hck,hq]
      ·simp[Instr.lookup,run_underlying hu,hg,hck,hq]
  ·cases he
 ·cases he
theorem MX{f:AV->AV->Option AV}{g:Value->Value->Sem Value}(hfg:∀a b c ca cb,f a b=some c->bf ρ a ca->bf ρ b cb->∃cc,(g ca cb).run P w= .ok cc w/\bf ρ c cc) :
  ∀(l:List AV) (cl:List Value) (x v:AV) (cx:Value),TV f x l=some v->bf ρ x cx->dw ρ l cl->∃cv,(cl.foldlM g cx).run P w= .ok cv w/\bf ρ v cv
 |[],[],x,v,cx,h,hx,_=>by simp only[TV,aai]at h;subst h;exact⟨cx,rfl,hx⟩
 |[],_::_,_,_,_,_,_,h=>by have:=h.1;simp at this
 |_::_,[],_,_,_,_,_,h=>by have:=h.1;simp at this
 |y::l,cy::cl,x,v,cx,h,hx,hl=>by
  unfold TV at h
  split at h
  ·rename_i z hz
   obtain⟨cz,h1,h2⟩:=hfg _ _ _ _ _ hz hx hl.head
   obtain⟨cv,h3,h4⟩:=MX hfg l cl z v cz h h2 hl.tail
   exact⟨cv,by simp only[List.foldlM_cons,Sem.run_bind,h1,Result.andThen_ok,h3],h4⟩
  ·cases h
theorem Z6(a b c:AV)(ca cb:Value)(h:Zu a b=some c)(ha:bf ρ a ca)(hb:bf ρ b cb):∃cc,(Builtin.max2 ca cb).run P w= .ok cc w/\bf ρ c cc:=by
 cases a<;>cases b<;>simp[Zu]at h
 subst h;cases ha;cases hb;exact⟨_,rfl,.int _ _⟩
theorem aaG(a b c:AV)(ca cb:Value)(h:Zw a b=some c)(ha:bf ρ a ca)(hb:bf ρ b cb):∃cc,(Builtin.min2 ca cb).run P w= .ok cc w/\bf ρ c cc:=by
 cases a<;>cases b<;>simp[Zw]at h
 subst h;cases ha;cases hb;exact⟨_,rfl,.int _ _⟩
theorem Qs{x v:AV}{cx:Value}{xt asserted:TypeId}{ok:Bool}(he:Ja P x asserted ok=some v)(hx:bf ρ x cx) :
  ∃cv,(Instr.typeAssert cx xt asserted ok).run P w= .ok cv w/\bf ρ v cv:=by
 have fails:∀{u:AV},(if ok then(BL P asserted).map fun z=>AV.fD [z,.bool false]else none)=some u->∃z cz,ok=true/\u= .fD [z,.bool false]/\(zeroValue asserted).run P w= .ok cz w/\bf ρ u (.tuple #[cz,.bool false]):=by
  intro u hu
  split at hu
  ·rename_i hok
   simp only[aj4]at hu
   obtain⟨z,hz,rfl⟩:=hu
   obtain⟨cz,h1,h2⟩:=Fe (ρ:=ρ) hz w
   exact⟨z,cz,hok,rfl,h1,bf.iE (.cons h2 (.cons (.bool false) (.nil ρ)))⟩
  ·cases hu
 have holds:∀{u:AV} {cu:Value},bf ρ u cu->v=(if ok=true then .fD [u,.bool true]else u)->bf ρ v (if ok=true then .tuple #[cu,.bool true]else cu):=by
  rintro u cu hu rfl
  cases ok with
  |false=>exact hu
  |true=>exact bf.iE (.cons hu (.cons (.bool true) (.nil ρ)))
 unfold Ja at he
 split at he
 ·rename_i ms hu
  cases hx
  obtain⟨z,cz,hok,_,h1,h2⟩:=fails he
  exact⟨_,by simp[Instr.typeAssert,run_underlying hu,hok,h1],h2⟩
 ·rename_i want t u hu
  cases hx with|iface _ _ cu hvu=>
  split at he
  ·rename_i i hi
   split at he
   ·rename_i hmm
    simp only[aai]at he
    refine⟨_,?_,holds (bf.iface t u cu hvu) he.symm⟩
    simp[Instr.typeAssert,run_underlying hu,typeInfo,hi,hmm]
   ·rename_i mm hmm
    obtain⟨z,cz,hok,_,h1,h2⟩:=fails he
    exact⟨_,by simp[Instr.typeAssert,run_underlying hu,typeInfo,hi,hmm,hok,h1],h2⟩
  ·cases he
 ·rename_i d hnd hu
  cases hx
  obtain⟨z,cz,hok,_,h1,h2⟩:=fails he
  refine⟨_,?_,h2⟩
  cases d<;>first|exact(hnd _ rfl).elim|simp[Instr.typeAssert,run_underlying hu,hok,h1]
 ·rename_i d t u hnd hu
  cases hx with|iface _ _ cu hvu=>
  split at he
  ·rename_i nV
   simp only[aai]at he
   refine⟨_,?_,holds hvu he.symm⟩
   cases d<;>first|exact(hnd _ rfl).elim|simp[Instr.typeAssert,run_underlying hu,nV]
  ·rename_i nV
   obtain⟨z,cz,hok,_,h1,h2⟩:=fails he
   refine⟨_,?_,h2⟩
   cases d<;>first|exact(hnd _ rfl).elim|simp[Instr.typeAssert,run_underlying hu,nV,hok,h1]
 ·cases he
end Go.Sk
namespace Go.Sk
variable{P:Program}{ρ:eT}{h:AH}{w:World}
def Gd(P:Program)(ρ:eT)(h:AH)(w:World)(s:Sem Value)(v:AV)(h':AH):Prop:=
 ∃cv w' ρ',s.run P w= .ok cv w'/\bf ρ' v cv/\Rel ρ' h' w'/\Stp ρ h w ρ' h' w'
def Gu(P:Program)(ρ:eT)(h:AH)(w:World)(s:Sem Unit)(h':AH):Prop:=
 ∃w' ρ',s.run P w= .ok () w'/\Rel ρ' h' w'/\Stp ρ h w ρ' h' w'
theorem Gd.pure{s:Sem Value}{v:AV}(hR:Rel ρ h w)(hs:∃cv,s.run P w= .ok cv w/\bf ρ v cv):Gd P ρ h w s v h:=
 let⟨cv,h1,h2⟩:=hs;⟨cv,w,ρ,h1,h2,hR,Stp.refl ρ h w⟩
theorem Wrote.set{b:Nat}(hb:b<w.heap.size)(x:Obj):Wrote w { w with heap:=w.heap.setIfInBounds b x } b x where
 os:=rfl
 tape:=rfl
 output:=rfl
 size:=by simp
 here:=by simp[hb]
 block:=fun k hk=>by simp[alv hk]
theorem Wrote.trans{w1 w2:World}{b:Nat}{x y:Obj}(h1:Wrote w w1 b x)(h2:Wrote w1 w2 b y):Wrote w w2 b y where
 os:=h2.os.trans h1.os
 tape:=h2.tape.trans h1.tape
 output:=h2.output.trans h1.output
 size:=h2.size.trans h1.size
 here:=h2.here
 block:=fun k hk=>(h2.block k hk).trans (h1.block k hk)
theorem Ch{b:Nat}{o:Obj}(hb:w.heap[b]?=some o)(ho:∀c t f,o≠ .cells c t f)(x:Obj) :
  ∃w',(setObj b x).run P w= .ok () w'/\Wrote w w' b x:=by
 refine⟨{ w with heap:=w.heap.setIfInBounds b x },?_,Wrote.set (lt_of_block hb) x⟩
 cases o<;>first|exact absurd rfl (ho _ _ _)|simp[setObj,Sem.run,hb]
theorem Wrote.setCell{b o:Nat}{cur:List Value}{T:TypeId}{fr:Nat × Nat}(hb:w.heap[b]?=some (.cells cur.toArray T fr))(v:Value) :
  Wrote w (w.setCell ⟨b,o,none⟩ v) b (.cells (cur.set o v).toArray T fr) where
 os:=rfl
 tape:=rfl
 output:=rfl
 size:=by simp[World.setCell]
 here:=by simp[World.setCell,akN,hb]
 block:=fun k hk=>by simp[World.setCell,akN,alv hk]
theorem Ed{b o:Nat}{T:TypeId}{fr:Nat × Nat}:∀(vs:List Value) (i:Nat) (cur:List Value) (w:World),w.heap[b]?=some (.cells cur.toArray T fr)->
  (∀j,j<vs.length->¬(fr.1<=o+i+j/\o+i+j<fr.2))->o+i+vs.length<=cur.length->(∀v∈vs,v.oneCell'=true)->
  ∃w',(storeCells ⟨b,o,none⟩ vs i).run P w= .ok () w'/\Wrote w w' b (.cells (setCells cur (o+i) vs).toArray T fr)
 |[],i,cur,w,hb,_,_,_=>⟨w,rfl,⟨rfl,rfl,rfl,rfl,hb,fun _ _=>rfl⟩⟩
 |v::vs,i,cur,w,hb,hf,hl,h1=>by
  simp only[ajz]at hl hf
  have hcell:w.cell? ⟨b,o+i,none⟩=some (cur[o+i]'(by omega)):=by simp[World.cell?,hb]
  have hfro:w.frozen? ⟨b,o+i,none⟩=false:=by
   have:=hf 0 (by omega)
   obtain⟨lo,hi⟩:=fr
   simp only[World.frozen?,hb]
   simp only[alo]at this
   simp only[Bool.and_eq_false_iff,decide_eq_false_iff_not]
   omega
  have hw1:=Wrote.setCell (o:=o+i) hb v
  obtain⟨w',hr,hw2⟩:=Ed vs (i+1) (cur.set (o+i) v) (w.setCell ⟨b,o+i,none⟩ v) hw1.here
   (fun j hj=>by have:=hf (j+1) (by omega);rwa [show o+i+(j+1)=o+(i+1)+j by omega]at this) (by simp;omega) (fun x hx=>h1 x (by simp[hx]))
  refine⟨w',?_,?_⟩
  ·simp only[storeCells,Sem.run_bind,Addr.add_lit,run_store P w _ v _ (h1 v (by simp)),hcell,hfro,ajI,if_false,Result.andThen_ok,hr]
  ·simp only[setCells]
   exact hw1.trans (by rwa [aky])
theorem Fq{α:Type}:∀(vs l:List α) (off:Nat) (v:α),v∈setCells l off vs->v∈l\/v∈vs
 |[],_,_,_,h=> .inl h
 |x::vs,l,off,v,h=>by
  rcases Fq vs (l.set off x) (off+1) v h with h|h
  ·rcases List.mem_or_eq_of_mem_set h with h|h
   ·exact .inl h
   ·exact .inr (by simp[h])
  ·exact .inr (by simp[h])
theorem Yt(hR:Rel ρ h w){t:TypeId}{p v:AV}{cp cv:Value}{h':AH}(he:Ce P t p v h=some h')(hp:bf ρ p cp)(hv:bf ρ v cv) :
  Gu P ρ h w (Instr.storeAt t cp cv) h':=by
 unfold Ce at he
 split at he
 ·rename_i r off
  cases hp with|ptr _ _ b hb=>
  split at he
  ·rename_i cs T n hg hs
   split at he
   ·rename_i hc
    obtain⟨hvn,hle,hsc⟩:=hc
    simp only[aai]at he;subst he
    obtain⟨eU,fr,hbl,hl,ho,hfr⟩:=hR.obj r _ b hg hb
    have qR:=hv.cells
    obtain⟨w',hr,hw⟩:=Ed (P:=P) (o:=off) cv.cells.toList 0 eU w hbl (fun j hj=>Oz hfr (by have:=hl.1;rw[qR.1]at hj;omega)) (by have:=hl.1;rw[qR.1];omega) (qR.one hsc)
    have hlr:=iU.setCells (off:=off) hl qR
    refine⟨w',ρ,?_,hR.setObj hg trivial hb (o':= .cells (setCells cs off v.cells) T) trivial hw (fun _ _ _ e=>by rw[hbl]at e;simp only[aai,Obj.cells.injEq]at e;exact⟨_,_,_,rfl,by rw[<-e.1];simp[BK]⟩) ⟨_,_,rfl,hlr,?_,by rwa [BK]⟩,Stp.setObj hg trivial hb trivial hw⟩
    ·have:cv.cells.size=n:=by have:=qR.1;simp at this;omega
     simp[Instr.storeAt,Instr.sureAddr,storeVar,AU hs,this,hr]
    ·intro x hx
     rcases Fq _ _ _ _ hx with hx|hx
     ·exact ho x hx
     ·exact qR.one hsc x hx
   ·cases he
  ·cases he
 ·cases he
theorem UD(hR:Rel ρ h w)(hb:ρ.base<=w.heap.size){elem:TypeId}{v p:AV}{cv:Value}{h':AH}(he:La elem v h=some (p,h'))(hv:bf ρ v cv) :
  Gd P ρ h w (do pure (.pointer (some (<-newVar elem cv)))) p h':=by
 unfold La at he
 split at he
 ·rename_i hsc
  simp only[aai,abW]at he;obtain⟨rfl,rfl⟩:=he
  have qR:=hv.cells
  have hle:=eT.fV (b:=w.heap.size) hR.fT
  refine⟨.pointer (some ⟨w.heap.size,0,none⟩),_,ρ.dh h.next w.heap.size,?_,.ptr _ _ _ (eT.fE ..),hR.newObj hb (.cells v.cells elem) trivial (.cells cv.cells elem) ⟨cv.cells.toList,_,by simp,(qR.mono hle).pre,qR.one hsc,.inl rfl⟩,Stp.newObj hR _ _⟩
  simp[newVar,newRow]
 ·cases he
theorem aaH(hR:Rel ρ h w)(hb:ρ.base<=w.heap.size){elem:TypeId}{z p:AV}{h':AH}(hz:BL P elem=some z)(he:La elem z h=some (p,h')) :
  Gd P ρ h w (Instr.alloc elem true (.tuple #[])) p h':=by
 obtain⟨cz,h1,h2⟩:=Fe (ρ:=ρ) hz w
 obtain⟨cv,w',ρ',h3,h4,h5,h6⟩:=UD (P:=P) hR hb he h2
 exact⟨cv,w',ρ',by simpa[Instr.alloc,h1]using h3,h4,h5,h6⟩
theorem adh(hR:Rel ρ h w)(hb:ρ.base<=w.heap.size){elem:TypeId}{v p:AV}{cv:Value}{h':AH}(he:La elem v h=some (p,h'))(hv:bf ρ v cv) :
  Gd P ρ h w (Instr.box elem cv) p h':=UD (P:=P) hR hb he hv
theorem flat_get{n:Nat}:∀{xs:List AV},(∀i (hi:i<xs.length),xs[i].cells.length=n)->∀i j,j<n->(flat xs)[i*n+j]?=(xs[i]?).bind (·.cells[j]?)
 |[],_,i,j,_=>by simp[flat]
 |x::xs,hn,i,j,hj=>by
  have h0:=hn 0 (by simp)
  simp only[ajS]at h0
  have ht:∀i (hi:i<xs.length),xs[i].cells.length=n:=fun i hi=>by have:=hn (i+1) (by simpa using hi);simpa using this
  rw[DZ]
  cases i with
  |zero=>rw[alu,ajx,ajB (by omega)];simp
  |succ i=>
   rw[adU (by rw[h0,ajW];omega),h0,show(i+1)*n+j - n=i*n+j by rw[ajW];omega,flat_get ht i j hj]
   simp
theorem bf.mo{n:Nat}{xs:List AV}{cs:List Value}(hn:∀i (hi:i<xs.length),xs[i].cells.length=n)(hl:dw ρ (flat xs) cs){b off cap:Nat}
  (hi:∀k v,cs[k]?=some v->ρ.gG b (off+k)=some v) (c:Cap) (hcap:xs.length<=cap) (hc:jR ρ c b (off+xs.length*n) n xs.length cap) :
  bf ρ (.fC xs c) (.slice (some ⟨b,off,none⟩) xs.length cap):=by
 have hlen:cs.length=xs.length*n:=by rw[hl.1];exact Bd hn
 have at_:∀i j,i<xs.length->j<n->∃v,cs[i*n+j]?=some v:=fun i j hi hj=>by
  have:(i+1)*n<=xs.length*n:=ajY _ hi
  rw[ajW,alr]at this
  exact⟨cs[i*n+j]'(by omega),aaj _⟩
 refine .fC xs c b off cap n (fun i j=>cs.getD (i*n+j) Go.undef) hn (fun i j hi' hj=>?_) (fun i hi' j hj=>?_) hcap hc
 ·obtain⟨v,hv⟩:=at_ i j hi' hj
  rw[aky,List.getD,hv];exact hi _ _ hv
 ·have hj0:=hj
  rw[hn i hi']at hj0
  have hf:=flat_get hn i j hj0
  rw[aaj hi',ajK,aaj hj]at hf
  obtain⟨x,hx,hr⟩:=hl.find hf
  rw[List.getD,hx];exact hr
theorem Xt{n:Nat}:∀{xs:List AV},(∀i (hi:i<xs.length),xs[i].cells.length=n)->∀(i:Nat) (v:AV),i<xs.length->v.cells.length=n->flat (xs.set i v)=setCells (flat xs) (i*n) v.cells
 |[],_,i,v,hi,_=>by simp at hi
 |x::xs,hn,i,v,hi,hv=>by
  have h0:=hn 0 (by simp)
  simp only[ajS]at h0
  have ht:∀i (hi:i<xs.length),xs[i].cells.length=n:=fun i hi=>by have:=hn (i+1) (by simpa using hi);simpa using this
  have pre:∀(vs a b:List AV),a.length=vs.length->setCells (a++b) 0 vs=vs++b:=by
   intro vs
   have key:∀(vs a b p:List AV),a.length=vs.length->setCells (p++a++b) p.length vs=p++vs++b:=by
    intro vs
    induction vs with
    |nil=>intro a b p hl;have:a=[]:=abf (by simpa using hl);subst this;simp[setCells]
    |cons u vs ih=>
     intro a b p hl
     cases a with
     |nil=>simp at hl
     |cons y a=>
      simp only[setCells]
      have e:(p++y::a++b).set p.length u=(p++[u])++a++b:=by simp
      rw[e]
      have:=ih a b (p++[u]) (by simpa using hl)
      simp only[abO,akc]at this
      rw[this];simp
   intro a b hl
   have:=key vs a b [] hl
   simpa using this
  have shift:∀(vs a b:List AV) (o:Nat),setCells (a++b) (a.length+o) vs=a++setCells b o vs:=by
   intro vs
   induction vs with
   |nil=>intro a b o;rfl
   |cons u vs ih=>
    intro a b o
    simp only[setCells]
    rw[show(a++b).set (a.length+o) u=a++b.set o u by rw[akt _ _ (by omega)];congr 2;omega]
    rw[aky,ih]
  cases i with
  |zero=>
   rw[ak8,DZ,DZ,alu,pre _ _ _ (by omega)]
  |succ i=>
   rw[ak9,DZ,DZ,Xt ht i v (by simpa using hi) hv,ajW,alr,Nat.add_comm,<-h0,shift]
theorem IB{n:Nat}:∀(parts:List (Nat × AV)) (gZ:List (Nat × Value)) (xs out:List AV) (gX:List Value),lJ ρ parts gZ->(∀i (hi:i<xs.length),xs[i].cells.length=n)->
  dw ρ (flat xs) gX->(∀v∈gX,v.oneCell'=true)->FT n xs parts=some out->∃cout,Instr.fill (fun i=>some (i*n,n)) gX.toArray gZ=some cout.toArray/\dw ρ (flat out) cout/\
   (∀i (hi:i<out.length),out[i].cells.length=n)/\out.length=xs.length/\(∀v∈cout,v.oneCell'=true)
 |[],[],xs,out,gX,_,hn,hl,h1,h=>by simp only[FT,aai]at h;subst h;exact⟨gX,rfl,hl,hn,rfl,h1⟩
 |[],_::_,_,_,_,h,_,_,_,_=>by have:=h.1;simp at this
 |_::_,[],_,_,_,h,_,_,_,_=>by have:=h.1;simp at this
 |(i,v)::parts,(j,cv)::gZ,xs,out,gX,hp,hn,hl,h1,h=>by
  obtain⟨e,hv⟩:=hp.head
  simp only at e;subst e
  unfold FT at h
  unfold Instr.fill
  split at h
  ·rename_i hh
   obtain⟨hvn,hj,hsc⟩:=hh
   have hc:=hv.cells
   have e1:cv.cells.size=n:=by have:=hc.1;simp at this;omega
   have e2:gX.length=xs.length*n:=by rw[hl.1];exact Bd hn
   have e3:(j+1)*n<=xs.length*n:=ajY _ hj
   rw[ajW,alr]at e3
   simp only
   rw[if_neg (by simp only[e1,List.size_toArray,e2];simp;omega)]
   have:=KJ gX cv.cells.toList (j*n) 0
   rw[show cv.cells.zipIdx.foldl (fun(cs:Array Value) (x:Value × Nat)=>cs.setIfInBounds (j*n+x.2) x.1) gX.toArray=(setCells gX (j*n) cv.cells.toList).toArray by
    rw[<-Array.foldl_toList,Array.toList_zipIdx];simpa using this]
   have hset:∀i (hi:i<(xs.set j v).length),(xs.set j v)[i].cells.length=n:=fun i hi=>by
    rw[List.getElem_set];split
    ·exact hvn
    ·exact hn _ _
   obtain⟨cout,h2,h3,h4,h5,h6⟩:=IB parts gZ (xs.set j v) out (setCells gX (j*n) cv.cells.toList) hp.tail hset (by rw[Xt hn j v hj hvn];exact dw.setCells hl hc)
    (fun x hx=>by
     rcases Fq _ _ _ _ hx with hx|hx
     ·exact h1 x hx
     ·exact hc.one hsc x hx) h
   exact⟨cout,h2,h3,h4,by simpa using h5,h6⟩
  ·cases h
theorem Io{n:Nat}{z:AV}(hz:z.cells.length=n)(len:Nat):(∀i (hi:i<(List.replicate len z).length),(List.replicate len z)[i].cells.length=n)/\
  (flat (List.replicate len z)).length=len*n/\∀k,k<len*n->(flat (List.replicate len z))[k]?=z.cells[k % n]?:=by
 have h1:∀i (hi:i<(List.replicate len z).length),(List.replicate len z)[i].cells.length=n:=fun i hi=>by simpa using hz
 refine⟨h1,by rw[Bd h1];simp,fun k hk=>?_⟩
 have hn:0<n:=by
  rcases aln n with rfl|h
  ·simp at hk
  ·exact h
 have:=flat_get h1 (k / n) (k % n) (Nat.mod_lt _ hn)
 rw[show k / n*n+k % n=k by rw[als];exact Nat.div_add_mod k n]at this
 rw[this]
 have:k / n<len:=Nat.div_lt_of_lt_mul (by rwa [als])
 simp[this]
theorem dw.zeros{n:Nat}{z:AV}{cz:Value}(hz:z.cells.length=n)(hv:bf ρ z cz)(len:Nat) :
  dw ρ (flat (List.replicate len z)) ((List.range (len*n)).map fun k=>cz.cells[k % cz.cells.size]!)/\(z.cells.all AV.scalar=true->∀v∈(List.range (len*n)).map fun k=>cz.cells[k % cz.cells.size]!,v.oneCell'=true):=by
 obtain⟨h1,h2,h3⟩:=Io hz len
 have hc:=hv.cells
 have hs:cz.cells.size=n:=by have:=hc.1;simp at this;omega
 refine⟨⟨by simp[h2],fun i hi hj=>?_⟩,fun hsc v hm=>?_⟩
 ·rw[h2]at hi
  have hn:0<n:=by
   rcases aln n with rfl|h
   ·simp at hi
   ·exact h
  have e:=h3 i hi
  have hlt:i % n<n:=Nat.mod_lt _ hn
  rw[aaj (by rw[h2];exact hi),aaj (by rw[hz];exact hlt)]at e
  simp only[aai]at e
  rw[e]
  have:=hc.2 (i % n) (by rw[hz];exact hlt) (by simp[hs];exact hlt)
  simp only[akf,List.getElem_range,hs]
  rw[getElem!_pos cz.cells (i % n) (by rw[hs];exact hlt)]
  simpa using this
 ·simp only[ajA,ajD]at hm
  obtain⟨k,hk,rfl⟩:=hm
  have hn:0<n:=by
   rcases aln n with rfl|h
   ·simp at hk
   ·exact h
  have hlt:k % n<n:=Nat.mod_lt _ hn
  rw[hs,getElem!_pos cz.cells (k % n) (by rw[hs];exact hlt)]
  exact hc.one hsc _ (by simp)
theorem Qy(hR:Rel ρ h w)(hb:ρ.base<=w.heap.size){mu:Bool}{t:TypeId}{len:Nat}{parts:List (Nat × AV)}{gZ:List (Nat × Value)}{v:AV}{h':AH}
  (hp:lJ ρ parts gZ) (he:F5 P mu t len parts h=some (v,h')):Gd P ρ h w (Instr.buildSlice t len gZ.toArray) v h':=by
 unfold F5 at he
 split at he
 ·rename_i elem hu
  split at he
  ·rename_i n z hs hz
   split at he
   ·cases he
   ·rename_i hc
    have hn0:n≠0:=fun e=>hc (.inl e)
    have hlim:¬len*n>16777216:=fun e=>hc (.inr (.inl e))
    have hzn:z.cells.length=n:=alc fun e=>hc (.inr (.inr (.inl e)))
    have hsc:z.cells.all AV.scalar=true:=by
     cases e:z.cells.all AV.scalar with
     |true=>rfl
     |false=>exact(hc (.inr (.inr (.inr e)))).elim
    obtain⟨cz,hcz,lK⟩:=Fe (ρ:=ρ) hz w
    obtain⟨hl0,ho0⟩:=dw.zeros hzn lK len
    obtain⟨hu0,_,_⟩:=Io hzn len
    split at he
    ·rename_i xs hf
     obtain⟨cout,kV,hl,hsz,hln,ho⟩:=IB parts gZ _ xs _ hp hu0 hl0 (ho0 hsc) hf
     have hxl:xs.length=len:=by rw[hln];simp
     have hcl:cout.length=len*n:=by rw[hl.1,Bd hsz,hxl]
     have hrun:(Instr.buildSlice t len gZ.toArray).run P w= .ok (.slice (some ⟨w.heap.size,0,none⟩) len len) { w with heap:=w.heap.push (.cells cout.toArray elem) }:=by
      have hcs:cz.cells.size=n:=by have:=lK.cells.1;simp at this;omega
      have pF:¬16777216<len*n:=hlim
      by_cases h0:len*n=0
      ·have hl0:len=0:=by
        rcases Nat.mul_eq_zero.1 h0 with e|e
        ·exact e
        ·exact absurd e hn0
       subst hl0
       simp only[alu,List.range_zero,akz]at kV
       simp only[Instr.buildSlice,Sem.run_bind,run_underlying hu,AU hs,Result.andThen_ok]
       have e:∀f:Nat->Value,(Array.range 0).map f= #[]:=fun f=>akZ (by simp)
       simp[e,kV,newRow]
      ·simp only[Instr.buildSlice,Sem.run_bind,run_underlying hu,AU hs,Result.andThen_ok]
       have harr:((Array.range (len*n)).map fun x=>cz.cells[x % cz.cells.size]!)=((List.range (len*n)).map fun k=>cz.cells[k % cz.cells.size]!).toArray:=by
        apply akZ;simp
       rw[if_neg (by simpa using pF),if_neg h0]
       simp only[Sem.run_bind,hcz,Result.andThen_ok,Sem.run_pure,harr,kV]
       simp[newRow]
     split at he
     ·simp only[aai,abW]at he;obtain⟨rfl,rfl⟩:=he
      have hle:=eT.fV (b:=w.heap.size) hR.fT
      exact⟨_,_,ρ.dh h.next w.heap.size,hrun,.hsl _ 0 len (.known len) _ len (eT.fE ..) (acu _) rfl,
       hR.newObj hb (.cells (flat xs) elem) trivial (.cells cout.toArray elem) ⟨cout,_,rfl,(hl.mono hle).pre,ho,.inl rfl⟩,Stp.newObj hR _ _⟩
     ·simp only[aai,abW]at he;obtain⟨rfl,rfl⟩:=he
      have hR':=hR.kP cout.toArray elem (len*n) (by simp[hcl]) (fun j hj=>by
       have:j<cout.length:=by omega
       simp only[Array.getD,List.size_toArray,this,dif_pos]
       exact ho _ (by simp))
      have hstp:=Stp.kP hR (.cells cout.toArray elem) (len*n) (fun j=>cout.toArray.getD j Go.undef)
      have hv:bf (ρ.gq w.heap.size 0 (len*n) fun j=>cout.toArray.getD j Go.undef) (.fC xs .lit) (.slice (some ⟨w.heap.size,0,none⟩) xs.length len):=by
       refine bf.mo hsz (hl.mono hstp.le) (fun k v hk=>?_) .lit (by omega) (show len=xs.length by omega)
       obtain⟨hk1,hk2⟩:=abo.1 hk
       rw[eT.iG _ _ _ _ _ _ (by omega)]
       simp[hk1,hk2]
      rw[hxl]at hv
      exact⟨_,_,_,hrun,hv,hR',hstp⟩
    ·cases he
  ·cases he
 ·cases he
end Go.Sk
namespace Go.Sk
variable{P:Program}{ρ:eT}{h:AH}{w:World}
theorem Ni{t:TypeId}{n:Nat}(h:sizeT P t=some n):∃i,P.info? t=some i/\i.size=n:=by
 unfold sizeT at h
 cases hi:P.info? t with
 |none=>rw[hi]at h;cases h
 |some i=>rw[hi]at h;simp only[ajL,aai]at h;exact⟨i,rfl,h⟩
theorem Nl{t:TypeId}{z:AV}{i:TypeInfo}(h:BL P t=some z)(hi:P.info? t=some i):∃cz,i.zero=some cz/\bf ρ z cz:=by
 unfold BL at h
 rw[hi,ajK]at h
 cases hz:i.zero with
 |none=>rw[hz]at h;cases h
 |some v=>rw[hz]at h;exact⟨v,rfl,.kS h⟩
theorem RI(hR:Rel ρ h w)(hb:ρ.base<=w.heap.size){t:TypeId}{l c v:AV}{cl cc:Value}{h':AH}(hl:bf ρ l cl)(hc:bf ρ c cc)
  (he:FW P t l c h=some (v,h')):Gd P ρ h w (Instr.makeSlice t cl cc) v h':=by
 unfold FW at he
 split at he
 ·rename_i elem kl l kc c hu
  cases hl;cases hc
  split at he
  ·rename_i n z hs hz
   split at he
   ·rename_i hh
    obtain⟨h1,h2,h3,h4,h5,h6,h7⟩:=hh
    simp only[aai,abW]at he;obtain⟨rfl,rfl⟩:=he
    obtain⟨i,hi,hsz⟩:=Ni hs
    obtain⟨cz,hcz,lK⟩:=Nl (ρ:=ρ) hz hi
    have hby:P.bytesOf elem=i.bytes:=by simp[Program.bytesOf,hi]
    rw[hby]at h6
    have hrun:=run_make (P:=P) w t elem i cz hu hi hcz kl kc l c h1 h2 (by omega) (by omega)
    obtain⟨hl0,ho0⟩:=dw.zeros h3 lK c.toNat
    have harr:madeCells cz.cells (c.toNat*i.size)=((List.range (c.toNat*n)).map fun k=>cz.cells[k % cz.cells.size]!).toArray:=by
     apply akZ;simp[madeCells,hsz]
    rw[harr]at hrun
    have hle:=eT.fV (b:=w.heap.size) hR.fT
    exact⟨_,_,ρ.dh h.next w.heap.size,hrun,.hsl _ 0 l.toNat (.known c.toNat) _ c.toNat (eT.fE ..) (by omega) rfl,
     hR.newObj hb (.cells (flat (List.replicate c.toNat z)) elem) trivial _ ⟨_,_,rfl,(hl0.mono hle).pre,ho0 h4,.inl rfl⟩,Stp.newObj hR _ _⟩
   ·cases he
  ·cases he
 ·cases he
theorem aaf(hR:Rel ρ h w){ts:Array TypeId}{ty:TypeId}{d x v:AV}{cd cx:Value}{h':AH}(hd:bf ρ d cd)(hx:bf ρ x cx)
  (he:acp P ts d x h=some (v,h')):Gd P ρ h w (Builtin.copy_ ts ty #[cd,cx]) v h':=by
 unfold acp at he
 split at he
 ·rename_i t ht
  split at he
  ·rename_i elem hu
   split at he
   ·rename_i ys n hel hs
    split at he
    ·cases he
    ·rename_i hh
     simp only[aai,abW]at he;obtain⟨rfl,rfl⟩:=he
     have hn0:n≠0:=fun e=>hh (.inl e)
     have hok:Ba n ys=true:=by
      cases e:Ba n ys with
      |true=>rfl
      |false=>exact(hh (.inr e)).elim
     obtain⟨hlen,hsz,eU,hl,ho,hfc⟩:=Ng (P:=P) hR hel hx hs hn0 hok
     cases hd
     have hf0:=hfc 0 (ajy _)
     exact Gd.pure hR ⟨.int .i64 0,by simp[Builtin.copy_,ht,run_underlying hu,hlen,AU hs,hf0,goInt],.int _ _⟩
   ·rename_i ys n r off len cap hel hs
    split at he
    ·rename_i cs T hg
     cases hd with|hsl _ _ _ _ b nn hb hln hcap=>
     simp only at he
     split at he
     ·cases he
     ·rename_i hh
      simp only[aai,abW]at he;obtain⟨rfl,rfl⟩:=he
      have hn0:n≠0:=fun e=>hh (.inl e)
      have hok:Ba n ys=true:=by
       cases e:Ba n ys with
       |true=>rfl
       |false=>exact(hh (.inr (.inl e))).elim
      have hle:off+len*n<=cs.length:=akD fun e=>hh (.inr (.inr e))
      obtain⟨hlen,hsz,eU,hl,ho,hfc⟩:=Ng (P:=P) hR hel hx hs hn0 hok
      obtain⟨cds,fr,hbl,hdl,hdo,hfr⟩:=hR.obj r _ b hg hb
      have hm1:Nat.min ys.length len<=ys.length:=Nat.min_le_left _ _
      have hm2:Nat.min ys.length len<=len:=Nat.min_le_right _ _
      generalize hM:Nat.min ys.length len=m at *
      have hf0:=hfc m hm1
      have ajh:eU.length=ys.length*n:=by rw[hl.1];exact Bd hsz
      have hmn:m*n<=ys.length*n:=ajY _ hm1
      have aji:m*n<=len*n:=ajY _ hm2
      have htl:(eU.take (m*n)).length=m*n:=by rw[ajE];omega
      have wK:flat (ys.take m)=(flat ys).take (m*n):=by
       have e1:flat ys=flat (ys.take m)++flat (ys.drop m):=by rw[<-Jf,ajU]
       have e2:(flat (ys.take m)).length=m*n:=by
        rw[Bd (n:=n) (fun i hi=>by simp only[akY];exact hsz _ _),ajE,Nat.min_eq_left hm1]
       rw[e1,List.take_append_of_le_length (Nat.le_of_eq e2.symm),ajQ (Nat.le_of_eq e2)]
      obtain⟨w',hr,hw⟩:=Ed (P:=P) (o:=off) (eU.take (m*n)) 0 cds w hbl (fun j hj=>Oz hfr (by have:=hdl.1;rw[htl]at hj;omega)) (by have:=hdl.1;rw[htl];omega) (fun v hv=>ho v (ake hv))
      have hlr:=iU.setCells (off:=off) hdl (hl.take (m*n))
      refine⟨.int .i64 m,w',ρ,?_,.int _ _,hR.setObj hg trivial hb (o':= .cells (setCells cs off (flat (ys.take m))) T) trivial hw (fun _ _ _ e=>by rw[hbl]at e;simp only[aai,Obj.cells.injEq]at e;exact⟨_,_,_,rfl,by rw[<-e.1];simp[BK]⟩) ⟨_,_,rfl,by rw[wK];exact hlr,?_,by rwa [BK]⟩,Stp.setObj hg trivial hb trivial hw⟩
      ·simp[Builtin.copy_,ht,run_underlying hu,hlen,AU hs,hM,hf0,hr,goInt]
      ·intro x hx
       rcases Fq _ _ _ _ hx with hx|hx
       ·exact hdo x hx
       ·exact ho x (ake hx)
    ·cases he
   ·cases he
  ·cases he
 ·cases he
theorem GI{α:Type}(f:α->α):∀(l:List α) (n:Nat),(Bf l n f).length=l.length
 |[],_=>rfl
 |_::_,0=>rfl
 |_::l,n+1=>by simp[Bf,GI f l n]
theorem Rh{α:Type}(f:α->α):∀(l:List α) (n i:Nat) (hi:i<l.length),(Bf l n f)[i]'(by rw[GI];exact hi)=if i=n then f l[i]else l[i]
 |[],_,i,hi=>by simp at hi
 |a::l,0,0,_=>by simp[Bf]
 |a::l,0,i+1,_=>by simp[Bf]
 |a::l,n+1,0,_=>by simp[Bf]
 |a::l,n+1,i+1,hi=>by
  have:=Rh f l n i (by simpa using hi)
  simpa[Bf]using this
theorem gL.modify{es:List (AV × AV × Nat)}{gK:List MapEntry}(hr:gL ρ es gK)(i:Nat)(f:AV × AV × Nat->AV × AV × Nat)(g:MapEntry->MapEntry)
  (hfg:∀(hi:i<es.length) (hj:i<gK.length),Z0 ρ es[i] gK[i]->Z0 ρ (f es[i]) (g gK[i])):gL ρ (Bf es i f) (gK.modify i g):=by
 refine⟨by simp[GI,hr.1],fun k hk hk'=>?_⟩
 have hk3:k<es.length:=by rwa [GI]at hk
 have hk2:k<gK.length:=by rw[hr.1];exact hk3
 rw[Rh f es i k hk3]
 simp only[List.getElem_modify]
 by_cases e:k=i
 ·subst e;simp only[if_true]
  exact hfg hk3 hk2 (hr.2 k hk3 hk2)
 ·rw[if_neg e,if_neg (alv e)]
  exact hr.2 k hk3 hk2
theorem gL.push{es:List (AV × AV × Nat)}{gK:List MapEntry}(hr:gL ρ es gK)(e:AV × AV × Nat)(c:MapEntry)(he:Z0 ρ e c):gL ρ (es++[e]) (gK++[c]):=by
 refine⟨by simp[hr.1],fun k hk hk'=>?_⟩
 by_cases h:k<es.length
 ·rw[akP h,akP (by rw[hr.1];exact h)];exact hr.2 _ _ _
 ·have:k=es.length:=by simp at hk;omega
  subst this
  rw[List.getElem_append_right (by omega),List.getElem_append_right (by rw[hr.1];omega)]
  simpa[hr.1]using he
theorem bf.tQ{a b:AV}{ca cb:Value}(hp:D5 a b=true)(ha:bf ρ a ca)(hb:bf ρ b cb):Instr.sameBits 10000 cb ca=true:=by
 have:D5 b a=true:=by
  have cell:∀{x y:AV},Dk x y=true->Dk y x=true:=by
   intro x y hh
   cases x<;>cases y<;>simp[Dk]at hh ⊢
   ·exact hh.symm
   ·exact⟨hh.1.symm,hh.2.symm⟩
   ·exact hh.symm
  have cells:∀{x y:List AV},BR x y=true->BR y x=true:=by
   intro x
   induction x with
   |nil=>intro y hh;cases y<;>simp[BR]at hh ⊢
   |cons u x ih=>
    intro y hh
    cases y with
    |nil=>simp[BR]at hh
    |cons v y=>
     simp only[BR,aci]at hh ⊢
     exact⟨cell hh.1,ih hh.2⟩
  cases a<;>cases b<;>simp only[D5]at hp ⊢ <;>first|exact cells hp|exact cell hp
 exact bf.plain this hb ha
theorem Qg{k:AV}{ck:Value}(hk:bf ρ k ck){es:List (AV × AV × Nat)}{gK:List MapEntry}(hr:gL ρ es gK){i:Nat}{v:AV}{b:Nat}(hf:Found k es 0 (some (i,v,b))) :
  ∃(hi:i<es.length) (hj:i<gK.length),es[i].2.1=v/\es[i].2.2=b/\gK[i]?=some gK[i]/\(Instr.keyThatStays gK[i].key ck).run P w= .ok ck w:=by
 obtain⟨_,k',hek,hp⟩:=hf
 rw[Nat.sub_zero]at hek
 obtain⟨hi,he⟩:=abo.1 hek
 have hj:i<gK.length:=by rw[hr.1];exact hi
 refine⟨hi,hj,by rw[he],by rw[he],aaj hj,?_⟩
 have h1:=(hr.2 i hi hj).1
 rw[he]at h1
 have:=bf.tQ hp hk h1
 simp[Instr.keyThatStays,this]
theorem Le(hR:Rel ρ h w){t:TypeId}{m k v:AV}{cm ck cv:Value}{h':AH}(he:DL P t m k v h=some h')(hm:bf ρ m cm)(hk:bf ρ k ck)(hv:bf ρ v cv) :
  Gu P ρ h w (Instr.mapUpdate t cm ck cv) h':=by
 unfold DL at he
 split at he
 ·rename_i kt et r hu
  cases hm with|map _ b hb=>
  split at he
  ·rename_i es clock hg
   obtain⟨gK,hbl,hcn,hcr⟩:=hR.obj r _ b hg hb
   have hr:gL ρ es gK:=⟨hcn,hcr⟩
   have hgo:=DI (P:=P) hbl (fun _ _ _ e=>by cases e)
   split at he
   ·rename_i i v0 b0 hf
    simp only[aai]at he;subst he
    obtain⟨hck,hfound,q,hq,kE⟩:=run_findKey hk hr hf w
    cases q with
    |none=>exact kE.elim
    |some y=>
     obtain⟨j,cv0⟩:=y
     obtain⟨rfl,_⟩:=kE
     obtain⟨hi,hj,_,_,hc,pG⟩:=Qg (P:=P) (w:=w) hk hr hfound
     obtain⟨w',hset,hw⟩:=Ch (P:=P) hbl (fun _ _ _ e=>by cases e) (.map (gK.modify j fun e=>{ e with key:=ck,val:=cv }).toArray clock)
     refine⟨w',ρ,?_,hR.setObj hg trivial hb (o':= .map _ clock) trivial hw (fun _ _ _ e=>by rw[hbl]at e;cases e) ?_,Stp.setObj hg trivial hb trivial hw⟩
     ·simp[Instr.mapUpdate,run_underlying hu,hgo,hck,hq,aaj hj,pG,hset]
     ·have:=hr.modify j (fun e=>(k,v,e.2.2)) (fun e=>{ e with key:=ck,val:=cv }) (fun _ _ he=>⟨hk,hv,he.2.2⟩)
      exact⟨_,rfl,this.1,this.2⟩
   ·rename_i hf
    simp only[aai]at he;subst he
    obtain⟨hck,hfound,q,hq,kE⟩:=run_findKey hk hr hf w
    cases q with
    |some _=>exact kE.elim
    |none=>
     obtain⟨w',hset,hw⟩:=Ch (P:=P) hbl (fun _ _ _ e=>by cases e) (.map (gK++[({ key:=ck,val:=cv,born:=clock }:MapEntry)]).toArray (clock+1))
     refine⟨w',ρ,?_,hR.setObj hg trivial hb (o':= .map _ (clock+1)) trivial hw (fun _ _ _ e=>by rw[hbl]at e;cases e) ?_,Stp.setObj hg trivial hb trivial hw⟩
     ·simp[Instr.mapUpdate,run_underlying hu,hgo,hck,hq,hset]
     ·have:=hr.push (k,v,clock) { key:=ck,val:=cv,born:=clock } ⟨hk,hv,rfl⟩
      exact⟨_,rfl,this.1,this.2⟩
   ·cases he
  ·cases he
 ·cases he
theorem Tz(hR:Rel ρ h w){t:TypeId}{m k v:AV}{cm ck:Value}{h':AH}(he:FZ P t m k h=some (v,h'))(hm:bf ρ m cm)(hk:bf ρ k ck) :
  Gd P ρ h w (Instr.mapEntry t cm ck) v h':=by
 unfold FZ at he
 split at he
 ·rename_i kt et r hu
  cases hm with|map _ b hb=>
  split at he
  ·rename_i es clock hg
   obtain⟨gK,hbl,hcn,hcr⟩:=hR.obj r _ b hg hb
   have hr:gL ρ es gK:=⟨hcn,hcr⟩
   have hgo:=DI (P:=P) hbl (fun _ _ _ e=>by cases e)
   split at he
   ·rename_i i v0 b0 hf
    simp only[aai,abW]at he;obtain⟨rfl,rfl⟩:=he
    obtain⟨hck,hfound,q,hq,kE⟩:=run_findKey hk hr hf w
    cases q with
    |none=>exact kE.elim
    |some y=>
     obtain⟨j,cv0⟩:=y
     obtain⟨rfl,hcv⟩:=kE
     obtain⟨hi,hj,hv0,hb0,hc,pG⟩:=Qg (P:=P) (w:=w) hk hr hfound
     obtain⟨w',hset,hw⟩:=Ch (P:=P) hbl (fun _ _ _ e=>by cases e) (.map (gK.modify j fun e=>{ e with key:=ck }).toArray clock)
     have hent:=hr.2 j hi hj
     rw[Nat.sub_zero,hc]at hcv
     simp only[ajL,aai]at hcv;subst hcv
     refine⟨.tuple #[gK[j].val,.int .i64 b0],w',ρ,?_,?_,hR.setObj hg trivial hb (o':= .map _ clock) trivial hw (fun _ _ _ e=>by rw[hbl]at e;cases e) ?_,Stp.setObj hg trivial hb trivial hw⟩
     ·have hbn:gK[j].born=b0:=by rw[hent.2.2,hb0]
      simp[Instr.mapEntry,run_underlying hu,hgo,hck,hq,aaj hj,pG,hset,goInt,hbn]
     ·rw[<-hv0];exact bf.iE (.cons hent.2.1 (.cons (.int _ _) (.nil ρ)))
     ·have:=hr.modify j (fun e=>(k,e.2.1,e.2.2)) (fun e=>{ e with key:=ck }) (fun _ _ he=>⟨hk,he.2.1,he.2.2⟩)
      exact⟨_,rfl,this.1,this.2⟩
   ·rename_i hf
    simp only[aj4,abW]at he
    obtain⟨z,hz,rfl,rfl⟩:=he
    obtain⟨cz,hcz,lK⟩:=Fe (ρ:=ρ) hz w
    obtain⟨hck,hfound,q,hq,kE⟩:=run_findKey hk hr hf w
    cases q with
    |some _=>exact kE.elim
    |none=>
     obtain⟨w',hset,hw⟩:=Ch (P:=P) hbl (fun _ _ _ e=>by cases e) (.map (gK++[({ key:=ck,val:=cz,born:=clock }:MapEntry)]).toArray (clock+1))
     refine⟨.tuple #[cz,.int .i64 clock],w',ρ,?_,bf.iE (.cons lK (.cons (.int _ _) (.nil ρ))),hR.setObj hg trivial hb (o':= .map _ (clock+1)) trivial hw (fun _ _ _ e=>by rw[hbl]at e;cases e) ?_,Stp.setObj hg trivial hb trivial hw⟩
     ·simp[Instr.mapEntry,run_underlying hu,hgo,hck,hq,hcz,hset,goInt]
     ·have:=hr.push (k,z,clock) { key:=ck,val:=cz,born:=clock } ⟨hk,lK,rfl⟩
      exact⟨_,rfl,this.1,this.2⟩
   ·cases he
  ·cases he
 ·cases he
theorem NK(b:Int):∀(es:List (AV × AV × Nat)) (gK:List MapEntry) (i j:Nat),gL ρ es gK->Ia b es i=some j->i<=j/\gK.findIdx? (fun e=>(e.born:Int)==b)=some (j - i)
 |[],_,_,_,_,h=>by simp[Ia]at h
 |_::_,[],_,_,h,_=>by have:=h.1;simp at this
 |e::es,c::gK,i,j,hr,h=>by
  unfold Ia at h
  have hb:=hr.head.2.2
  split at h
  ·rename_i hh
   simp only[aai]at h;subst h
   refine⟨acu _,?_⟩
   rw[List.findIdx?_cons,hb];simp[hh]
  ·rename_i hh
   obtain⟨h1,h2⟩:=NK b es gK (i+1) j hr.tail h
   refine⟨by omega,?_⟩
   rw[List.findIdx?_cons,hb]
   have:((e.2.2:Int)==b)=false:=by rw[beq_eq_false_iff_ne];exact hh
   simp only[this,ajI,if_false,h2,ajL]
   congr 1;omega
theorem Qu(hR:Rel ρ h w){t:TypeId}{m s v:AV}{cm cs cv:Value}{h':AH}(he:CW m s v h=some h')(hm:bf ρ m cm)(hs:bf ρ s cs)(hv:bf ρ v cv) :
  Gu P ρ h w (Instr.entryStore t cm cs cv) h':=by
 unfold CW at he
 split at he
 ·rename_i r k b0
  cases hm with|map _ b hb=>
  cases hs
  split at he
  ·rename_i es clock hg
   obtain⟨gK,hbl,hcn,hcr⟩:=hR.obj r _ b hg hb
   have hr:gL ρ es gK:=⟨hcn,hcr⟩
   have hgo:=DI (P:=P) hbl (fun _ _ _ e=>by cases e)
   split at he
   ·rename_i i hf
    simp only[aai]at he;subst he
    obtain⟨_,hfi⟩:=NK b0 es gK 0 i hr hf
    obtain⟨w',hset,hw⟩:=Ch (P:=P) hbl (fun _ _ _ e=>by cases e) (.map (gK.modify i fun e=>{ e with val:=cv }).toArray clock)
    refine⟨w',ρ,?_,hR.setObj hg trivial hb (o':= .map _ clock) trivial hw (fun _ _ _ e=>by rw[hbl]at e;cases e) ?_,Stp.setObj hg trivial hb trivial hw⟩
    ·rw[Nat.sub_zero]at hfi
     simp[Instr.entryStore,hgo,asInt,asIntOf,hfi,hset]
    ·have:=hr.modify i (fun e=>(e.1,v,e.2.2)) (fun e=>{ e with val:=cv }) (fun _ _ he=>⟨he.1,hv,he.2.2⟩)
     exact⟨_,rfl,this.1,this.2⟩
   ·cases he
  ·cases he
 ·cases he
theorem gL.erase{es:List (AV × AV × Nat)}{gK:List MapEntry}(hr:gL ρ es gK)(i:Nat):gL ρ (es.eraseIdx i) (gK.eraseIdx i):=by
 refine⟨by simp[List.length_eraseIdx,hr.1],fun k hk hk'=>?_⟩
 simp only[List.getElem_eraseIdx]
 split<;>exact hr.2 _ _ _
theorem Xw(hR:Rel ρ h w){ts:Array TypeId}{ty:TypeId}{m k:AV}{cm ck:Value}{h':AH}(he:VK P ts m k h=some h')(hm:bf ρ m cm)(hk:bf ρ k ck) :
  ∃w' ρ',(Builtin.delete_ ts ty #[cm,ck]).run P w= .ok Go.undef w'/\Rel ρ' h' w'/\Stp ρ h w ρ' h' w':=by
 unfold VK at he
 split at he
 ·rename_i t ht
  split at he
  ·rename_i kt et hu
   split at he
   ·cases hm
    split at he
    ·rename_i hok
     simp only[aai]at he;subst he
     have:=run_checkKey (P:=P) true 10000 kt k ck w hok hk
     exact⟨w,ρ,by simp[Builtin.delete_,ht,run_underlying hu,this,Go.undef],hR,Stp.refl ρ h w⟩
    ·cases he
   ·rename_i r
    cases hm with|map _ b hb=>
    split at he
    ·rename_i es clock hg
     obtain⟨gK,hbl,hcn,hcr⟩:=hR.obj r _ b hg hb
     have hr:gL ρ es gK:=⟨hcn,hcr⟩
     have hgo:=DI (P:=P) hbl (fun _ _ _ e=>by cases e)
     split at he
     ·rename_i i v0 b0 hf
      simp only[aai]at he;subst he
      obtain⟨hck,hfound,q,hq,kE⟩:=run_findKey hk hr hf w
      cases q with
      |none=>exact kE.elim
      |some y=>
       obtain⟨j,cv0⟩:=y
       obtain⟨rfl,_⟩:=kE
       obtain⟨w',hset,hw⟩:=Ch (P:=P) hbl (fun _ _ _ e=>by cases e) (.map (gK.eraseIdx j).toArray clock)
       refine⟨w',ρ,?_,hR.setObj hg trivial hb (o':= .map _ clock) trivial hw (fun _ _ _ e=>by rw[hbl]at e;cases e) ?_,Stp.setObj hg trivial hb trivial hw⟩
       ·simp[Builtin.delete_,ht,run_underlying hu,hgo,hck,hq,hset,Go.undef]
       ·have:=hr.erase j
        exact⟨_,rfl,this.1,this.2⟩
     ·rename_i hf
      simp only[aai]at he;subst he
      obtain⟨hck,hfound,q,hq,kE⟩:=run_findKey hk hr hf w
      cases q with
      |some _=>exact kE.elim
      |none=>
       obtain⟨w',hset,hw⟩:=Ch (P:=P) hbl (fun _ _ _ e=>by cases e) (.map gK.toArray clock)
       have hR2:=hR.setObj hg trivial hb (o':= .map es clock) trivial hw (fun _ _ _ e=>by rw[hbl]at e;cases e) ⟨gK,rfl,hcn,hcr⟩
       have hS2:=Stp.setObj (o':= .map es clock) hg trivial hb trivial hw
       have hx:∀q,(h.set r (.map es clock)).get q=h.get q:=fun q=>by
        rw[AH.ak];split
        ·rename_i e;subst e;exact hg.symm
        ·rfl
       refine⟨w',ρ,by simp[Builtin.delete_,ht,run_underlying hu,hgo,hck,hq,hset,Go.undef],hR2.ext (fun q=>(hx q).symm) rfl,⟨hS2.le,hS2.next,hS2.os,hS2.tape,hS2.output,hS2.size,hS2.kept,fun k hk ho=>?_,hS2.old,hS2.gG⟩⟩
       rcases ho with⟨q,o,a1,a2,a3⟩|⟨g,e,c,a1,a2⟩
       ·exact .inl ⟨q,o,a1,a2,a3⟩
       ·exact .inr ⟨g,e,c,a1,a2⟩
     ·cases he
    ·cases he
   ·cases he
  ·cases he
 ·cases he
end Go.Sk
namespace Go.Sk
variable{P:Program}{ρ:eT}{h:AH}{w:World}
theorem SC(hR:Rel ρ h w)(hb:ρ.base<=w.heap.size){t:TypeId}{r:Option Value}(hr:∀x,r=some x->(∃k e,P.underlying t=some (.map k e))/\∃k n,x= .int k n) :
  Gd P ρ h w (Instr.makeMap t r) (.map h.next) (h.alloc (.map [] 0)):=by
 refine⟨.map (some w.heap.size),_,ρ.dh h.next w.heap.size,?_,.map _ _ (eT.fE ..),hR.newObj hb (.map [] 0) trivial (.map #[] 0) ⟨[],rfl,rfl,fun i hi=>by simp at hi⟩,Stp.newObj hR _ _⟩
 cases r with
 |none=>simp[Instr.makeMap]
 |some x=>
  obtain⟨⟨k,e,hu⟩,k',n,rfl⟩:=hr x rfl
  simp[Instr.makeMap,run_underlying hu,asInt,asIntOf]
theorem YA(hR:Rel ρ h w)(hb:ρ.base<=w.heap.size){t:TypeId}{x v:AV}{cx:Value}{h':AH}(he:Td P t x h=some (v,h'))(hx:bf ρ x cx) :
  Gd P ρ h w (Instr.range t cx) v h':=by
 have hle:=eT.fV (b:=w.heap.size) hR.fT
 unfold Td at he
 split at he
 ·rename_i s hu
  simp only[aai,abW]at he;obtain⟨rfl,rfl⟩:=he
  cases hx
  exact⟨.pointer (some ⟨w.heap.size,0,none⟩),_,ρ.dh h.next w.heap.size,by simp[Instr.range,run_underlying hu],.ptr _ _ _ (eT.fE ..),
   hR.newObj hb (.jQ s 0) trivial (.stringIter ⟨⟨s⟩⟩ 0) rfl,Stp.newObj hR _ _⟩
 ·rename_i k e hu
  simp only[aai,abW]at he;obtain⟨rfl,rfl⟩:=he
  cases hx
  exact⟨.pointer (some ⟨w.heap.size,0,none⟩),_,ρ.dh h.next w.heap.size,by simp[Instr.range,run_underlying hu],.ptr _ _ _ (eT.fE ..),
   hR.newObj hb (.jH none 0 [] 0) trivial (.mapIter none 0 #[] 0) ⟨none,rfl,rfl⟩,Stp.newObj hR _ _⟩
 ·rename_i k e r hu
  cases hx with|map _ b nJ=>
  split at he
  ·rename_i es clock hg
   simp only[aai,abW]at he;obtain⟨rfl,rfl⟩:=he
   obtain⟨gK,hbl,_,_⟩:=hR.obj r _ b hg nJ
   have hgo:=DI (P:=P) hbl (fun _ _ _ e=>by cases e)
   exact⟨.pointer (some ⟨w.heap.size,0,none⟩),_,ρ.dh h.next w.heap.size,by simp[Instr.range,run_underlying hu,hgo],.ptr _ _ _ (eT.fE ..),
    hR.newObj hb (.jH (some r) clock [] clock) trivial (.mapIter (some b) clock #[] clock) ⟨some b,rfl,b,hle.obj _ _ nJ,rfl⟩,Stp.newObj hR _ _⟩
  ·cases he
 ·cases he
theorem gL.filter(p:Nat->Bool):∀{es:List (AV × AV × Nat)} {gK:List MapEntry},gL ρ es gK->gL ρ (es.filter fun e=>p e.2.2) (gK.filter fun e=>p e.born)
 |[],[],h=>h
 |[],_::_,h=>by have:=h.1;simp at this
 |_::_,[],h=>by have:=h.1;simp at this
 |e::es,c::gK,h=>by
  have hb:=h.head.2.2
  simp only[List.filter_cons,hb]
  split
  ·have ih:=gL.filter p h.tail
   refine⟨by simp[ih.1],fun i hi hj=>?_⟩
   cases i with
   |zero=>exact h.head
   |succ i=>exact ih.2 i (by simpa using hi) (by simpa using hj)
  ·exact gL.filter p h.tail
theorem gL.all(p:Nat->Bool):∀{es:List (AV × AV × Nat)} {gK:List MapEntry},gL ρ es gK->(gK.all fun e=>p e.born)=es.all fun e=>p e.2.2
 |[],[],_=>rfl
 |[],_::_,h=>by have:=h.1;simp at this
 |_::_,[],h=>by have:=h.1;simp at this
 |e::es,c::gK,h=>by simp only[adP,h.head.2.2,gL.all p h.tail]
theorem Z9(hR:Rel ρ h w){it v:AV}{cit:Value}{s:Bool}{ty:TypeId}{h':AH}(he:RS it s h=some (v,h'))(hi:bf ρ it cit):Gd P ρ h w (Instr.next cit s ty) v h':=by
 unfold RS at he
 split at he
 ·rename_i r
  cases hi with|ptr _ _ b hb=>
  split at he
  ·rename_i l pos hg
   have hbl:w.heap[b]?=some (.stringIter ⟨⟨l⟩⟩ pos):=hR.obj r _ b hg hb
   have hgo:=DI (P:=P) hbl (fun _ _ _ e=>by cases e)
   split at he
   ·rename_i hlt
    simp only[aai,abW]at he;obtain⟨rfl,rfl⟩:=he
    obtain⟨w',hset,hw⟩:=Ch (P:=P) hbl (fun _ _ _ e=>by cases e) (.stringIter ⟨⟨l⟩⟩ (pos+(Mj l pos).2))
    refine⟨.tuple #[.bool true,.int .i64 pos,.int .i32 (Mj l pos).1],w',ρ,?_,bf.iE (.cons (.bool _) (.cons (.int _ _) (.cons (.int _ _) (.nil ρ)))),
     hR.setObj hg trivial hb (o':= .jQ l _) trivial hw (fun _ _ _ e=>by rw[hbl]at e;cases e) rfl,Stp.setObj hg trivial hb trivial hw⟩
    have hlt':pos<(⟨⟨l⟩⟩:ByteArray).size:=hlt
    have hset':(setObj b (.stringIter ⟨⟨l⟩⟩ (pos+(Utf8.decode ⟨⟨l⟩⟩ pos).2))).run P w= .ok () w':=hset
    simp[Instr.next,hgo,hlt',hset',goInt,Mj]
   ·rename_i hlt
    simp only[aai,abW]at he;obtain⟨rfl,rfl⟩:=he
    have hlt':¬pos<(⟨⟨l⟩⟩:ByteArray).size:=hlt
    exact Gd.pure hR ⟨.tuple #[.bool false],by simp[Instr.next,hgo,hlt'],bf.iE (.cons (.bool _) (.nil ρ))⟩
  ·cases he
 ·rename_i r
  cases hi with|ptr _ _ b hb=>
  split at he
  ·rename_i since seen st hg
   simp only[aai,abW]at he;obtain⟨rfl,rfl⟩:=he
   obtain⟨cm,hbl,hm⟩:=hR.obj r _ b hg hb
   simp only at hm;subst hm
   have hgo:=DI (P:=P) hbl (fun _ _ _ e=>by cases e)
   exact Gd.pure hR ⟨.tuple #[.bool false],by simp[Instr.next,hgo],bf.iE (.cons (.bool _) (.nil ρ))⟩
  ·rename_i m since seen last hg
   obtain⟨cm,hbl,bm,hbm,rfl⟩:=hR.obj r _ b hg hb
   have hgo:=DI (P:=P) hbl (fun _ _ _ e=>by cases e)
   split at he
   ·rename_i es clock hgm
    obtain⟨gK,ais,hcn,hcr⟩:=hR.obj m _ bm hgm hbm
    have wL:=DI (P:=P) ais (fun _ _ _ e=>by cases e)
    have hr:gL ρ es gK:=⟨hcn,hcr⟩
    split at he
    ·cases he
    ·rename_i hguard
     have hall:=hr.all (fun b=>decide (b>=last))
     have hemp:gK.isEmpty=es.isEmpty:=by cases es<;>cases gK<;>simp_all
     have hleft:=hr.filter (fun b=>!seen.contains b)
     have hold:=hleft.filter (fun b=>decide (b<since))
     have hnew:=hleft.filter (fun b=>decide (b>=since))
     simp only at he
     generalize hO:(es.filter fun e=>!seen.contains e.2.2).filter (fun e=>decide (e.2.2<since))=O at *
     generalize hN:(es.filter fun e=>!seen.contains e.2.2).filter (fun e=>decide (e.2.2>=since))=N at *
     generalize hCO:(gK.filter fun e=>!seen.contains e.born).filter (fun e=>decide (e.born<since))=CO at *
     generalize wM:(gK.filter fun e=>!seen.contains e.born).filter (fun e=>decide (e.born>=since))=CN at *
     have nW:(!seen.toArray.isEmpty&&!gK.toArray.isEmpty&&gK.toArray.all fun e=>decide (e.born>=last))=false:=by
      simp only[List.isEmpty_toArray,List.all_toArray,hall,hemp]
      simpa using hguard
     have hcont:∀e:MapEntry,seen.toArray.contains e.born=seen.contains e.born:=fun e=>by simp
     have hfO:(gK.toArray.filter fun e=>!seen.toArray.contains e.born).filter (fun e=>decide (e.born<since))=CO.toArray:=by
      rw[<-hCO];simp
     have hfN:(gK.toArray.filter fun e=>!seen.toArray.contains e.born).filter (fun e=>decide (e.born>=since))=CN.toArray:=by
      rw[<-wM];simp
     split at he
     ·simp only[aai,abW]at he;obtain⟨rfl,rfl⟩:=he
      have e1:CO=[]:=abf (by simpa using hold.1)
      have e2:CN=[]:=abf (by simpa using hnew.1)
      subst e1;subst e2
      refine Gd.pure hR ⟨.tuple #[.bool false],?_,bf.iE (.cons (.bool _) (.nil ρ))⟩
      simp only[Instr.next,Sem.run_bind,hgo,wL,Result.andThen_ok]
      rw[nW,hfO,hfN]
      simp[Question.forced]
     ·rename_i e
      simp only[aai,abW]at he;obtain⟨rfl,rfl⟩:=he
      have e2:CN=[]:=abf (by simpa using hnew.1)
      obtain⟨c,e1⟩:∃c,CO=[c]:=by
       have:=hold.1
       match CO,this with
       |[c],_=>exact⟨c,rfl⟩
      subst e1;subst e2
      have hec:=hold.head
      obtain⟨w',hset,hw⟩:=Ch (P:=P) hbl (fun _ _ _ e=>by cases e) (.mapIter (some bm) since (seen++[e.2.2]).toArray clock)
      refine⟨.tuple #[.bool true,c.key,c.val],w',ρ,?_,bf.iE (.cons (.bool _) (.cons hec.1 (.cons hec.2.1 (.nil ρ)))),
       hR.setObj hg trivial hb (o':= .jH (some m) since _ clock) trivial hw (fun _ _ _ e=>by rw[hbl]at e;cases e) ⟨some bm,rfl,bm,hbm,rfl⟩,Stp.setObj hg trivial hb trivial hw⟩
      simp only[Instr.next,Sem.run_bind,hgo,wL,Result.andThen_ok]
      rw[nW,hfO,hfN]
      have hb':c.born=e.2.2:=hec.2.2
      simp[Question.forced,hb',hset]
     ·cases he
   ·cases he
  ·cases he
 ·cases he
end Go.Sk
namespace Go.Sk
variable{P:Program}{ρ:eT}{h:AH}{w:World}
theorem adv(l:ByteArray):bf ρ (.str l.data.toList) (.string l):=by
 obtain⟨⟨x⟩⟩:=l
 exact .str x
theorem Qq:∀{xs:List AV} {s:List UInt8},OV xs=some s->∃ns:List Int,xs=ns.map (AV.int .u8)/\s=ns.map fun n=>UInt8.ofNat n.toNat
 |[],s,h=>by simp only[OV,aai]at h;subst h;exact⟨[],rfl,rfl⟩
 |x::xs,s,h=>by
  cases x with
  |int k n=>
   cases k<;>simp only[OV]at h<;>try (cases h;done)
   simp only[aj4]at h
   obtain⟨r,hr,rfl⟩:=h
   obtain⟨ns,rfl,rfl⟩:=Qq hr
   exact⟨n::ns,rfl,rfl⟩
  |_=>simp[OV]at h
theorem foldl_push_bytes(ns:List Int)(s:ByteArray):ns.foldl (fun r n=>r.push (UInt8.ofNat n.toNat)) s=⟨⟨s.data.toList++ns.map fun n=>UInt8.ofNat n.toNat⟩⟩:=by
 induction ns generalizing s with
 |nil=>obtain⟨⟨x⟩⟩:=s;simp
 |cons n ns ih=>
  rw[aj9,ih]
  congr 2
  obtain⟨⟨x⟩⟩:=s
  simp[ByteArray.push]
theorem dw.ints{ns:List Int}{cs:List Value}(h:dw ρ (ns.map (AV.int .u8)) cs):cs=ns.map (Value.int .u8):=by
 induction ns generalizing cs with
 |nil=>have:=h.1;simpa using this
 |cons n ns ih=>
  cases cs with
  |nil=>have:=h.1;simp at this
  |cons c cs=>
   have h1:=h.head
   have h2:=h.tail
   rw[ih h2,aju]
   congr 1
   cases h1;rfl
theorem Po:∀(ns:List Int),flat (ns.map (AV.int .u8))=ns.map (AV.int .u8)
 |[]=>rfl
 |n::ns=>by rw[aju,DZ,Po ns];rfl
theorem Jg{b off:Nat}{eU:List Value}{T:TypeId}{fr:Nat × Nat}(hb:w.heap[b]?=some (.cells eU.toArray T fr))(hfr:fr=(0,0)\/fr=(eU.length,eU.length+1)) :
  ∃w',(markStringish ⟨b,off,none⟩).run P w= .ok () w'/\Wrote w w' b (.cells eU.toArray T (eU.length,eU.length+1))/\w'.drawn=w.drawn:=by
 have hlt:=lt_of_block hb
 have hdr:(w.freeze ⟨b,eU.length,none⟩ 1).drawn=w.drawn:=rfl
 refine⟨w.freeze ⟨b,eU.length,none⟩ 1,?_,?_,hdr⟩
 ·simp[markStringish,World.shape?,hb]
 ·refine⟨by simp[World.freeze],by simp[World.freeze],by simp[World.freeze],by simp[World.freeze],?_,fun k hk=>?_⟩
  ·simp only[World.freeze,Nat.one_ne_zero,if_false,akN,if_true,hb,ajL]
   rcases hfr with rfl|rfl
   ·simp
   ·simp
  ·simp only[World.freeze,Nat.one_ne_zero,if_false,akN,if_neg (alv hk)]
theorem Vt(hR:Rel ρ h w)(hb:ρ.base<=w.heap.size){src dst:TypeId}{x v:AV}{cx:Value}{h':AH}(he:GU P src dst x h=some (v,h'))(hx:bf ρ x cx) :
  Gd P ρ h w (convert src dst cx) v h':=by
 unfold GU at he
 split at he
 ·
  rename_i d k kk n hs hd
  simp only[aai,abW]at he;obtain⟨rfl,rfl⟩:=he
  cases hx
  exact Gd.pure hR ⟨.int k (k.wrap n),by simp[convert,run_underlying hs,run_underlying hd,Conv.intToInt],.int _ _⟩
 ·rename_i d k n hs hd
  simp only[aai,abW]at he;obtain⟨rfl,rfl⟩:=he
  cases hx
  exact Gd.pure hR ⟨.string (Utf8.encode n),by simp[convert,run_underlying hs,run_underlying hd,Conv.intToString],adv _⟩
 ·rename_i d s hs hd
  simp only[aai,abW]at he;obtain⟨rfl,rfl⟩:=he
  cases hx
  exact Gd.pure hR ⟨.string ⟨⟨s⟩⟩,by simp[convert,run_underlying hs,run_underlying hd],.str _⟩
 ·
  rename_i d e s hs hd
  cases hx
  split at he
  ·rename_i hu
   split at he
   ·cases he
   ·rename_i hlim
    simp only[aai,abW]at he;obtain⟨rfl,rfl⟩:=he
    generalize hq:(Question.appendCap s.length 0 e).cut (w.tape w.drawn (.appendCap s.length 0 e))=cp
    have hcp:s.length<=cp:=by rw[<-hq];simp only[Question.cut];omega
    let eU:List Value:=(s.map fun b=>Value.int .u8 b.toNat)++List.replicate (cp - s.length) (.int .u8 0)
    have hcl:eU.length=cp:=by simp only[eU,abO,aaq,aki];omega
    have hone:∀v∈eU,v.oneCell'=true:=by
     intro v hv
     simp only[eU,acS,ajA,List.mem_replicate]at hv
     rcases hv with⟨b,_,rfl⟩|⟨_,rfl⟩<;>rfl
    let w2:World:={ w with drawn:=w.drawn+1,heap:=w.heap.push (.cells eU.toArray e) }
    have hb2:w2.heap[w.heap.size]?=some (.cells eU.toArray e (0,0)):=by simp[w2]
    obtain⟨w3,hm,hw,_⟩:=Jg (P:=P) (w:=w2) (off:=0) hb2 (.inl rfl)
    have hgr:iX w w3:=by
     refine⟨hw.os,hw.tape,hw.output,by rw[hw.size];simp[w2],fun k hk=>?_⟩
     rw[hw.block k (by omega)]
     show(w.heap.push _)[k]?=_
     rw[Array.getElem?_push,if_neg (by omega)]
    have wN:=hR.grew hgr
    have hget:∀j,j<s.length->eU[j]?=some (.int .u8 ((s.getD j 0).toNat)):=fun j hj=>by
     simp only[eU]
     rw[ajB (by simpa using hj)]
     simp[hj]
    have pJ:∀r,ρ.obj r=some w.heap.size->h.get r=some .dead:=fun r hr=>by have:=(hR.bound r _ hr).2.1;omega
    have pO:∀g e' c',h.get g=some (.fM e')->ρ.fM g e'=some (w.heap.size,c')->False:=fun g e' c' _ h2=>by have:=(hR.iF g e' _ h2).2;simp at this
    have hR4:=wN.jA w.heap.size 0 s.length (fun j=>eU.getD j Go.undef)
     (fun j hj=>by
      simp only[World.cell?,hw.here]
      simp[List.getD,hget j hj])
     (fun j hj=>by simp only[List.getD,hget j hj];rfl) (fun o _ _=>hR.iB o) pJ (fun g e' c' h1 h2=>(pO g e' c' h1 h2).elim)
    have qU:=Stp.jA (Stp.grew (ρ:=ρ) (h:=h) hgr) w.heap.size 0 s.length (fun j=>eU.getD j Go.undef) (fun o _ _=>hR.iB o) (.inl (acu _))
    have hend:WK (ρ.gq w.heap.size 0 s.length fun j=>eU.getD j Go.undef) h w3 w.heap.size (s.length,cp):=by
     refine⟨hb,⟨eU.toArray,e,(eU.length,eU.length+1),hw.here,by simp[hcl],fun o _ ho=>Oz (.inr rfl) (by simpa using ho)⟩,fun o v q=>?_,pJ⟩
     simp only[eT.gq]at q
     split at q
     ·rename_i hh;omega
     ·rw[hR.iB]at q;cases q
    have hR5:=hR4.kQ s.length w.heap.size (s.length,cp) hend pO
    have hS5:=Stp.kQ hR4 s.length w.heap.size (s.length,cp) (acu _) qU
    have hrun:(convert src dst (.string ⟨⟨s⟩⟩)).run P w= .ok (.slice (some ⟨w.heap.size,0,none⟩) s.length cp) w3:=by
     have hsz:(⟨⟨s⟩⟩:ByteArray).size=s.length:=rfl
     have harr:(Array.map (fun b:UInt8=>Value.int .u8 b.toNat) (⟨⟨s⟩⟩:ByteArray).data)++Array.replicate (cp - s.length) (.int .u8 0)=eU.toArray:=by
      apply akZ;simp[eU]
     have wO:(Conv.stringToBytes e ⟨⟨s⟩⟩).run P w= .ok (.slice (some ⟨w.heap.size,0,none⟩) s.length cp) w3:=by
      simp only[Conv.stringToBytes,Sem.run_bind,run_choose,Question.forced,ajI,if_false,Result.andThen_ok,hsz,hq,newRow,run_newObj,harr,Sem.run_pure]
      rw[show(markStringish ⟨w.heap.size,0,none⟩).run P { w with drawn:=w.drawn+1,heap:=w.heap.push (.cells eU.toArray e) }= .ok () w3 from hm]
      rfl
     rw[<-wO]
     cases d<;>simp[convert,run_underlying hs,run_underlying hd,run_underlying hu]
    refine⟨_,w3,_,hrun,?_,hR5,hS5⟩
    have hlr:dw ((ρ.gq w.heap.size 0 s.length fun j=>eU.getD j Go.undef).fG h.next s.length (w.heap.size,s.length,cp)) (flat (s.map fun b=>AV.int .u8 b.toNat)) (s.map fun b=>Value.int .u8 b.toNat):=by
     have:flat (s.map fun b=>AV.int .u8 b.toNat)=s.map fun b=>AV.int .u8 b.toNat:=by
      have:=Po (s.map fun b:UInt8=>(b.toNat:Int))
      rw[akj]at this
      exact this
     rw[this]
     exact⟨by simp,fun i hi hj=>by simp only[akf];exact .int _ _⟩
    have hsz:∀i (hi:i<(s.map fun b=>AV.int .u8 b.toNat).length),(s.map fun b=>AV.int .u8 b.toNat)[i].cells.length=1:=fun i hi=>by simp[AV.cells]
    have:=bf.mo hsz hlr (b:=w.heap.size) (off:=0) (cap:=cp) (fun k v hk=>by
     obtain⟨hk1,hk2⟩:=abo.1 hk
     simp only[aaq]at hk1
     rw[show((ρ.gq w.heap.size 0 s.length fun j=>eU.getD j Go.undef).fG h.next s.length (w.heap.size,s.length,cp)).gG=(ρ.gq w.heap.size 0 s.length fun j=>eU.getD j Go.undef).gG from rfl,eT.iG _ _ _ _ _ _ hk1]
     rw[<-hk2]
     simp[List.getD,hget k hk1,hk1]) (.own h.next s.length) (by simpa using hcp) (by
      right
      simp only[aaq,ajx,ajO]
      exact⟨cp,eT.fZ _ _ _ _,by omega⟩)
    simpa using this
  ·cases he
 ·
  rename_i a e r off len cap hs hd
  cases hx with|hsl _ _ _ _ b nn nJ hln hcap=>
  split at he
  ·rename_i cs T hu hg
   split at he
   ·rename_i hsd
    subst hsd
    obtain rfl:a=e:=by rw[hs]at hd;simpa using hd
    simp only[aai,abW]at he;obtain⟨rfl,rfl⟩:=he
    obtain⟨eU,fr,hbl,hl,ho,hfr⟩:=hR.obj r _ b hg nJ
    obtain⟨w',hm,hw,_⟩:=Jg (P:=P) (off:=off) hbl hfr
    have hR2:=hR.setObj hg trivial nJ (o':= .cells cs T) trivial hw (fun _ _ _ e=>by rw[hbl]at e;simp only[aai,Obj.cells.injEq]at e;exact⟨_,_,_,rfl,by rw[<-e.1]⟩) ⟨eU,_,rfl,hl,ho,.inr rfl⟩
    have hS2:=Stp.setObj (o':= .cells cs T) hg trivial nJ trivial hw
    have hx:∀q,(h.set r (.cells cs T)).get q=h.get q:=fun q=>by
     rw[AH.ak];split
     ·rename_i e;subst e;exact hg.symm
     ·rfl
    refine⟨.slice (some ⟨b,off,none⟩) len nn,w',ρ,?_,.hsl _ _ _ _ b nn nJ hln hcap,hR2.ext (fun q=>(hx q).symm) rfl,⟨hS2.le,hS2.next,hS2.os,hS2.tape,hS2.output,hS2.size,hS2.kept,fun k hk ho=>?_,hS2.old,hS2.gG⟩⟩
    ·simp[convert,run_underlying hs,run_underlying hu,hm]
    ·rcases ho with⟨q,o,a1,a2,a3⟩|⟨g,e,c,a1,a2⟩
     ·exact .inl ⟨q,o,a1,a2,a3⟩
     ·exact .inr ⟨g,e,c,a1,a2⟩
   ·cases he
  ·cases he
 ·
  rename_i e hs hd hni hns
  split at he
  ·rename_i hu h1
   split at he
   ·rename_i xs hel
    simp only[aj4,abW]at he
    obtain⟨s,hby,rfl,rfl⟩:=he
    obtain⟨ns,rfl,rfl⟩:=Qq hby
    have hok:Ba 1 (ns.map (AV.int .u8))=true:=by cases ns<;>rfl
    obtain⟨hlen,hsz,eU,hl,ho,hfc⟩:=Ng (P:=P) hR hel hx h1 (by omega) hok
    rw[Po]at hl
    have hcs:=hl.ints
    have hfin:(convert src dst cx).run P w=(Conv.bytesToString cx).run P w:=by
     cases hx<;>first
      |(simp[convert,run_underlying hs,run_underlying hd,run_underlying hu];done)
      |exact(hns _ rfl).elim
      |(simp[CQ]at hel;done)
    have hstr:(ns.foldl (fun r n=>r.push (UInt8.ofNat n.toNat)) ByteArray.empty)=⟨⟨ns.map fun n=>UInt8.ofNat n.toNat⟩⟩:=by
     rw[foldl_push_bytes];rfl
    refine Gd.pure hR ⟨.string ⟨⟨ns.map fun n=>UInt8.ofNat n.toNat⟩⟩,?_,.str _⟩
    rw[hfin]
    have hall:=hfc ns.length (by simp)
    rw[ajQ (by rw[hcs];simp),hcs]at hall
    simp only[aaq]at hlen
    have slc:∀(a:Addr) (len cap:Nat),cx= .slice (some a) len cap->(Conv.bytesToString cx).run P w= .ok (.string ⟨⟨ns.map fun n=>UInt8.ofNat n.toNat⟩⟩) w:=by
     rintro a len cap rfl
     have hln:len=ns.length:=by
      simp only[Builtin.lenOf,Sem.run_pure,Result.ok.injEq,and_true]at hlen;exact hlen
     subst hln
     rw[run_bytesToString (P:=P) w a ns.length cap ns (by simpa[Builtin.firstCells]using hall),hstr]
    cases hx with
    |aj=>
     have:ns=[]:=by simpa[CQ]using hel
     subst this;rfl
    |fC xs cap b off n s f h1 h2 h3 h4 h5=>exact slc _ _ _ rfl
    |hsl r off len cap b n h1 h2 h3=>exact slc _ _ _ rfl
    |str l=>exact(hns _ rfl).elim
    |_=>simp[CQ]at hel
   ·cases he
  ·cases he
 ·cases he
end Go.Sk
