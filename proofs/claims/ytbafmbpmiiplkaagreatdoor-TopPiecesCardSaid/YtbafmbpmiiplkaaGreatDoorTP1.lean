/- Texts of the proof, part 1: Eng1, Eng2, Eng3, Data, Eng4, Eng5, Eng6, Eng7, Eng8, Eng9, Eng10, Eng11, Eng12, Eng13, Eng14, Eng15, Eng16. -/
import Derived.WalkKit
import Derived.RangeFuncNested
import Derived.RangeFuncCalls
import Derived.RangeFuncLeaves
import Derived.Maps.AppendAt
import Derived.OrdersIn
import Derived.Laws.StructEq
import Derived.Laws.MakeOwn
import Derived.ProofKit
import Derived.OpenShut
import Derived.WideKeyArgs
import Derived.LaidMore
import Derived.Lib.LaidTab
import Derived.Deep.Slices
import Derived.Deep.DeepHandedRow
import Derived.Deep.DeepWitnessRowRef
import Derived.Lib.SliceRun
namespace Go.Proofs.YtbafmbpmiiplkaaGreatDoor
open Go.RowKit

abbrev Sl:=Nat→Value

def upd (s:Sl) (d:Nat) (v:Value):Sl:=fun i=>bif Nat.beq i d then v else s i
def putS (s:Sl):Option Nat→Value→Sl
 | none,_=>s
 | some d,v=>upd s d v
def mkA (n:Nat) (s:Sl) (ds:List Deferred):Act:={ tmps:=((List.range n).map s).toArray,defers:=ds }

theorem mkA_getElem? (n:Nat) (s:Sl) (ds:List Deferred) (i:Nat):(mkA n s ds).tmps[i]?=if i<n then some (s i) else none:=by
 simp only [mkA,List.getElem?_toArray,List.getElem?_map]
 by_cases h:i<n
 ·simp [h]
 ·simp [h]

theorem mkA_size (n:Nat) (s:Sl) (ds:List Deferred):(mkA n s ds).tmps.size=n:=by simp [mkA]

theorem act_ext {a b:Act} (ht:∀ i:Nat,a.tmps[i]?=b.tmps[i]?) (hd:a.defers=b.defers):a=b:=by
 cases a;cases b
 simp only at ht hd
 subst hd
 congr 1
 exact Array.ext_getElem? ht

theorem mkA_put (n:Nat) (s:Sl) (ds:List Deferred) (d:Option Nat) (v:Value):(mkA n s ds).put d v=mkA n (putS s d v) ds:=by
 cases d with
 | none=>rfl
 | some d =>
   refine act_ext (fun i=>?_) rfl
   simp only [Act.put,putS]
   rw [mkA_getElem?,Array.getElem?_setIfInBounds,mkA_getElem?,mkA_size]
   by_cases e:d=i
   ·subst e
    simp [upd]
   ·have:Nat.beq i d=false:=by
     cases h:Nat.beq i d
     ·rfl
     ·exact absurd (Nat.eq_of_beq_eq_true h).symm e
    simp [e,upd,this]

def ev (n:Nat) (s:Sl):Operand→Value
 | .tmp t=>bif Nat.blt t n then s t else undef
 | .const v=>v
 | .global g=>.pointer (some ⟨g,0,none⟩)
 | .func f=>.func (.func f) #[] #[]

theorem mkA_eval (n:Nat) (s:Sl) (ds:List Deferred):(mkA n s ds).eval=ev n s:=by
 funext x
 cases x with
 | tmp t =>
   simp only [Act.eval,ev]
   have:=mkA_getElem? n s ds t
   simp only [Array.getD_eq_getD_getElem?,this]
   by_cases h:t<n
   ·have h':Nat.blt t n=true:=by simpa using h
    simp [h,h']
   ·have h':Nat.blt t n=false:=by
     cases e:Nat.blt t n
     ·rfl
     ·exact absurd (by simpa using e) h
    simp [h,h']
 | const v=>rfl
 | global g=>rfl
 | func f=>rfl

theorem mkA_init (n:Nat) (args:List Value) (h:args.length≤n):({ tmps:=args.toArray++Array.replicate (n-args.length) undef,defers:=[] }:Act)=mkA n (fun i=>args.getD i undef) []:=by
 refine act_ext (fun i=>?_) rfl
 rw [mkA_getElem?]
 simp only [Array.getElem?_append,List.size_toArray,List.getElem?_toArray,Array.getElem?_replicate]
 by_cases h1:i<args.length
 ·have:i<n:=by omega
  simp [h1,this]
 ·by_cases h2:i<n
  ·have:i-args.length<n-args.length:=by omega
   simp [h1,h2,this]
  ·have:¬ i-args.length<n-args.length:=by omega
   simp [h1,h2,this]

def Fw (ro:Option Nat):Fence:={ Fence.wide with round:=ro }
abbrev Kont:=Sl→List Deferred→World→Prop

structure Ctx where
 nx:Kont
 rt:Kont
 ex:Nat→Kont

def Ctx.post (X:Ctx) (n:Nat):Exit→Act→World→Prop
 | .normal,a,w=>∃ s ds,a=mkA n s ds∧X.nx s ds w
 | .ret,a,w=>∃ s ds,a=mkA n s ds∧X.rt s ds w
 | .exit i,a,w=>∃ s ds,a=mkA n s ds∧X.ex i s ds w
 | _,_,_=>False

def W (P:Program) (ro:Option Nat) (n:Nat) (c:Code) (X:Ctx) (s:Sl) (ds:List Deferred) (w:World):Prop :=
 c.wpIn (Fw ro) 0 P (X.post n) (mkA n s ds) w

section rules
variable {P:Program} {ro:Option Nat} {n:Nat} {X:Ctx} {s:Sl} {ds:List Deferred} {w:World}

theorem W.mono {c:Code} {Y:Ctx} (h:W P ro n c X s ds w) (h1:∀ s ds w,X.nx s ds w→Y.nx s ds w) (h2:∀ s ds w,X.rt s ds w→Y.rt s ds w)
  (h3:∀ i s ds w,X.ex i s ds w→Y.ex i s ds w):W P ro n c Y s ds w :=
 wpIn_mono h fun e a w hp=>by
  cases e with
  | normal=>obtain ⟨s,ds,e,h⟩:=hp;exact ⟨s,ds,e,h1 _ _ _ h⟩
  | ret=>obtain ⟨s,ds,e,h⟩:=hp;exact ⟨s,ds,e,h2 _ _ _ h⟩
  | exit i=>obtain ⟨s,ds,e,h⟩:=hp;exact ⟨s,ds,e,h3 _ _ _ _ h⟩
  | goto l=>exact hp
  | panic c=>exact hp
  | outgrown=>exact hp

theorem jjB {a b:Code} (h:W P ro n a { X with nx:=W P ro n b X } s ds w):W P ro n (.seq a b) X s ds w :=
 wpIn_seq (wpIn_mono h fun e a' w' hp=>by
  cases e with
  | normal=>obtain ⟨s,ds,rfl,h⟩:=hp;exact h
  | ret=>exact hp
  | exit i=>exact hp
  | goto l=>exact hp
  | panic c=>exact hp
  | outgrown=>exact hp)

theorem jjG (h:X.nx s ds w):W P ro n .skip X s ds w:=wpIn_skip ⟨s,ds,rfl,h⟩
theorem jjF (h:X.rt s ds w):W P ro n .ret X s ds w:=wpIn_ret ⟨s,ds,rfl,h⟩
theorem jjE {i:Nat} (h:X.ex i s ds w):W P ro n (.exit i) X s ds w:=wpIn_exit ⟨s,ds,rfl,h⟩

theorem jjD {i:Nat} {c:Code} (h:W P ro n c { X with ex:=fun j=>bif Nat.beq j i then X.nx else X.ex j } s ds w):W P ro n (.block i c) X s ds w :=
 wpIn_block (wpIn_mono h fun e a w' hp=>by
  cases e with
  | normal=>exact hp
  | ret=>exact hp
  | exit j =>
    simp only [Exit.inBlock]
    simp only [Ctx.post] at hp
    by_cases e:j=i
    ·subst e
     have:Nat.beq j j=true:=by simp
     rw [if_pos rfl]
     simpa [Ctx.post,this] using hp
    ·have:Nat.beq j i=false:=by
      cases h:Nat.beq j i
      ·rfl
      ·exact absurd (Nat.eq_of_beq_eq_true h) e
     rw [if_neg e]
     simpa [Ctx.post,this] using hp
  | goto l=>exact hp
  | panic c=>exact hp
  | outgrown=>exact hp)

theorem W.cond {c:Operand} {x y:Code} {t:Bool} (hc:ev n s c=.bool t) (h:W P ro n (if t then x else y) X s ds w):W P ro n (.cond c x y) X s ds w :=
 wpIn_cond (t:=t) (by rw [mkA_eval];exact hc) h
theorem jjJ {c:Operand} {x y:Code} (hc:ev n s c=.bool true) (h:W P ro n x X s ds w):W P ro n (.cond c x y) X s ds w:=W.cond hc h
theorem jjK {c:Operand} {x y:Code} (hc:ev n s c=.bool false) (h:W P ro n y X s ds w):W P ro n (.cond c x y) X s ds w:=W.cond hc h
theorem jjN {c:Operand} {x y:Code} {p:Prop} [hd:Decidable p] (hc:ev n s c=.bool (@decide p hd)) (h1:p→W P ro n x X s ds w) (h2:¬ p→W P ro n y X s ds w):W P ro n (.cond c x y) X s ds w:=by
 by_cases h:p
 ·exact jjJ (by rw [hc];simp [h]) (h1 h)
 ·exact jjK (by rw [hc];simp [h]) (h2 h)
theorem jjO {c:Operand} {x y:Code} {b:Bool} (hc:ev n s c=.bool b) (h1:b=true→W P ro n x X s ds w) (h2:b=false→W P ro n y X s ds w):W P ro n (.cond c x y) X s ds w:=by
 cases b
 ·exact jjK hc (h2 rfl)
 ·exact jjJ hc (h1 rfl)

theorem W.fix {c:Code} {d:Nat} {v:Value} (hv:s d=v) (h:W P ro n c X (upd s d v) ds w):W P ro n c X s ds w:=by
 have:upd s d v=s:=by
  funext i
  simp only [upd]
  cases h:Nat.beq i d
  ·rfl
  ·rw [Nat.eq_of_beq_eq_true h];exact hv.symm
 rw [←this];exact h

class Ext (w w':World):Prop where
 b:Below w.heap.size w w'
class Step (w:outParam World) (w':World):Prop where
 b:Below w.heap.size w w'
instance Ext.refl (w:World):Ext w w:=⟨Below.refl _ _⟩
instance Ext.step {w w1 w2:World} [h2:Step w1 w2] [h1:Ext w w1]:Ext w w2:=⟨h1.b.trans (h2.b.mono h1.b.size)⟩
theorem Ext.trans {w w1 w2:World} (h1:Ext w w1) (h2:Ext w1 w2):Ext w w2:=⟨h1.b.trans (h2.b.mono h1.b.size)⟩
theorem Step.ext {w w':World} (h:Step w w'):Ext w w':=⟨h.b⟩
theorem Ext.toStep {w w':World} (h:Ext w w'):Step w w':=⟨h.b⟩
theorem Ext.size {w w':World} (h:Ext w w'):w.heap.size≤w'.heap.size:=h.b.size
theorem Step.size {w w':World} (h:Step w w'):w.heap.size≤w'.heap.size:=h.b.size
theorem Ext.block {w w':World} (h:Ext w w') {k:Nat} (hk:k<w.heap.size):w'.heap[k]?=w.heap[k]?:=h.b.block k hk
theorem Ext.block' {w w':World} (h:Ext w w') {k:Nat} {o:Obj} (hk:w.heap[k]?=some o):w'.heap[k]?=some o :=
 (h.block (Array.getElem?_eq_some_iff.1 hk).1).trans hk

theorem lt_of_cell {w:World} {b o:Nat} {v:Value} (h:w.cell? ⟨b,o,none⟩=some v):b<w.heap.size:=by
 unfold World.cell? at h
 cases hb:w.heap[b]? with
 | none=>simp [hb] at h
 | some x=>exact (Array.getElem?_eq_some_iff.1 hb).1
theorem Ext.cell {w w':World} (h:Ext w w') {b o:Nat} {v:Value} (hc:w.cell? ⟨b,o,none⟩=some v):w'.cell? ⟨b,o,none⟩=some v :=
 (h.b.cell (p:=⟨b,o,none⟩) (lt_of_cell hc)).trans hc

class At (w:World) (b o:Nat) (cs:outParam (List Value)):Prop where
 h:∀ (i:Nat) (v:Value),cs[i]?=some v→w.cell? ⟨b,o+i,none⟩=some v
instance At.step {w w':World} {b o:Nat} {cs:List Value} [hs:Step w w'] [h:At w b o cs]:At w' b o cs :=
 ⟨fun i v hv=>Ext.cell (w:=w) ⟨hs.b⟩ (h.h i v hv)⟩
theorem At.ext {w w':World} {b o:Nat} {cs:List Value} (h:At w b o cs) (hs:Ext w w'):At w' b o cs:=⟨fun i v hv=>hs.cell (h.h i v hv)⟩
theorem At.drop {w:World} {b o:Nat} {cs:List Value} (h:At w b o cs) (k:Nat):At w b (o+k) (cs.drop k) :=
 ⟨fun i v hv=>by have:=h.h (k+i) v (by simpa using hv);rw [show o+k+i=o+(k+i) from by omega];exact this⟩
theorem At.lt {w:World} {b o:Nat} {c:Value} {cs:List Value} (h:At w b o (c::cs)):b<w.heap.size:=lt_of_cell (h.h 0 c rfl)

def Ct (P:Program) (f:Nat) (args:List Value) (w:World) (R:Value→World→Prop):Prop :=
 Calls P f args.toArray w fun e w'=>∃ v,e=.returned v∧Ext w w'∧R v w'

theorem Ct.mono {f:Nat} {args:List Value} {R R':Value→World→Prop} (h:Ct P f args w R) (hr:∀ v w',Ext w w'→R v w'→R' v w'):Ct P f args w R' :=
 Calls.mono h fun _ _ ⟨v,e,x,r⟩=>⟨v,e,x,hr v _ x r⟩

def finR (P:Program) (fn:Func) (n:Nat) (R:Value→World→Prop):Kont:=fun s ds w =>
 ds=[]∧∃ v,(results fn (mkA n s []).tmps).run P w=.ok v w∧R v w
end rules

class FnI (P:Program) (f:Nat) (fn:outParam Func) (c:outParam Code) (n:outParam Nat):Prop where
 hf:P.funcs[f]?=some fn
 hb:fn.body=some c
 hn:fn.ntmps=n

theorem Calls.ofW {P:Program} {f n:Nat} {fn:Func} {c:Code} [hi:FnI P f fn c n] {args:List Value} {w:World} {R:Ending→World→Prop} (hl:args.length≤n)
  (h:W P none n c { nx:=finR P fn n (fun v=>R (.returned v)),rt:=finR P fn n (fun v=>R (.returned v)),ex:=fun _ _ _ _=>False } (fun i=>args.getD i undef) [] w) :
  Calls P f args.toArray w R:=by
 refine (callsIn_wide (n:=0)).1 (callsIn_of_wp hi.hf hi.hb trivial ?_)
 rw [hi.hn,List.size_toArray,mkA_init n args hl]
 refine wpIn_mono h fun e a w' hp=>?_
 cases e with
 | normal=>obtain ⟨s,ds,rfl,rfl,v,hr,hR⟩:=hp;exact ⟨rfl,v,hr,hR⟩
 | ret=>obtain ⟨s,ds,rfl,rfl,v,hr,hR⟩:=hp;exact ⟨rfl,v,hr,hR⟩
 | exit i=>obtain ⟨s,ds,rfl,h⟩:=hp;exact h.elim
 | goto l=>exact hp.elim
 | panic c=>exact hp.elim
 | outgrown=>exact hp.elim

theorem Ct.ofW {P:Program} {f n:Nat} {fn:Func} {c:Code} [hi:FnI P f fn c n] {args:List Value} {w:World} {R:Value→World→Prop} (hl:args.length≤n)
  (h:W P none n c { nx:=finR P fn n (fun v w'=>Ext w w'∧R v w'),rt:=finR P fn n (fun v w'=>Ext w w'∧R v w'),ex:=fun _ _ _ _=>False } (fun i=>args.getD i undef) [] w) :
  Ct P f args w R :=
 Calls.ofW hl (W.mono h (fun _ _ _ ⟨hd,v,hr,hR⟩=>⟨hd,v,hr,v,rfl,hR⟩) (fun _ _ _ ⟨hd,v,hr,hR⟩=>⟨hd,v,hr,v,rfl,hR⟩) (fun _ _ _ _ h=>h))

theorem jB {P:Program} {fn:Func} {n t:Nat} {R:Value→World→Prop} {s:Sl} {w:World} (hf:fn.results=#[.tmp t]) (ht:Nat.blt t n=true) (h:R (s t) w):finR P fn n R s [] w:=by
 refine ⟨rfl,s t,?_,h⟩
 have:(mkA n s []).tmps[t]?.getD undef=s t:=by
  rw [mkA_getElem?,if_pos (by simpa using ht)];rfl
 simp [results,hf,this]
theorem jA {P:Program} {fn:Func} {n:Nat} {R:Value→World→Prop} {s:Sl} {w:World} (hf:fn.results=#[]) (h:R (.tuple #[]) w):finR P fn n R s [] w :=
 ⟨rfl,.tuple #[],by simp [results,hf],h⟩
theorem jC {P:Program} {fn:Func} {n t u:Nat} {R:Value→World→Prop} {s:Sl} {w:World} (hf:fn.results=#[.tmp t,.tmp u]) (ht:Nat.blt t n=true) (hu:Nat.blt u n=true) (h:R (.tuple #[s t,s u]) w):finR P fn n R s [] w:=by
 refine ⟨rfl,_,?_,h⟩
 have e1:(mkA n s []).tmps[t]?.getD undef=s t:=by
  rw [mkA_getElem?,if_pos (by simpa using ht)];rfl
 have e2:(mkA n s []).tmps[u]?.getD undef=s u:=by
  rw [mkA_getElem?,if_pos (by simpa using hu)];rfl
 simp [results,hf,e1,e2]
attribute [irreducible] W Ct finR

class TU (P:Program) (t:Nat) (d:outParam TypeDesc):Prop where
 h:P.underlying t=some d
class TS (P:Program) (t:Nat) (z:outParam Value) (size bytes:outParam Nat):Prop where
 h:(P.info? t).map (fun i=>(i.zero,i.size,i.bytes))=some (some z,size,bytes)

theorem TS.info {P:Program} {t:Nat} {z:Value} {size bytes:Nat} (h:TS P t z size bytes):∃ i,P.info? t=some i∧i.zero=some z∧i.size=size∧i.bytes=bytes:=by
 have:=h.h
 cases hi:P.info? t with
 | none=>simp [hi] at this
 | some i=>simp [hi] at this;exact ⟨i,rfl,this.1,this.2.1,this.2.2⟩

class FA (P:Program) (t i:Nat) (off:outParam Nat):Prop where
 h:∃ (fs:Array Field) (f:Field) (z:Value) (size bytes:Nat),P.underlying t=some (.struct fs)∧fs[i]?=some f∧f.offset=off∧TS P f.type z (size+1) bytes

def TypeDesc.isInt:TypeDesc→Bool
 | .int _=>true
 | _=>false
def TypeDesc.isAgg:TypeDesc→Bool
 | .struct _=>true
 | .array _ _=>true
 | _=>false

section
variable {P:Program} {t:Nat} {d:TypeDesc} {z:Value} {size bytes:Nat} (w:World)
theorem run_underlying' (h:TU P t d):(underlying t).run P w=.ok d w:=run_underlying h.h w
theorem run_isAgg (h:TU P t d):(isAgg t).run P w=.ok (TypeDesc.isAgg d) w:=by
 simp only [isAgg,Sem.run_bind,run_underlying' w h,Result.andThen_ok]
 cases d<;>rfl
theorem run_sizeOf' (h:TS P t z size bytes):(sizeOf t).run P w=.ok size w:=by
 obtain ⟨i,hi,_,hs,_⟩:=h.info
 simp [sizeOf,typeInfo,hi,hs]
theorem run_zeroValue' (h:TS P t z size bytes):(zeroValue t).run P w=.ok z w:=by
 obtain ⟨i,hi,hz,_,_⟩:=h.info
 simp [zeroValue,typeInfo,hi,hz]
end

def OpW (P:Program) (ro:Option Nat) (n:Nat) (o:Oper) (s:Sl) (w:World) (K:Value→World→Prop):Prop :=
 ∀ ds,o.wpIn (Fw ro) 0 P (mkA n s ds) w (fun a w'=>∃ v,a=(mkA n s ds).put o.dst v∧K v w') (fun _ _ _=>False)

def Op.noDefer:Op→Bool
 | .defer _=>false
 | _=>true

section
variable {P:Program} {ro:Option Nat} {n:Nat} {o:Oper} {s:Sl} {w w':World} {K:Value→World→Prop} {v:Value}

theorem OpW.semAt (hd:Op.noDefer o.op=true) (ρ:Operand→Value):o.semAt ro ρ=execOp ρ o :=
 Oper.semAt_eq ro ρ o (fun c hc=>by rw [hc] at hd;cases hd)

theorem OpW.ofRun (hd:Op.noDefer o.op=true) (hr:(execOp (ev n s) o).run P w=.ok (.value v) w') (hk:K v w'):OpW P ro n o s w K:=by
 intro ds
 refine ⟨fun _ _=>trivial,?_⟩
 rw [mkA_eval,show (Fw ro).round=ro from rfl,OpW.semAt hd,hr]
 exact ⟨v,rfl,hk⟩
theorem OpW.ofRunU (hd:Op.noDefer o.op=true) (hr:(execOp (ev n s) o).run P w=.ok .skip w') (hk:K undef w'):OpW P ro n o s w K:=by
 intro ds
 refine ⟨fun _ _=>trivial,?_⟩
 rw [mkA_eval,show (Fw ro).round=ro from rfl,OpW.semAt hd,hr]
 exact ⟨undef,rfl,hk⟩
theorem OpW.ofCalls (hd:Op.noDefer o.op=true) {f:Nat} {args:List Value} {R:Ending→World→Prop} (hr:(execOp (ev n s) o).run P w=.ok (.enter f args.toArray) w')
  (hc:Calls P f args.toArray w' R) (hk:∀ e w'',R e w''→∃ v,e=.returned v∧K v w''):OpW P ro n o s w K:=by
 intro ds
 refine ⟨fun _ _=>trivial,?_⟩
 rw [mkA_eval,show (Fw ro).round=ro from rfl,OpW.semAt hd,hr]
 refine ⟨fun h=>by simp [Fw,Fence.wide] at h,?_⟩
 have hc':CallsIn (Fw ro) (0-1) P f args.toArray w' R:=by
  have:=(callsIn_wide (n:=0)).2 hc
  exact this
 refine hc'.mono fun e w'' hR=>?_
 obtain ⟨v,rfl,hk⟩:=hk e w'' hR
 exact ⟨v,rfl,hk⟩
end

def asB:Option Value→Option Bool
 | some (.bool b)=>some b
 | _=>none
def gdst (all:List Oper) (j:Nat):Option Nat:=(all[j]?).bind (·.dst)

def Ops (P:Program) (ro:Option Nat) (n:Nat) (all:List Oper):List Oper→(Sl→World→Prop)→Sl→World→Prop
 | [],K,s,w=>K s w
 | o::rest,K,s,w =>
   if Region.wanted o (fun j=>asB ((gdst all j).bind (fun d=>if d<n then some (s d) else none))) then
    OpW P ro n o s w (fun v w'=>Ops P ro n all rest K (putS s o.dst v) w')
   else Ops P ro n all rest K (putS s o.dst undef) w

theorem yielded_mkA (all:List Oper) (n:Nat) (s:Sl) (ds:List Deferred) (j:Nat) :
  yielded all.toArray (mkA n s ds).tmps j=asB ((gdst all j).bind (fun d=>if d<n then some (s d) else none)):=by
 unfold yielded gdst
 simp only [List.getElem?_toArray]
 have e:((all[j]?).bind (·.dst)).bind ((mkA n s ds).tmps[·]?)=((all[j]?).bind (·.dst)).bind (fun d=>if d<n then some (s d) else none):=by
  cases (all[j]?).bind (·.dst) with
  | none=>rfl
  | some d=>simp only [Option.bind_some,mkA_getElem?]
 rw [e]
 generalize ((all[j]?).bind (·.dst)).bind (fun d=>if d<n then some (s d) else none)=o
 cases o with
 | none=>rfl
 | some v=>cases v<;>rfl

theorem Ops.sound {P:Program} {ro:Option Nat} {n:Nat} {all:List Oper} (K:Sl→World→Prop) (ds:List Deferred) :
  ∀ (l:List Oper) (k:Nat) (s:Sl) (w:World),(∀ j:Nat,l[j]?=all[k+j]?)→Ops P ro n all l K s w →
   wpOpsIn (Fw ro) 0 P all.toArray (fun e a w=>e=.normal∧∃ s',a=mkA n s' ds∧K s' w) (List.range' k l.length) (mkA n s ds) w:=by
 intro l
 induction l with
 | nil=>intro k s w _ h;exact ⟨rfl,s,rfl,h⟩
 | cons o rest ih =>
   intro k s w hl h
   have h0:all[k]?=some o:=by simpa using (hl 0).symm
   have ih':=ih (k+1)
   simp only [List.length_cons,List.range'_succ,wpOpsIn,List.getElem?_toArray,h0]
   have hyf:(yielded all.toArray (mkA n s ds).tmps)=(fun j=>asB ((gdst all j).bind (fun d=>if d<n then some (s d) else none))) :=
    funext fun j=>yielded_mkA all n s ds j
   have hrest:∀ j:Nat,rest[j]?=all[k+1+j]?:=fun j=>by
    have:=hl (j+1)
    rw [show k+1+j=k+(j+1) from by omega]
    simpa using this
   rw [hyf]
   unfold Ops at h
   split
   ·rename_i hw
    rw [if_pos hw] at h
    obtain ⟨ha,hu⟩:=h ds
    refine ⟨fun _ _=>trivial,?_⟩
    revert hu
    generalize (o.semAt (Fw ro).round (mkA n s ds).eval).run P w=r
    intro hu
    have key:∀ v w',Ops P ro n all rest K (putS s o.dst v) w'→wpOpsIn (Fw ro) 0 P all.toArray (fun e a w=>e=.normal∧∃ s',a=mkA n s' ds∧K s' w) (List.range' (k+1) rest.length) ((mkA n s ds).put o.dst v) w':=fun v w' hk=>by
     rw [mkA_put];exact ih' _ _ hrest hk
    match r,hu with
    | .ok (.value v) w',hu=>obtain ⟨v',e,hk⟩:=hu;simp only [Oper.uponIn];rw [e];exact key _ _ hk
    | .ok .skip w',hu=>obtain ⟨v',e,hk⟩:=hu;simp only [Oper.uponIn];rw [e];exact key _ _ hk
    | .ok (.defer d) w',hu=>obtain ⟨v',e,hk⟩:=hu;simp only [Oper.uponIn];rw [e];exact key _ _ hk
    | .ok (.enter f args) w',hu =>
      obtain ⟨h1,h2⟩:=hu
      refine ⟨h1,h2.mono fun e w'' hR=>?_⟩
      cases e with
      | returned v=>obtain ⟨v',e,hk⟩:=hR;show wpOpsIn _ _ _ _ _ _ ((mkA n s ds).put o.dst v) w'';rw [e];exact key _ _ hk
      | panicked c=>exact hR.elim
      | outgrown=>obtain ⟨_,_,h⟩:=hR;exact h.elim
    | .ok (.row row args) w',hu =>
      obtain ⟨h1,h2⟩:=hu
      refine ⟨h1,h2.mono fun v w'' hR=>?_⟩
      obtain ⟨v',e,hk⟩:=hR
      rw [e];exact key _ _ hk
    | .ok (.round l f tmps assign body) w',hu =>
      obtain ⟨h1,h2⟩:=hu
      refine ⟨h1,h2.mono fun e w'' hR=>?_⟩
      cases e with
      | returned v=>obtain ⟨v',e,hk⟩:=hR;show wpOpsIn _ _ _ _ _ _ ((mkA n s ds).put o.dst v) w'';rw [e];exact key _ _ hk
      | panicked c=>exact hR.elim
      | outgrown=>obtain ⟨_,_,h⟩:=hR;exact h.elim
    | .halt (.panic v) w',hu=>exact hu.elim
   ·rename_i hw
    rw [if_neg hw] at h
    refine ⟨fun _ _=>trivial,?_⟩
    rw [mkA_put]
    exact ih' _ _ hrest h

section
variable {P:Program} {ro:Option Nat} {n:Nat} {X:Ctx} {s:Sl} {ds:List Deferred} {w:World}

theorem jjC {id:Nat} {ops:List Oper} (h:Ops P ro n ops ops (fun s' w'=>X.nx s' ds w') s w):W P ro n (.region id ops.toArray false) X s ds w:=by
 unfold W
 refine wpIn_mono (Q:=fun e a w=>e=.normal∧∃ s',a=mkA n s' ds∧X.nx s' ds w) (wpIn_region ?_) ?_
 ·have:=Ops.sound _ ds ops 0 s w (by simp) h
  rw [List.range_eq_range']
  simpa using this
 ·rintro e a w ⟨rfl,s',rfl,h⟩
  exact ⟨s',ds,rfl,h⟩
end

section rules
variable {P:Program} {ro:Option Nat} {n:Nat} {all rest:List Oper} {K:Sl→World→Prop} {s:Sl} {w:World}

theorem jz (h:K s w):Ops P ro n all [] K s w:=h

theorem Ops.step {o:Oper} (hg:o.guard=none) (h:OpW P ro n o s w (fun v w'=>Ops P ro n all rest K (putS s o.dst v) w')):Ops P ro n all (o::rest) K s w:=by
 unfold Ops
 rw [if_pos (by simp [Region.wanted,hg])]
 exact h

theorem jT {dst:Option Nat} {op:Op} {ty:Nat} {pos:String} {af:Array Edge} {j d:Nat} {want:Bool} (hj:gdst all j=some d) (hd:Nat.blt d n=true) (hv:s d=.bool want)
  (h:Ops P ro n all (⟨dst,op,ty,pos,af,none⟩::rest) K s w):Ops P ro n all (⟨dst,op,ty,pos,af,some (j,want)⟩::rest) K s w:=by
 unfold Ops at h ⊢
 have hd':d<n:=by simpa using hd
 rw [if_pos (by simp [Region.wanted])] at h
 rw [if_pos (by simp [Region.wanted,hj,hd',hv,asB])]
 exact h
theorem jU {dst:Option Nat} {op:Op} {ty:Nat} {pos:String} {af:Array Edge} {j d:Nat} {want b:Bool} (hj:gdst all j=some d) (hd:Nat.blt d n=true) (hv:s d=.bool b) (hb:(b == want)=false)
  (h:Ops P ro n all rest K (putS s dst undef) w):Ops P ro n all (⟨dst,op,ty,pos,af,some (j,want)⟩::rest) K s w:=by
 unfold Ops
 have hd':d<n:=by simpa using hd
 rw [if_neg (by simp [Region.wanted,hj,hd',hv,asB];intro h;simp [h] at hb)]
 exact h
theorem jV {dst:Option Nat} {op:Op} {ty:Nat} {pos:String} {af:Array Edge} {j d:Nat} {want:Bool} (hj:gdst all j=some d) (hv:s d=undef)
  (h:Ops P ro n all rest K (putS s dst undef) w):Ops P ro n all (⟨dst,op,ty,pos,af,some (j,want)⟩::rest) K s w:=by
 unfold Ops
 rw [if_neg ?_]
 ·exact h
 ·by_cases hd':d<n<;>simp [Region.wanted,hj,hd',hv,undef,asB]

theorem upd_same_eq {d:Nat} {v:Value} (hv:s d=v):upd s d v=s:=by
 funext i
 simp only [upd]
 cases h:Nat.beq i d
 ·rfl
 ·rw [Nat.eq_of_beq_eq_true h];exact hv.symm

theorem Ops.fix {l:List Oper} {d:Nat} {v:Value} (hv:s d=v) (h:Ops P ro n all l K (upd s d v) w):Ops P ro n all l K s w:=by
 rw [upd_same_eq hv] at h;exact h

theorem jjL {dst:Option Nat} {op:Op} {ty:Nat} {pos:String} {af:Array Edge} {j d:Nat} {want:Bool} {p:Prop} [hp:Decidable p] (_hj:gdst all j=some d) (hv:s d=.bool (@decide p hp))
  (hy:p→Ops P ro n all (⟨dst,op,ty,pos,af,some (j,want)⟩::rest) K (upd s d (.bool true)) w)
  (hn:¬ p→Ops P ro n all (⟨dst,op,ty,pos,af,some (j,want)⟩::rest) K (upd s d (.bool false)) w):Ops P ro n all (⟨dst,op,ty,pos,af,some (j,want)⟩::rest) K s w:=by
 by_cases h:p
 ·exact Ops.fix (by rw [hv];simp [h]) (hy h)
 ·exact Ops.fix (by rw [hv];simp [h]) (hn h)
theorem jjM {dst:Option Nat} {op:Op} {ty:Nat} {pos:String} {af:Array Edge} {j d:Nat} {want:Bool} {b:Bool} (_hj:gdst all j=some d) (hv:s d=.bool b)
  (hy:b=true→Ops P ro n all (⟨dst,op,ty,pos,af,some (j,want)⟩::rest) K (upd s d (.bool true)) w)
  (hn:b=false→Ops P ro n all (⟨dst,op,ty,pos,af,some (j,want)⟩::rest) K (upd s d (.bool false)) w):Ops P ro n all (⟨dst,op,ty,pos,af,some (j,want)⟩::rest) K s w:=by
 cases b
 ·exact Ops.fix hv (hn rfl)
 ·exact Ops.fix hv (hy rfl)

variable {d:Nat} {ty:Nat} {pos:String} {af:Array Edge}

theorem Ops.ofRun {op:Op} {v:Value} {w':World} (hd:Op.noDefer op=true) (hr:(execOp (ev n s) ⟨some d,op,ty,pos,af,none⟩).run P w=.ok (.value v) w')
  (h:Ops P ro n all rest K (upd s d v) w'):Ops P ro n all (⟨some d,op,ty,pos,af,none⟩::rest) K s w :=
 Ops.step rfl (OpW.ofRun hd hr h)
theorem Ops.ofRunU {op:Op} {dst:Option Nat} {w':World} (hd:Op.noDefer op=true) (hr:(execOp (ev n s) ⟨dst,op,ty,pos,af,none⟩).run P w=.ok .skip w')
  (h:Ops P ro n all rest K (putS s dst undef) w'):Ops P ro n all (⟨dst,op,ty,pos,af,none⟩::rest) K s w :=
 Ops.step rfl (OpW.ofRunU hd hr h)

theorem jI {x:Operand} {v:Value} (hx:ev n s x=v) (h:Ops P ro n all rest K (upd s d v) w):Ops P ro n all (⟨some d,.move x,ty,pos,af,none⟩::rest) K s w :=
 Ops.ofRun rfl (by simp [execOp,hx]) h
theorem jJ {x:Operand} {v:Value} (hx:ev n s x=v) (h:Ops P ro n all rest K (upd s d v) w):Ops P ro n all (⟨some d,.assign x,ty,pos,af,none⟩::rest) K s w :=
 Ops.ofRun rfl (by simp [execOp,hx]) h
theorem jK {c x y:Operand} {v:Value} (hc:ev n s c=.bool true) (hx:ev n s x=v) (h:Ops P ro n all rest K (upd s d v) w):Ops P ro n all (⟨some d,.pick c x y,ty,pos,af,none⟩::rest) K s w :=
 Ops.ofRun rfl (by simp [execOp,asBool,hc,hx]) h
theorem jL {c x y:Operand} {v:Value} (hc:ev n s c=.bool false) (hx:ev n s y=v) (h:Ops P ro n all rest K (upd s d v) w):Ops P ro n all (⟨some d,.pick c x y,ty,pos,af,none⟩::rest) K s w :=
 Ops.ofRun rfl (by simp [execOp,asBool,hc,hx]) h
theorem ju {x:Operand} {i:Nat} {vs:List Value} {v:Value} (hx:ev n s x=.tuple vs.toArray) (hv:vs[i]?=some v) (h:Ops P ro n all rest K (upd s d v) w) :
  Ops P ro n all (⟨some d,.extract x i,ty,pos,af,none⟩::rest) K s w :=
 Ops.ofRun rfl (by simp [execOp,Instr.extract,hx,hv]) h
theorem jv {f:Fn} {first cap:Array Operand} (h:Ops P ro n all rest K (upd s d (.func f (first.toList.map (ev n s)).toArray (cap.toList.map (ev n s)).toArray)) w) :
  Ops P ro n all (⟨some d,.makeFunc f first cap,ty,pos,af,none⟩::rest) K s w :=
 Ops.ofRun rfl (by simp [execOp,Instr.makeFunc,←Array.toList_map]) h
theorem jw {x:Operand} {a:Addr} (hx:ev n s x=.pointer (some a)) (h:Ops P ro n all rest K (upd s d (.pointer (some a))) w) :
  Ops P ro n all (⟨some d,.nilCheck x,ty,pos,af,none⟩::rest) K s w :=
 Ops.ofRun rfl (by simp [execOp,hx]) h

section num
variable {x y:Operand} {t t':Nat} {a b:Int} {k:IntKind}
theorem jY (hx:ev n s x=.int .i64 a) (hy:ev n s y=.int .i64 b) (hr:-9223372036854775808≤a+b∧a+b≤9223372036854775807) (h:Ops P ro n all rest K (upd s d (.int .i64 (a+b))) w) :
  Ops P ro n all (⟨some d,.binOp .add t x y t',ty,pos,af,none⟩::rest) K s w :=
 Ops.ofRun rfl (by have:IntKind.i64.wrap (a+b)=a+b:=by rw [IntKind.wrap_i64];omega
                   simp [execOp,hx,hy,go_sem,this]) h
theorem jZ (hx:ev n s x=.int .i64 a) (hy:ev n s y=.int .i64 b) (hr:-9223372036854775808≤a-b∧a-b≤9223372036854775807) (h:Ops P ro n all rest K (upd s d (.int .i64 (a-b))) w) :
  Ops P ro n all (⟨some d,.binOp .sub t x y t',ty,pos,af,none⟩::rest) K s w :=
 Ops.ofRun rfl (by have:IntKind.i64.wrap (a-b)=a-b:=by rw [IntKind.wrap_i64];omega
                   simp [execOp,hx,hy,go_sem,this]) h
theorem jX (hx:ev n s x=.int k a) (hy:ev n s y=.int k b) (h:Ops P ro n all rest K (upd s d (.bool (decide (a<b)))) w) :
  Ops P ro n all (⟨some d,.binOp .lss t x y t',ty,pos,af,none⟩::rest) K s w :=
 Ops.ofRun rfl (by simp [execOp,hx,hy,go_sem]) h
theorem jd (hx:ev n s x=.int k a) (hy:ev n s y=.int k b) (h:Ops P ro n all rest K (upd s d (.bool (decide (a≤b)))) w) :
  Ops P ro n all (⟨some d,.binOp .leq t x y t',ty,pos,af,none⟩::rest) K s w :=
 Ops.ofRun rfl (by simp [execOp,hx,hy,go_sem]) h
theorem je (hx:ev n s x=.int k a) (hy:ev n s y=.int k b) (h:Ops P ro n all rest K (upd s d (.bool (decide (b<a)))) w) :
  Ops P ro n all (⟨some d,.binOp .gtr t x y t',ty,pos,af,none⟩::rest) K s w :=
 Ops.ofRun rfl (by simp [execOp,hx,hy,go_sem]) h
theorem jf (hx:ev n s x=.int k a) (hy:ev n s y=.int k b) (h:Ops P ro n all rest K (upd s d (.bool (decide (b≤a)))) w) :
  Ops P ro n all (⟨some d,.binOp .geq t x y t',ty,pos,af,none⟩::rest) K s w :=
 Ops.ofRun rfl (by simp [execOp,hx,hy,go_sem]) h
theorem jb (hx:ev n s x=.int k a) (hy:ev n s y=.int k b) (h:Ops P ro n all rest K (upd s d (.bool (decide (a=b)))) w) :
  Ops P ro n all (⟨some d,.binOp .eql t x y t',ty,pos,af,none⟩::rest) K s w :=
 Ops.ofRun rfl (by
  have e:decide (a=b)=(a == b):=by by_cases h:a=b<;>simp [h]
  rw [e]
  simp [execOp,hx,hy,go_sem]) h
theorem jc (hx:ev n s x=.int k a) (hy:ev n s y=.int k b) (h:Ops P ro n all rest K (upd s d (.bool (decide (¬ a=b)))) w) :
  Ops P ro n all (⟨some d,.binOp .neq t x y t',ty,pos,af,none⟩::rest) K s w :=
 Ops.ofRun rfl (by
  have e:decide (¬ a=b)=(a != b):=by by_cases h:a=b<;>simp [h]
  rw [e]
  simp [execOp,hx,hy,go_sem]) h
theorem jp (hx:ev n s x=.bool true) (h:Ops P ro n all rest K (upd s d (.bool false)) w):Ops P ro n all (⟨some d,.unOp .not t x,ty,pos,af,none⟩::rest) K s w :=
 Ops.ofRun rfl (by simp [execOp,hx,go_sem,Op.unary]) h
theorem jq (hx:ev n s x=.bool false) (h:Ops P ro n all rest K (upd s d (.bool true)) w):Ops P ro n all (⟨some d,.unOp .not t x,ty,pos,af,none⟩::rest) K s w :=
 Ops.ofRun rfl (by simp [execOp,hx,go_sem,Op.unary]) h
theorem js {q:Bool} (hx:ev n s x=.bool q) (h:Ops P ro n all rest K (upd s d (.bool (!q))) w):Ops P ro n all (⟨some d,.unOp .not t x,ty,pos,af,none⟩::rest) K s w :=
 Ops.ofRun rfl (by simp [execOp,hx,go_sem,Op.unary]) h
end num

theorem Ops.callR {args:Array Operand} {at_:Array Nat} {fv:Operand} {g:Nat} {cap vs:List Value} {R:Ending→World→Prop} (hf:ev n s fv=.func (.func g) #[] cap.toArray)
  (he:∀ args w,(callFunc g args).run P w=.ok (.enter g args) w) (ha:args.toList.map (ev n s)++cap=vs) (hc:Calls P g vs.toArray w R)
  (hk:∀ e w',R e w'→∃ v,e=.returned v∧Ops P ro n all rest K (upd s d v) w') :
  Ops P ro n all (⟨some d,.call { callee:=.value fv,args:=args,argTypes:=at_ },ty,pos,af,none⟩::rest) K s w:=by
 refine Ops.step rfl (OpW.ofCalls (f:=g) (args:=vs) rfl ?_ hc hk)
 subst ha
 have e:(args.map (ev n s))++cap.toArray=(args.toList.map (ev n s)++cap).toArray:=by
  apply Array.ext';simp
 simp [execOp,hf,go_sem,he,e]

class Enters (P:Program) (g:Nat):Prop where
 h:∀ args w,(callFunc g args).run P w=.ok (.enter g args) w

theorem jjQ {args:Array Operand} {at_:Array Nat} {fv:Operand} {g:Nat} {cap vs:List Value} [he:Enters P g] {R:Value→World→Prop} (hc:Ct P g vs w R) (hf:ev n s fv=.func (.func g) #[] cap.toArray)
  (ha:args.toList.map (ev n s)++cap=vs) (hk:∀ v w',Step w w'→R v w'→Ops P ro n all rest K (upd s d v) w') :
  Ops P ro n all (⟨some d,.call { callee:=.value fv,args:=args,argTypes:=at_ },ty,pos,af,none⟩::rest) K s w :=
 Ops.callR (R:=fun e w'=>∃ v,e=.returned v∧Ext w w'∧R v w') hf he.h ha (by unfold Ct at hc;exact hc) fun _ w' ⟨v,e,x,r⟩=>⟨v,e,hk v w' x.toStep r⟩

section mem
variable {x y:Operand} {t:Nat} {b o:Nat} {cs:List Value}

theorem jy {v:Value} (hx:ev n s x=v) (h:∀ b w',b=w.heap.size→w'.heap.size=w.heap.size+1→Step w w'→w'.heap[b]?=some (.cells v.cells t (0,0))→Ops P ro n all rest K (upd s d (.pointer (some ⟨b,0,none⟩))) w') :
  Ops P ro n all (⟨some d,.box t x,ty,pos,af,none⟩::rest) K s w:=by
 refine Ops.ofRun (w':=w.alloc (.cells v.cells t)) rfl (by simp [execOp,hx,Instr.box,newVar,newRow]) (h w.heap.size _ rfl (by simp) ⟨(Below.refl _ w).alloc (Nat.le_refl _) _⟩ (World.alloc_heap_new w _))

theorem At.ofBlock {w:World} {b:Nat} {cs:List Value} {t:Nat} {fr:Nat×Nat} (h:w.heap[b]?=some (.cells cs.toArray t fr)):At w b 0 cs :=
 ⟨fun i v hv=>by simp [World.cell?,h,hv]⟩

theorem run_loadVar_cell {w:World} {v:Value} {dd:TypeDesc} (ht:TU P t dd) (hs:TypeDesc.isAgg dd=false) (hc:w.cell? ⟨b,o,none⟩=some v):(loadVar t ⟨b,o,none⟩).run P w=.ok v w:=by
 simp [loadVar,run_isAgg w ht,hs,hc]
theorem run_loadVar_agg {w:World} {dd:TypeDesc} {z:Value} {size bytes:Nat} (ht:TU P t dd) (hs:TypeDesc.isAgg dd=true) (hz:TS P t z size bytes) {cs:List Value} (hl:cs.length=size)
  (hc:∀ (i:Nat) (v:Value),cs[i]?=some v→w.cell? ⟨b,o+i,none⟩=some v):(loadVar t ⟨b,o,none⟩).run P w=.ok (.agg cs.toArray) w:=by
 have:=run_loadCells_list (P:=P) w ⟨b,o,none⟩ cs (fun j v hv=>by rw [Addr.add_lit];exact hc j v hv)
 simp [loadVar,run_isAgg w ht,hs,run_sizeOf' w hz,←hl,this]

theorem jR {v:Value} {dd:TypeDesc} (hc:w.cell? ⟨b,o,none⟩=some v) (hx:ev n s x=.pointer (some ⟨b,o,none⟩)) [ht:TU P t dd] (hs:TypeDesc.isAgg dd=false) (h:Ops P ro n all rest K (upd s d v) w) :
  Ops P ro n all (⟨some d,.load t x,ty,pos,af,none⟩::rest) K s w :=
 Ops.ofRun rfl (by simp [execOp,hx,Instr.loadAt,Instr.sureAddr,run_loadVar_cell ht hs hc]) h
theorem Ops.loadA {cs:List Value} {dd:TypeDesc} {z:Value} {size bytes:Nat} (hc:At w b o cs) (hx:ev n s x=.pointer (some ⟨b,o,none⟩)) [ht:TU P t dd] (hs:TypeDesc.isAgg dd=true) [hz:TS P t z size bytes] (hl:cs.length=size)
  (h:Ops P ro n all rest K (upd s d (.agg cs.toArray)) w):Ops P ro n all (⟨some d,.load t x,ty,pos,af,none⟩::rest) K s w :=
 Ops.ofRun rfl (by simp [execOp,hx,Instr.loadAt,Instr.sureAddr,run_loadVar_agg ht hs hz hl hc.h]) h

theorem At.get {w:World} {b o i:Nat} {cs:List Value} {v:Value} (h:At w b o cs) (hv:cs[i]?=some v):w.cell? ⟨b,o+i,none⟩=some v:=h.h i v hv
theorem jN {v:Value} {dd:TypeDesc} (hx:ev n s x=.pointer (some ⟨b,o,none⟩)) [hc:At w b 0 cs] (hv:cs[o]?=some v) [ht:TU P t dd] (hs:TypeDesc.isAgg dd=false) (h:Ops P ro n all rest K (upd s d v) w) :
  Ops P ro n all (⟨some d,.load t x,ty,pos,af,none⟩::rest) K s w :=
 jR (by have:=hc.get hv;simpa using this) hx hs h
theorem jO {cs':List Value} {dd:TypeDesc} {z:Value} {size bytes:Nat} (hx:ev n s x=.pointer (some ⟨b,o,none⟩)) [hc:At w b 0 cs] [ht:TU P t dd] (hs:TypeDesc.isAgg dd=true) [hz:TS P t z size bytes]
  (hl:(cs.drop o).take size=cs') (hn:cs'.length=size) (h:Ops P ro n all rest K (upd s d (.agg cs'.toArray)) w):Ops P ro n all (⟨some d,.load t x,ty,pos,af,none⟩::rest) K s w :=
 Ops.loadA (cs:=cs') ⟨fun i v hv=>by
  have h1:=hc.drop o
  simp only [Nat.zero_add] at h1
  refine h1.h i v ?_
  rw [←hl,List.getElem?_take] at hv
  split at hv
  ·exact hv
  ·cases hv⟩ hx hs hn h

theorem run_fieldPlace {w:World} {f:Field} {z:Value} {size bytes:Nat} (hz:TS P f.type z (size+1) bytes) (a:Addr):(fieldPlace a f).run P w=.ok (a.add f.offset) w:=by
 simp [fieldPlace,run_sizeOf' w hz]

theorem jn {i off:Nat} (hx:ev n s x=.pointer (some ⟨b,o,none⟩)) [hf:FA P t i off]
  (h:Ops P ro n all rest K (upd s d (.pointer (some ⟨b,o+off,none⟩))) w):Ops P ro n all (⟨some d,.fieldAddr t x i,ty,pos,af,none⟩::rest) K s w:=by
 obtain ⟨fs,f,z,size,bytes,hu,hfi,ho,hz⟩:=hf.h
 subst ho
 exact Ops.ofRun rfl (by simp [execOp,hx,Instr.fieldAt,run_underlying hu,hfi,Instr.sureAddr,run_fieldPlace hz,Addr.add_lit]) h
end mem

section chk
variable {x y c:Operand} {t t' i:Nat} {op:BinOp} {uop:UnOp} {f:Go.Fn} {first cap args:Array Operand} {at_:Array Nat} {bi:Builtin}
theorem jM (h:Ops P ro n all (⟨some d,.load t x,ty,pos,af,none⟩::rest) K s w):Ops P ro n all (⟨some d,.load t x,ty,pos,af,none⟩::rest) K s w:=h
theorem jW (h:Ops P ro n all (⟨some d,.binOp op t x y t',ty,pos,af,none⟩::rest) K s w):Ops P ro n all (⟨some d,.binOp op t x y t',ty,pos,af,none⟩::rest) K s w:=h
theorem jm (h:Ops P ro n all (⟨some d,.fieldAddr t x i,ty,pos,af,none⟩::rest) K s w):Ops P ro n all (⟨some d,.fieldAddr t x i,ty,pos,af,none⟩::rest) K s w:=h
theorem jx (h:Ops P ro n all (⟨some d,.box t x,ty,pos,af,none⟩::rest) K s w):Ops P ro n all (⟨some d,.box t x,ty,pos,af,none⟩::rest) K s w:=h
theorem jg (h:Ops P ro n all (⟨some d,.call { callee:=.builtin bi,args:=args,argTypes:=at_ },ty,pos,af,none⟩::rest) K s w):Ops P ro n all (⟨some d,.call { callee:=.builtin bi,args:=args,argTypes:=at_ },ty,pos,af,none⟩::rest) K s w:=h
theorem jS {dst:Option Nat} {op:Op} {j:Nat} {want:Bool} (h:Ops P ro n all (⟨dst,op,ty,pos,af,some (j,want)⟩::rest) K s w):Ops P ro n all (⟨dst,op,ty,pos,af,some (j,want)⟩::rest) K s w:=h
theorem jjA {P:Program} {ro:Option Nat} {n:Nat} {c:Code} {X:Ctx} {s:Sl} {ds:List Deferred} {w:World} (h:W P ro n c X s ds w):W P ro n c X s ds w:=h
end chk
end rules
attribute [irreducible] Ops OpW

def memN:List Nat→Nat→Bool
 | [],_=>false
 | d::D,i=>bif Nat.beq i d then true else memN D i
def ovN (D:List Nat) (d s:Sl):Sl:=fun i=>bif memN D i then d i else s i
def Same (D:List Nat) (s s':Sl):Prop:=∀ i,memN D i=false→s' i=s i

theorem Same.refl (D:List Nat) (s:Sl):Same D s s:=fun _ _=>rfl
theorem Same.upd {D:List Nat} {s s':Sl} {d:Nat} {v:Value} (hd:memN D d=true) (h:Same D s s'):Same D s (upd s' d v):=fun i hi=>by
 simp only [Go.Proofs.YtbafmbpmiiplkaaGreatDoor.upd]
 cases e:Nat.beq i d
 ·exact h i hi
 ·rw [Nat.eq_of_beq_eq_true e,hd] at hi;cases hi
theorem Same.ovN {D:List Nat} {d s:Sl}:Same D s (ovN D d s):=fun i hi=>by simp [Go.Proofs.YtbafmbpmiiplkaaGreatDoor.ovN,hi]
def allN (D:List Nat):List Nat→Bool
 | []=>true
 | d::E=>bif memN D d then allN D E else false
theorem mem_of_allN {D:List Nat}:∀ {E:List Nat} {i:Nat},allN D E=true→memN E i=true→memN D i=true
 | d::E,i,h,hi=>by
   simp only [memN] at hi
   simp only [allN] at h
   cases hd:memN D d
   ·rw [hd] at h;cases h
   ·rw [hd] at h
    cases e:Nat.beq i d
    ·rw [e] at hi;exact mem_of_allN h hi
    ·rw [Nat.eq_of_beq_eq_true e];exact hd
theorem Same.ovN' {D E:List Nat} {d s s':Sl} (hE:allN D E=true) (h:Same D s s'):Same D s (Go.Proofs.YtbafmbpmiiplkaaGreatDoor.ovN E d s'):=fun i hi=>by
 have:memN E i=false:=by
  cases e:memN E i
  ·rfl
  ·rw [mem_of_allN hE e] at hi;cases hi
 simp only [Go.Proofs.YtbafmbpmiiplkaaGreatDoor.ovN,this,cond_false];exact h i hi
theorem Same.ov_eq {D:List Nat} {s s':Sl} (h:Same D s s'):Go.Proofs.YtbafmbpmiiplkaaGreatDoor.ovN D s' s=s':=by
 funext i
 simp only [Go.Proofs.YtbafmbpmiiplkaaGreatDoor.ovN]
 cases e:memN D i
 ·exact (h i e).symm
 ·rfl

section
variable {P:Program} {ro:Option Nat} {n:Nat} {X:Ctx} {s:Sl} {ds:List Deferred} {w:World}

theorem wpIn_loopJ {F:Fence} {m:Nat} {c:Code} {Q:Exit→Act→World→Prop} {a:Act} {w:World} (J:Nat→Act→World→Prop) (j0:Nat) (h₀:J j0 a w)
  (round:∀ j a w,J j a w→c.wpIn F m P (Exit.then (fun a' w'=>∃ j',j'<j∧J j' a' w') Q) a w):(Code.loop c).wpIn F m P Q a w:=by
 intro b k cs hro hb hr
 have key:∀ j a w,J j a w →
   ∃ e a' w',Q e a' w'∧ArrivesIn (Machine.fenced P F) P (lone (b.atR a (.code c::.inLoop c::k)) cs w) b k cs e a' w':=by
  intro j
  induction j using Nat.strongRecOn with
  | _ j ih =>
    intro a w hJ
    obtain ⟨e,a₁,w₁,hq,harr⟩:=round j a w hJ b (.inLoop c::k) cs hro hb hr
    cases e with
    | normal =>
      obtain ⟨j',hlt,hJ'⟩:=hq
      obtain ⟨e₂,a₂,w₂,hq₂,harr₂⟩:=ih j' hlt a₁ w₁ hJ'
      exact ⟨e₂,a₂,w₂,hq₂,.of_steps (StepsIn.trans harr (.one (fenced_calm hb hr rfl) stepR_inLoop)) harr₂⟩
    | exit id=>exact ⟨_,a₁,w₁,hq,.pass (x:=.inLoop c) rfl (fun _ _=>.inl (by simp)) harr⟩
    | goto l=>exact ⟨_,a₁,w₁,hq,.pass (x:=.inLoop c) rfl (fun _ _=>.inl (by simp)) harr⟩
    | ret=>exact ⟨_,a₁,w₁,hq,.pass (x:=.inLoop c) rfl (fun _ _=>.inl (by simp)) harr⟩
    | panic ch=>exact ⟨_,a₁,w₁,hq,.pass (x:=.inLoop c) rfl (fun _ _=>.inl (by simp)) harr⟩
    | outgrown=>exact ⟨_,a₁,w₁,hq,.pass (x:=.inLoop c) rfl (fun _ _=>.inl (by simp)) harr⟩
 obtain ⟨e,a',w',hq,harr⟩:=key _ a w h₀
 exact ⟨e,a',w',hq,.of_steps (.one (fenced_calm hb hr rfl) stepR_loop) harr⟩

theorem W.loopG (D:List Nat) {c:Code} (I:Nat→Sl→World→Prop) (g0:Nat) (h0:I g0 s w)
  (hr:∀ g d w',I g (ovN D d s) w'→W P ro n c { X with nx:=fun s' ds' w''=>ds'=ds∧Same D s s'∧∃ g',g'<g∧I g' s' w'' } (ovN D d s) ds w') :
  W P ro n (.loop c) X s ds w:=by
 unfold W at hr ⊢
 refine wpIn_loopJ (fun j a w'=>∃ s',a=mkA n s' ds∧Same D s s'∧I j s' w') g0 ⟨s,rfl,Same.refl D s,h0⟩ ?_
 rintro j a w' ⟨s',rfl,hs,hI⟩
 have hr':=hr j s' w'
 rw [hs.ov_eq] at hr'
 refine wpIn_mono (hr' hI) fun e a w'' hp=>?_
 cases e with
 | normal =>
   obtain ⟨s'',ds'',rfl,rfl,hs',g',hlt,hI'⟩:=hp
   exact ⟨g',hlt,s'',rfl,hs',hI'⟩
 | ret=>exact hp
 | exit i=>exact hp
 | goto l=>exact hp
 | panic c=>exact hp
 | outgrown=>exact hp

theorem W.loop (D:List Nat) {c:Code} (I:Nat→Sl→World→Prop) (g0:Nat) (h0:I g0 s w)
  (hr:∀ g d w',Step w w'→I g (ovN D d s) w'→W P ro n c { X with nx:=fun s' ds' w''=>ds'=ds∧Same D s s'∧∃ g',g'<g∧Ext w w''∧I g' s' w'' } (ovN D d s) ds w') :
  W P ro n (.loop c) X s ds w :=
 W.loopG D (fun g s' w'=>Ext w w'∧I g s' w') g0 ⟨Ext.refl w,h0⟩ fun g d w' h=>hr g d w' h.1.toStep h.2
end

class TSl (P:Program) (t:Nat) (e:outParam Nat):Prop where
 h:P.underlying t=some (.slice e)

section rules
variable {P:Program} {ro:Option Nat} {n:Nat} {all rest:List Oper} {K:Sl→World→Prop} {s:Sl} {w:World} {d:Nat} {ty:Nat} {pos:String} {af:Array Edge}
variable {x y:Operand} {t t' e:Nat} {at_:Array Nat}

theorem jh {a:Option Addr} {l c:Nat} (hx:ev n s x=.slice a l c) [ht:TSl P t e] (h:Ops P ro n all rest K (upd s d (.int .i64 (l:Nat))) w) :
  Ops P ro n all (⟨some d,.call { callee:=.builtin .len,args:=#[x],argTypes:=#[t] },ty,pos,af,none⟩::rest) K s w :=
 Ops.ofRun rfl (by simp [execOp,resolve,invoke,builtin,hx,Builtin.len_,run_underlying ht.h,goInt]) h
theorem ji {b:ByteArray} (hx:ev n s x=.string b) [ht:TU P t .string] (h:Ops P ro n all rest K (upd s d (.int .i64 (b.size:Nat))) w) :
  Ops P ro n all (⟨some d,.call { callee:=.builtin .len,args:=#[x],argTypes:=#[t] },ty,pos,af,none⟩::rest) K s w :=
 Ops.ofRun rfl (by simp [execOp,resolve,invoke,builtin,hx,Builtin.len_,run_underlying ht.h,goInt]) h
theorem jj {a b:Int} {k:IntKind} (hx:ev n s x=.int k a) (hy:ev n s y=.int k b) (h:Ops P ro n all rest K (upd s d (.int k (min a b))) w) :
  Ops P ro n all (⟨some d,.call { callee:=.builtin .min,args:=#[x,y],argTypes:=at_ },ty,pos,af,none⟩::rest) K s w :=
 Ops.ofRun rfl (by
  have e:min a b=if b<a then b else a:=by rw [Int.min_def];by_cases h:a≤b<;>(simp [h];try omega)
  rw [e]
  simp [execOp,resolve,invoke,builtin,hx,hy,run_min_int2]) h
theorem jk {a b:Int} {k:IntKind} (hx:ev n s x=.int k a) (hy:ev n s y=.int k b) (h:Ops P ro n all rest K (upd s d (.int k (max a b))) w) :
  Ops P ro n all (⟨some d,.call { callee:=.builtin .max,args:=#[x,y],argTypes:=at_ },ty,pos,af,none⟩::rest) K s w :=
 Ops.ofRun rfl (by
  have e:max a b=if a<b then b else a:=by rw [Int.max_def];by_cases h:a≤b<;>(simp [h];try omega)
  rw [e]
  simp [execOp,resolve,invoke,builtin,hx,hy,run_max_int2]) h

theorem jH {z:Value} {size bytes b o l c:Nat} {i:Int} {k:IntKind} (j:Nat) (hx:ev n s x=.slice (some ⟨b,o,none⟩) l c) (hy:ev n s y=.int k i) (hi:i=(j:Int)) (hj:j<l)
  [ht:TSl P t e] [hz:TS P e z size bytes] (h:Ops P ro n all rest K (upd s d (.pointer (some ⟨b,o+j * size,none⟩))) w) :
  Ops P ro n all (⟨some d,.indexAddr t x y,ty,pos,af,none⟩::rest) K s w:=by
 subst hi
 exact Ops.ofRun rfl (by
  have h1:(0:Int)≤(j:Int)∧(j:Int)<(l:Int):=by omega
  simp [execOp,Instr.indexAt,hx,hy,asIntOf,run_underlying ht.h,h1,run_sizeOf' w hz,Addr.add_lit,hj]) h

theorem jjP {z:Value} {size bytes:Nat} {v:Value} (hx:ev n s x=v) [ht:TSl P t e] [hz:TS P e z size bytes] (hsz:v.cells.size=size) (hs0:Nat.blt 0 size=true)  (hs1:Nat.blt size 1000=true) (hzz:z.cells.size=size)
  (h:∀ b w',b=w.heap.size→w'.heap.size=w.heap.size+1→Step w w'→w'.heap[b]?=some (.cells v.cells e (0,0))→Ops P ro n all rest K (upd s d (.slice (some ⟨b,0,none⟩) 1 1)) w') :
  Ops P ro n all (⟨some d,.buildSlice t 1 #[(0,x)],ty,pos,af,none⟩::rest) K s w:=by
 have h0:0<size:=by simpa using hs0
 have h1:size<1000:=by simpa using hs1
 have hfill:∀ (z':Array Value),z'.size=size→Instr.fill (fun i=>some (i * size,size)) z' [(0,v)]=some v.cells:=by
  intro z' hz'
  simp only [Instr.fill,hsz,hz']
  rw [if_neg (by simp)]
  congr 1
  apply Array.ext_getElem?
  intro i
  have key:∀ (l:List (Value×Nat)) (a:Array Value) (k0:Nat),(∀ j p,l[j]?=some p→p.2=k0+j)→k0+l.length≤a.size →
    (l.foldl (fun cs (x:Value×Nat)=>cs.setIfInBounds (0 * size+x.2) x.1) a)[i]?=if k0≤i∧i<k0+l.length then (l[i-k0]?).map (·.1) else a[i]?:=by
   intro l
   induction l with
   | nil=>intro a k0 _ _;simp;intro h1 h2;omega
   | cons p l ih =>
     intro a k0 hp hlen
     simp only [List.foldl_cons,List.length_cons] at hlen ⊢
     have hp0:p.2=k0:=by simpa using hp 0 p rfl
     rw [ih _ (k0+1) (fun j q hq=>by have:=hp (j+1) q (by simpa using hq);omega) (by simp;omega)]
     by_cases h1:k0+1≤i∧i<k0+1+l.length
     ·rw [if_pos h1,if_pos (by omega)]
      rw [show i-k0=(i-(k0+1))+1 from by omega]
      simp
     ·rw [if_neg h1]
      by_cases h2:i=k0
      ·subst h2
       rw [if_pos (by omega)]
       have hia:i<a.size:=by omega
       simp [hp0,hia]
      ·rw [if_neg (by omega)]
       simp [hp0,Array.getElem?_setIfInBounds]
       intro h;omega
  rw [←Array.foldl_toList,Array.toList_zipIdx,key v.cells.toList.zipIdx z' 0 (fun j p hp=>by
   simp [List.getElem?_zipIdx] at hp
   obtain ⟨q,_,rfl⟩:=hp
   simp) (by simp [hz',hsz])]
  simp only [Nat.zero_le,true_and,Nat.zero_add,List.length_zipIdx,Array.length_toList,Nat.sub_zero]
  by_cases hi:i<v.cells.size
  ·rw [if_pos hi]
   cases hvi:v.cells[i]?<;>simp [List.getElem?_zipIdx,hvi]
  ·rw [if_neg hi]
   rw [Array.getElem?_eq_none (by omega),Array.getElem?_eq_none (by omega)]
 have hne:¬ size=0:=by omega
 have hbig:¬ (16777216<size):=by omega
 refine Ops.ofRun (w':=w.alloc (.cells v.cells e)) rfl ?_ (h w.heap.size _ rfl (by simp) ⟨(Below.refl _ w).alloc (Nat.le_refl _) _⟩ (World.alloc_heap_new w _))
 have hf:=hfill ((Array.range (1 * size)).map (z.cells[· % z.cells.size]!)) (by simp)
 simp only [Nat.one_mul] at hf
 simp [execOp,Instr.buildSlice,hx,run_underlying ht.h,run_sizeOf' w hz,run_zeroValue' w hz,hne,hbig,hf,newRow]
end rules

def fitsV (agg:Bool) (k:Nat):Value→Bool
 | .agg cs=>agg && cs.size == k
 | _=>!agg && k == 1

theorem fitsV_cells {agg:Bool} {k:Nat} {v:Value} (h:fitsV agg k v=true):v.cells.size=k:=by
 cases v<;>simp [fitsV,Value.cells] at h ⊢<;>first|exact h.2|omega

structure RowV (w:World) (agg:Bool) (k:Nat) (v:Value) (xs:List Value):Prop where
 len:xs.length≤140737488355328
 fit:∀ x∈xs,fitsV agg k x=true
 at_:(xs=[]∧∃ a c,v=.slice a 0 c)∨∃ b o c,v=.slice (some ⟨b,o,none⟩) xs.length c∧xs.length≤c∧∀ (j:Nat) (x:Value),xs[j]?=some x→At w b (o+j * k) x.cells.toList

theorem RowV.ext {w w':World} {agg:Bool} {k:Nat} {v:Value} {xs:List Value} (h:RowV w agg k v xs) (hs:Ext w w'):RowV w' agg k v xs :=
 ⟨h.len,h.fit,h.at_.imp id fun ⟨b,o,c,hv,hl,hc⟩=>⟨b,o,c,hv,hl,fun j x hx=>(hc j x hx).ext hs⟩⟩

theorem RowV.slice {w:World} {agg:Bool} {k:Nat} {v:Value} {xs:List Value} (h:RowV w agg k v xs):∃ a c,v=.slice a xs.length c:=by
 rcases h.at_ with ⟨rfl,a,c,rfl⟩|⟨b,o,c,rfl,_⟩
 ·exact ⟨a,c,rfl⟩
 ·exact ⟨_,c,rfl⟩
theorem RowV.cap {w:World} {agg:Bool} {k l c:Nat} {a:Option Addr} {xs:List Value} (h:RowV w agg k (.slice a l c) xs):l=xs.length∧xs.length≤c:=by
 rcases h.at_ with ⟨rfl,a',c',hv⟩|⟨b,o,c',hv,hl,_⟩
 ·simp only [Value.slice.injEq] at hv;simp;omega
 ·simp only [Value.slice.injEq] at hv;omega

theorem RowV.nilS (w:World) (agg:Bool) (k:Nat) (a:Option Addr) (c:Nat):RowV w agg k (.slice a 0 c) []:=⟨by simp,by simp,.inl ⟨rfl,a,c,rfl⟩⟩

theorem RowV.one {w:World} {agg:Bool} {k b e:Nat} {x:Value} (hx:fitsV agg k x=true) (h:w.heap[b]?=some (.cells x.cells e (0,0))):RowV w agg k (.slice (some ⟨b,0,none⟩) 1 1) [x] :=
 ⟨by simp,by simpa using hx,.inr ⟨b,0,1,rfl,by simp,fun j y hy=>by
  cases j with
  | zero =>
    simp at hy;subst hy
    have:w.heap[b]?=some (.cells x.cells.toList.toArray e (0,0)):=by simpa using h
    simpa using At.ofBlock this
  | succ j=>simp at hy⟩⟩

section rules
variable {P:Program} {ro:Option Nat} {n:Nat} {all rest:List Oper} {K:Sl→World→Prop} {s:Sl} {w:World} {d:Nat} {ty:Nat} {pos:String} {af:Array Edge}
theorem Ops.loadV {x:Operand} {t b o:Nat} {v z:Value} {dd:TypeDesc} {size bytes:Nat} (hx:ev n s x=.pointer (some ⟨b,o,none⟩)) (hc:At w b o v.cells.toList) [ht:TU P t dd] [hz:TS P t z size bytes] (hf:fitsV (TypeDesc.isAgg dd) size v=true)
  (h:Ops P ro n all rest K (upd s d v) w):Ops P ro n all (⟨some d,.load t x,ty,pos,af,none⟩::rest) K s w:=by
 cases hag:TypeDesc.isAgg dd with
 | true =>
   rw [hag] at hf
   cases v<;>simp [fitsV] at hf
   case agg cs =>
    refine Ops.loadA (cs:=cs.toList) hc hx hag (by simpa using hf) ?_
    simpa using h
 | false =>
   rw [hag] at hf
   have hv:w.cell? ⟨b,o,none⟩=some v:=by
    have:=hc.h 0 v (by cases v<;>simp [fitsV] at hf<;>rfl)
    simpa using this
   exact jR hv hx hag h
theorem Ops.indexRow {x y:Operand} {t e:Nat} {agg:Bool} {size bytes j l c:Nat} {a:Option Addr} {xs:List Value} {v z:Value} {i:Int} {k:IntKind} (hx:ev n s x=.slice a l c) (hy:ev n s y=.int k i) [ht:TSl P t e] [hz:TS P e z size bytes]
  (hrow:RowV w agg size (.slice a l c) xs) (hi:i=(j:Int)) (hj:xs[j]?=some v)
  (h:∀ b o,At w b o v.cells.toList→Ops P ro n all rest K (upd s d (.pointer (some ⟨b,o,none⟩))) w):Ops P ro n all (⟨some d,.indexAddr t x y,ty,pos,af,none⟩::rest) K s w:=by
 have hlt:j<xs.length:=(List.getElem?_eq_some_iff.1 hj).1
 rcases hrow.at_ with ⟨rfl,_⟩|⟨b,o,c',hv,_,hc⟩
 ·simp at hlt
 ·simp only [Value.slice.injEq] at hv
  obtain ⟨rfl,rfl,rfl⟩:=hv
  exact jH j hx hy hi hlt (h _ _ (hc j v hj))
end rules

theorem RowV.get {α:Type} {w:World} {agg:Bool} {k:Nat} {v:Value} {enc:α→Value} {xs:List α} (h:RowV w agg k v (xs.map enc)) {x:α} (hx:x∈xs):fitsV agg k (enc x)=true:=h.fit _ (List.mem_map.2 ⟨x,hx,rfl⟩)
theorem map_get {α:Type} {enc:α→Value} {xs:List α} {j:Nat} (hj:j<xs.length):(xs.map enc)[j]?=some (enc xs[j]):=by simp [hj]

def idxV {α:Type} (p:α→Bool) (xs:List α):Int:=match xs.findIdx? p with
 | some i=>i
 | none=>-1
theorem idxV_hit {α:Type} {p:α→Bool} {xs:List α} {k:Nat} (hk:k<xs.length) (hp:p xs[k]=true) (hb:∀ (j:Nat) (hj:j<xs.length),j<k→p xs[j]=false):idxV p xs=k:=by
 have:xs.findIdx? p=some k:=by
  rw [List.findIdx?_eq_some_iff_getElem]
  refine ⟨hk,hp,fun j hj=>?_⟩
  simp [hb j (by omega) hj]
 simp [idxV,this]
theorem idxV_miss {α:Type} {p:α→Bool} {xs:List α} (hb:∀ (j:Nat) (hj:j<xs.length),p xs[j]=false):idxV p xs=-1:=by
 have:xs.findIdx? p=none:=by
  rw [List.findIdx?_eq_none_iff]
  intro x hx
  obtain ⟨j,hj⟩:=List.getElem_of_mem hx
  rw [←hj.2];exact hb j hj.1
 simp [idxV,this]
theorem idxV_nonneg {α:Type} (p:α→Bool) (xs:List α):decide (0≤idxV p xs)=xs.any p:=by
 unfold idxV
 cases h:xs.findIdx? p with
 | none =>
   rw [List.findIdx?_eq_none_iff] at h
   have:xs.any p=false:=by rw [List.any_eq_false];intro x hx;simp [h x hx]
   rw [this];rfl
 | some i =>
   rw [List.findIdx?_eq_some_iff_getElem] at h
   obtain ⟨hi,hp,_⟩:=h
   have:xs.any p=true:=List.any_eq_true.2 ⟨xs[i],List.getElem_mem hi,hp⟩
   rw [this]
   have h0:(0:Int)≤(i:Int):=by omega
   exact decide_eq_true h0

structure PredE {α:Type} (P:Program) (w:World) (fv:Value) (enc:α→Value) (xs:List α) (p:α→Bool):Prop where
 h:∃ (g:Nat) (cap:List Value),fv=.func (.func g) #[] cap.toArray∧Enters P g∧∀ (w':World) (x:α),x∈xs→Ext w w'→Ct P g ([enc x]++cap) w' fun v _=>v=.bool (p x)
theorem PredE.ext {α:Type} {P:Program} {w w':World} {fv:Value} {enc:α→Value} {xs:List α} {p:α→Bool} (h:PredE P w fv enc xs p) (hs:Ext w w'):PredE P w' fv enc xs p:=by
 obtain ⟨g,cap,e1,e2,e3⟩:=h.h
 exact ⟨g,cap,e1,e2,fun w'' x hx hs'=>e3 w'' x hx (hs.trans hs')⟩

def byteV (c:UInt8):Value:=.int .u8 c.toNat

section rules
variable {P:Program} {ro:Option Nat} {n:Nat} {all rest:List Oper} {K:Sl→World→Prop} {s:Sl} {w:World} {d:Nat} {ty:Nat} {pos:String} {af:Array Edge}
variable {x:Operand} {src dst e:Nat}

theorem Ops.bytesOf {b:ByteArray} (hx:ev n s x=.string b) (hlen:b.size≤140737488355328) [hs:TU P src .string] [hd:TSl P dst e] [he:TU P e (.int .u8)]
  (h:∀ v w',Step w w'→RowV w' false 1 v (b.data.toList.map byteV)→Ops P ro n all rest K (upd s d v) w') :
  Ops P ro n all (⟨some d,.convert src dst x,ty,pos,af,none⟩::rest) K s w:=by
 have hr:=run_bytes_of_string w src dst e b hs.h hd.h he.h
 refine Ops.ofRun rfl (by simp [execOp,hx,hr];exact ⟨rfl,rfl⟩) (h _ _ ⟨?_⟩ ?_)
 ·exact ((Below.refl _ w).drew).alloc (Nat.le_refl _) _
 ·refine ⟨by simpa using hlen,?_,?_⟩
  ·intro y hy
   obtain ⟨c,_,rfl⟩:=List.mem_map.1 hy
   rfl
  ·refine .inr ⟨w.heap.size,0,_,by simp;rfl,by simpa using grownCap_ge w b.size 0 e,fun j y hy=>⟨fun i v hv=>?_⟩⟩
   have hy':∃ c,b.data[j]?=some c∧byteV c=y:=by simpa using hy
   obtain ⟨c,hc,rfl⟩:=hy'
   have hj:j<b.data.size:=(Array.getElem?_eq_some_iff.1 hc).1
   cases i with
   | succ i=>simp [byteV,Value.cells] at hv
   | zero =>
     have hv':byteV c=v:=by simpa [byteV,Value.cells] using hv
     subst hv'
     simp only [Nat.zero_add,Nat.mul_one,Nat.add_zero]
     have hb:(w.drew.alloc (.cells (bytesRow b (grownCap w b.size 0 e)) e ((bytesRow b (grownCap w b.size 0 e)).size,(bytesRow b (grownCap w b.size 0 e)).size+1))).heap[w.heap.size]?=some (.cells (bytesRow b (grownCap w b.size 0 e)) e ((bytesRow b (grownCap w b.size 0 e)).size,(bytesRow b (grownCap w b.size 0 e)).size+1)):=by
      have:=World.alloc_heap_new w.drew (.cells (bytesRow b (grownCap w b.size 0 e)) e ((bytesRow b (grownCap w b.size 0 e)).size,(bytesRow b (grownCap w b.size 0 e)).size+1))
      exact this
     simp only [World.cell?,hb]
     simp [bytesRow,byteV,hc,Array.getElem?_append]
     intro h
     have:b.data.size=b.size:=rfl
     omega

theorem Ops.convI {k k':IntKind} {i:Int} {du:TypeDesc} (hx:ev n s x=.int k i) [hs:TU P src du] (hsu:TypeDesc.isInt du=true) [hd:TU P dst (.int k')] (hw:IntKind.wrap k' i=i) (h:Ops P ro n all rest K (upd s d (.int k' i)) w) :
  Ops P ro n all (⟨some d,.convert src dst x,ty,pos,af,none⟩::rest) K s w :=
 Ops.ofRun rfl (by
  cases du<;>simp [TypeDesc.isInt] at hsu
  simp [execOp,hx,convert,run_underlying hs.h,run_underlying hd.h,Conv.intToInt,hw]) h
end rules

def Obj.loopy:Obj→Bool
 | .loop _=>true
 | .deferred _=>true
 | _=>false

structure Tr (w w':World):Prop where
 size:w.heap.size≤w'.heap.size
 keep:∀ (k:Nat) (o:Obj),w.heap[k]?=some o→Obj.loopy o=true→w'.heap[k]?=some o
theorem Tr.refl (w:World):Tr w w:=⟨Nat.le_refl _,fun _ _ h _=>h⟩
theorem Tr.trans {a b c:World} (h:Tr a b) (k:Tr b c):Tr a c:=⟨Nat.le_trans h.size k.size,fun i o hi ho=>k.keep i o (h.keep i o hi ho) ho⟩
theorem Ext.tr {w w':World} (h:Ext w w'):Tr w w':=⟨h.size,fun _ _ hk _=>h.block' hk⟩

structure Grow (N:Nat) (w w':World):Prop where
 os:w'.os=w.os
 tape:w'.tape=w.tape
 output:w'.output=w.output
 size:w.heap.size≤w'.heap.size
 old:∀ (k:Nat),k<N→w'.heap[k]?=w.heap[k]?
 data:∀ (k:Nat) (o:Obj),w.heap[k]?=some o→Obj.loopy o=false→w'.heap[k]?=some o
theorem Grow.refl (N:Nat) (w:World):Grow N w w:=⟨rfl,rfl,rfl,Nat.le_refl _,fun _ _=>rfl,fun _ _ h _=>h⟩
theorem Grow.trans {N:Nat} {a b c:World} (h:Grow N a b) (k:Grow N b c):Grow N a c :=
 ⟨k.os.trans h.os,k.tape.trans h.tape,k.output.trans h.output,Nat.le_trans h.size k.size,fun i hi=>(k.old i hi).trans (h.old i hi),fun i o hi ho=>k.data i o (h.data i o hi ho) ho⟩
theorem Ext.grow {N:Nat} {w w':World} (h:Ext w w') (hN:N≤w.heap.size):Grow N w w' :=
 ⟨h.b.os,h.b.tape,h.b.output,h.size,fun _ hk=>h.block (by omega),fun _ _ hk _=>h.block' hk⟩
theorem Grow.putObj {N:Nat} {w:World} {l:Nat} {o:Obj} (o':Obj) (hl:w.heap[l]?=some o) (ho:Obj.loopy o=true) (hN:N≤l):Grow N w (w.putObj l o') :=
 ⟨rfl,rfl,rfl,by simp,fun k hk=>World.putObj_heap_other (by omega),fun k o2 hk h2=>by
  by_cases e:k=l
  ·subst e;rw [hl] at hk;cases hk;rw [ho] at h2;cases h2
  ·exact (World.putObj_heap_other e).trans hk⟩
theorem Ext.ofGrow {N:Nat} {w0 w w':World} (h:Ext w0 w) (g:Grow N w w') (hN:w0.heap.size≤N):Ext w0 w' :=
 ⟨⟨g.os.trans h.b.os,g.tape.trans h.b.tape,g.output.trans h.b.output,Nat.le_trans h.size g.size,fun k hk=>(g.old k (by omega)).trans (h.block hk)⟩⟩
theorem cell_block {w:World} {b o:Nat} {v:Value} (h:w.cell? ⟨b,o,none⟩=some v):∃ ob,w.heap[b]?=some ob∧Obj.loopy ob=false:=by
 unfold World.cell? at h
 cases hb:w.heap[b]? with
 | none=>simp [hb] at h
 | some x=>cases x<;>simp [hb] at h;exact ⟨_,rfl,rfl⟩
theorem Grow.cell {N:Nat} {w w':World} (g:Grow N w w') {b o:Nat} {v:Value} (h:w.cell? ⟨b,o,none⟩=some v):w'.cell? ⟨b,o,none⟩=some v:=by
 obtain ⟨ob,hb,hd⟩:=cell_block h
 have:=g.data b ob hb hd
 rw [←h]
 exact World.cell?_of_block (a:=⟨b,o,none⟩) (this.trans hb.symm)
theorem At.grow {N:Nat} {w w':World} {b o:Nat} {cs:List Value} (h:At w b o cs) (g:Grow N w w'):At w' b o cs:=⟨fun i v hv=>g.cell (h.h i v hv)⟩
theorem RowV.grow {N:Nat} {w w':World} {agg:Bool} {k:Nat} {v:Value} {xs:List Value} (h:RowV w agg k v xs) (g:Grow N w w'):RowV w' agg k v xs :=
 ⟨h.len,h.fit,h.at_.imp id fun ⟨b,o,c,hv,hl,hc⟩=>⟨b,o,c,hv,hl,fun j x hx=>(hc j x hx).grow g⟩⟩

class IsRec (w:World) (l:Nat):Prop where
 h:∃ r,w.heap[l]?=some (.loop r)
def MksP (N:Nat) (w:World):List Deferred→Prop
 | []=>True
 | d::ds=>(∃ D,d={ target:=.collected D,args:=#[] }∧N≤D∧w.heap[D]?=some (.deferred (some []))∧∀ d'∈ds,d'≠d)∧MksP N w ds
class Mks (N:Nat) (w:World) (ds:List Deferred):Prop where
 h:MksP N w ds
theorem MksP.tr {N:Nat} {w w':World}:∀ {ds:List Deferred},MksP N w ds→Tr w w'→MksP N w' ds
 | [],_,_=>trivial
 | _::_,⟨⟨D,e,hN,hD,hne⟩,h⟩,t=>⟨⟨D,e,hN,t.keep D _ hD rfl,hne⟩,h.tr t⟩
instance Mks.nil (N:Nat) (w:World):Mks N w []:=⟨trivial⟩
instance Mks.step {N:Nat} {w w':World} {ds:List Deferred} [hs:Step w w'] [h:Mks N w ds]:Mks N w' ds:=⟨h.h.tr (Ext.tr ⟨hs.b⟩)⟩
theorem Mks.tr {N:Nat} {w w':World} {ds:List Deferred} (h:Mks N w ds) (t:Tr w w'):Mks N w' ds:=⟨h.h.tr t⟩
theorem MksP.lt {N:Nat} {w:World}:∀ {ds:List Deferred},MksP N w ds→∀ d∈ds,∃ D,d={ target:=.collected D,args:=#[] }∧D<w.heap.size
 | _::_,⟨⟨D,e,_,hD,_⟩,h⟩,d,hd=>by
   rcases List.mem_cons.1 hd with rfl|hd
   ·exact ⟨D,e,(Array.getElem?_eq_some_iff.1 hD).1⟩
   ·exact h.lt d hd

structure Fr (M:World→Nat→Prop) (w w':World):Prop where
 size:w.heap.size≤w'.heap.size
 keep:∀ (k:Nat) (o:Obj),w.heap[k]?=some o→Obj.loopy o=false→¬ M w k→w'.heap[k]?=some o
 own:∀ (k:Nat),M w' k→M w k∨w.heap.size≤k
theorem Fr.trans {M:World→Nat→Prop} {a b c:World} (h:Fr M a b) (k:Fr M b c):Fr M a c :=
 ⟨Nat.le_trans h.size k.size,fun i o hi ho hm=>k.keep i o (h.keep i o hi ho hm) ho (fun hm'=>by
  rcases h.own i hm' with h1|h1
  ·exact hm h1
  ·have:=(Array.getElem?_eq_some_iff.1 hi).1;omega),
  fun i hi=>by
   rcases k.own i hi with h1|h1
   ·exact h.own i h1
   ·exact .inr (Nat.le_trans h.size h1)⟩
theorem Fr.ofGrow {M:World→Nat→Prop} {N:Nat} {w w':World} (g:Grow N w w') (hm:∀ k,M w' k→M w k∨w.heap.size≤k):Fr M w w':=⟨g.size,fun k o hk ho _=>g.data k o hk ho,hm⟩
theorem Fr.ofExt {M:World→Nat→Prop} {w w':World} (g:Ext w w') (hm:∀ k,M w' k→M w k∨w.heap.size≤k):Fr M w w':=⟨g.size,fun _ _ hk _ _=>g.block' hk,hm⟩
theorem Fr.ext {M:Nat→Prop} {w w':World} (g:Ext w w'):Fr (fun _=>M) w w':=Fr.ofExt g fun _ h=>.inl h
theorem Fr.refl (M:World→Nat→Prop) (w:World):Fr M w w:=⟨Nat.le_refl _,fun _ _ h _ _=>h,fun _ h=>.inl h⟩

def Yd (P:Program) (l:Nat) (args:List Value) (w:World) (R:Ending→World→Prop):Prop:=YieldAt Fence.wide 0 P l args.toArray w R

def IterG {α:Type} (P:Program) (gf:Nat) (lb:List Value) (xs:List α) (enc:α→List Value) (Fct:World→Prop) (G:World→World→Prop):Prop :=
 ∀ (l:Nat) (J Jx:Nat→World→Prop) (M:World→Nat→Prop) (w:World),(∀ i w w',J i w→G w w'→J i w')→(∀ i w w',Jx i w→G w w'→Jx i w')→(∀ i w,J i w→Fct w) →
  (∀ i w k,J i w→M w k→k<w.heap.size)→(∀ i w w' k,J i w→G w w'→M w' k→M w k) →
  (∀ i x w,xs[i]?=some x→J i w→Yd P l (enc x) w fun e w'=>(e=.returned (.bool true)∧J (i+1) w'∧Fr M w w')∨(e=.returned (.bool false)∧Jx (i+1) w'))→J 0 w →
  Calls P gf ([Value.func (.yield l) #[] #[]]++lb).toArray w fun e w'=>(∃ v,e=.returned v)∧(J xs.length w'∨∃ i,i≤xs.length∧Jx i w')
abbrev Iter {α:Type} (P:Program) (gf:Nat) (lb:List Value) (xs:List α) (enc:α→List Value) (Fct:World→Prop):Prop:=IterG P gf lb xs enc Fct Ext

def setPs (s:Sl):List Nat→List Value→Sl
 | p::ps,v::vs=>setPs (upd s p v) ps vs
 | _,_=>s

theorem foldl_zip (n:Nat):∀ (ps:List Nat) (vs:List Value) (s:Sl) (ds:List Deferred),
  (ps.zip vs).foldl (fun t (x:Nat×Value)=>t.setIfInBounds x.1 x.2) (mkA n s ds).tmps=(mkA n (setPs s ps vs) ds).tmps:=by
 intro ps
 induction ps with
 | nil=>intro vs s ds;simp [setPs]
 | cons p ps ih =>
   intro vs s ds
   cases vs with
   | nil=>simp [setPs]
   | cons v vs =>
     have h1:(mkA n s ds).tmps.setIfInBounds p v=(mkA n (upd s p v) ds).tmps:=congrArg Act.tmps (mkA_put n s ds (some p) v)
     simp only [List.zip_cons_cons,List.foldl_cons,h1,ih,setPs]
theorem setPs_mkA (n:Nat) (ps:List Nat) (vs:List Value) (s:Sl) (ds:List Deferred) :
  ({ tmps:=(ps.toArray.zip vs.toArray).foldl (fun t (p,v)=>t.setIfInBounds p v) (mkA n s ds).tmps,defers:=[] }:Act)=mkA n (setPs s ps vs) []:=by
 have h:=foldl_zip n ps vs s ds
 have e:(ps.toArray.zip vs.toArray).foldl (fun t (p,v)=>t.setIfInBounds p v) (mkA n s ds).tmps=(mkA n (setPs s ps vs) ds).tmps:=by
  rw [←h,←Array.foldl_toList,Array.toList_zip]
 rw [e];rfl

section
variable {P:Program} {ro:Option Nat} {n:Nat} {X:Ctx} {s:Sl} {ds:List Deferred} {w:World}

def RoOk (w:World):Option Nat→Prop
 | none=>True
 | some l=>IsRec w l

theorem MksP.trB {N B:Nat} {w w':World} (hk:∀ (k:Nat) (o:Obj),k<B→w.heap[k]?=some o→Obj.loopy o=true→w'.heap[k]?=some o):∀ {ds:List Deferred},MksP N w ds→(∀ d∈ds,∃ D,d={ target:=.collected D,args:=#[] }∧D<B)→MksP N w' ds
 | [],_,_=>trivial
 | _::_,⟨⟨D,e,hN,hD,hne⟩,h⟩,hb=>⟨⟨D,e,hN,hk D _ (by
   obtain ⟨D',e',h'⟩:=hb _ List.mem_cons_self
   rw [e] at e'
   simp only [Deferred.mk.injEq,Target.collected.injEq,and_true] at e'
   omega) hD rfl,hne⟩,h.trB hk fun d hd=>hb d (List.mem_cons_of_mem _ hd)⟩

theorem W.rangeR {α:Type} {g:Operand} {ps:List Nat} {assign body:Code} (N:Nat) (xs:List α) (enc:α→List Value) {gf:Nat} {lb:List Value} (Gs:World→World→World→Prop)
  (hg:ev n s g=.func (.func gf) #[] lb.toArray) [he:Enters P gf] (hps:∀ x,(enc x).length=ps.length) (hro:RoOk w ro) (hmk:Mks N w ds) (hN:N≤w.heap.size)
  (J:Nat→World→Prop) (Jx:Code→Nat→World→Prop) (hJ:∀ i V V',J i V→Grow w.heap.size V V'→J i V') (hJx:∀ c i V V',Jx c i V→Grow w.heap.size V V'→Jx c i V')
  (hJG:∀ V1 i V V',Ext w V1→V1.heap.size≤V.heap.size→J i V→Gs V1 V V'→J i V') (hJxG:∀ V1 c i V V',Ext w V1→V1.heap.size≤V.heap.size→Jx c i V→Gs V1 V V'→Jx c i V')
  (hGt:∀ V1 V V',Ext w V1→V1.heap.size≤V.heap.size→Gs V1 V V'→V.heap.size≤V'.heap.size∧∀ (k:Nat) (o:Obj),k<V1.heap.size→V.heap[k]?=some o→Obj.loopy o=true→V'.heap[k]?=some o)
  (h0:J 0 w) (M:World→Nat→Prop) (hW3:∀ i V V' k,J i V→Grow w.heap.size V V'→M V' k→M V k∨V.heap.size≤k)
  (hit:∀ (l:Nat) (J' Jx':Nat→World→Prop) (V1:World),Ext w V1→(∀ i V,J' i V→J i V∧V1.heap.size≤V.heap.size)→(∀ i V,Jx' i V→(∃ c,Jx c i V)∧V1.heap.size≤V.heap.size) →
   (∀ i V V',J' i V→Gs V1 V V'→J' i V')→(∀ i V V',Jx' i V→Gs V1 V V'→Jx' i V') →
   (∀ i x V,xs[i]?=some x→J' i V→Yd P l (enc x) V fun e V'=>(e=.returned (.bool true)∧J' (i+1) V'∧Fr M V V')∨(e=.returned (.bool false)∧Jx' (i+1) V'))→J' 0 V1 →
   Calls P gf ([Value.func (.yield l) #[] #[]]++lb).toArray V1 fun e w'=>(∃ v,e=.returned v)∧(J' xs.length w'∨∃ i,i≤xs.length∧Jx' i w'))
  (A:α→Sl→World→Prop) (hA:∀ x s V V',A x s V→Grow w.heap.size V V'→A x s V')
  (hassign:∀ l i x V,xs[i]?=some x→J i V→w.heap.size≤l→IsRec V l →
   W P (some l) n assign { nx:=fun s' ds' V'=>ds'=[]∧Tr V V'∧Fr M V V'∧J i V'∧A x s' V',rt:=fun _ _ _=>False,ex:=fun _ _ _ _=>False } (setPs s ps (enc x)) [] V)
  (hbody:∀ l i x s' V,xs[i]?=some x→J i V→A x s' V→w.heap.size≤l→IsRec V l →
   W P (some l) n body { nx:=fun _ _ V'=>Tr V V'∧Fr M V V'∧J (i+1) V',rt:=fun _ _ V'=>Tr V V'∧Jx .ret (i+1) V',ex:=fun id _ _ V'=>Tr V V'∧Jx (.exit id) (i+1) V' } s' [] V)
  (hdone:∀ ds' V,Mks N V ds'→Tr w V→J xs.length V→X.nx s ds' V)
  (hstop:∀ ds' c i V,Mks N V ds'→Tr w V→i≤xs.length→Jx c i V→W P ro n c X s ds' V) :
  W P ro n (.rangeFunc g ps.toArray assign body) X s ds w:=by
 unfold W at hassign hbody hstop ⊢
 refine wpIn_rangeFunc ?_
 intro fn hfn
 -- the world in which the iterator is called
 have enter:∃ (l:Nat) (mark:List Deferred) (df:Nat) (V1:World) (rec:LoopState→Option Code→Loop),(∀ st pe,(rec st pe).state=st∧(rec st pe).pending=pe∧(rec st pe).fn=fn∧(rec st pe).tmps=(mkA n s ds).tmps∧(rec st pe).params=ps.toArray∧(rec st pe).assign=assign∧(rec st pe).body=body∧(rec st pe).defers=df) ∧
   (Instr.enterLoop fn (mkA n s ds).tmps ps.toArray assign body (Fw ro).round).run P w=.ok (l,mark) V1∧V1.heap[l]?=some (.loop (rec .ready none))∧w.heap.size≤l∧Ext w V1∧MksP N V1 (mark++ds):=by
  cases ro with
  | none =>
    refine ⟨_,_,w.heap.size,_,fun st pe=>{ state:=st,pending:=pe,fn,tmps:=(mkA n s ds).tmps,params:=ps.toArray,assign,body,defers:=w.heap.size },fun st pe=>⟨rfl,rfl,rfl,rfl,rfl,rfl,rfl,rfl⟩,run_enterLoop_outer _ _ _ _ _,?_,by omega,?_,?_⟩
    ·have:=World.alloc_heap_new (w.alloc (.deferred (some []))) (.loop { state:=.ready,pending:=none,fn,tmps:=(mkA n s ds).tmps,params:=ps.toArray,assign,body,defers:=w.heap.size })
     rwa [World.size_alloc] at this
    ·exact ⟨((Below.refl _ w).alloc (Nat.le_refl _) _).alloc (by simp) _⟩
    ·have hE:Ext w ((w.alloc (.deferred (some []))).alloc (.loop { state:=.ready,pending:=none,fn,tmps:=(mkA n s ds).tmps,params:=ps.toArray,assign,body,defers:=w.heap.size })):=⟨((Below.refl _ w).alloc (Nat.le_refl _) _).alloc (by simp) _⟩
     refine ⟨⟨w.heap.size,rfl,hN,?_,fun d' hd'=>?_⟩,hmk.h.tr hE.tr⟩
     ·exact (Below.heap_alloc _ _ _ (by simp)).trans (World.alloc_heap_new w _)
     ·obtain ⟨D,rfl,hlt⟩:=hmk.h.lt d' hd'
      intro e
      simp only [Deferred.mk.injEq,Target.collected.injEq,and_true] at e
      omega
  | some l0 =>
    obtain ⟨r0,hr0⟩:=(show IsRec w l0 from hro).h
    have hE:∀ o,Ext w (w.alloc o):=fun o=>⟨(Below.refl _ w).alloc (Nat.le_refl _) _⟩
    exact ⟨_,_,r0.defers,_,fun st pe=>{ state:=st,pending:=pe,fn,tmps:=(mkA n s ds).tmps,params:=ps.toArray,assign,body,defers:=r0.defers },fun st pe=>⟨rfl,rfl,rfl,rfl,rfl,rfl,rfl,rfl⟩,run_enterLoop_inner hr0 _ _ _ _ _,World.alloc_heap_new w _,by omega,hE _,hmk.h.tr (hE _).tr⟩
 obtain ⟨l,mark,df,V1,rec,hrec,hent,hL1,hl,hE1,hM1⟩:=enter
 have hE1':w.heap.size≤V1.heap.size:=hE1.size
 have hl1:l<V1.heap.size:=(Array.getElem?_eq_some_iff.1 hL1).1
 have eN:∀ st pe st' pe',({ rec st pe with state:=st',pending:=pe' }:Loop)=rec st' pe':=fun st pe st' pe'=>by
  obtain ⟨a1,a2,a3,a4,a5,a6,a7,a8⟩:=hrec st pe
  obtain ⟨b1,b2,b3,b4,b5,b6,b7,b8⟩:=hrec st' pe'
  generalize hx:rec st' pe'=y at *
  generalize hy:rec st pe=x at *
  cases x;cases y
  simp_all
 refine ⟨l,mark,V1,{ target:=.fn (.func gf) lb.toArray,args:=#[.func (.yield l) #[] #[]] },V1,gf,([Value.func (.yield l) #[] #[]]++lb).toArray,V1,hent,?_,fun _ _=>trivial,?_,fun h=>by simp [Fw,Fence.wide] at h,?_⟩
 ·simp only [resolve,mkA_eval,hg]
  simp [Deferred.ofValue,ev]
 ·have e:(#[Value.func (.yield l) #[] #[]]++lb.toArray:Array Value)=([Value.func (.yield l) #[] #[]]++lb).toArray:=by simp
  simp only [invoke]
  rw [e]
  exact he.h _ _
 have hcalls:=hit l (fun i V=>J i V∧V.heap[l]?=some (.loop (rec .ready none))∧MksP N V (mark++ds)∧Tr V1 V)
   (fun i V=>∃ c,Jx c i V∧V.heap[l]?=some (.loop (rec .done (some c)))∧MksP N V (mark++ds)∧V1.heap.size≤V.heap.size∧∀ k,k≠l→∀ o,V1.heap[k]?=some o→Obj.loopy o=true→V.heap[k]?=some o) V1 hE1
   (fun i V h=>⟨h.1,h.2.2.2.size⟩) (fun i V h=>by obtain ⟨c,h1,_,_,h5,_⟩:=h;exact ⟨⟨c,h1⟩,h5⟩)
   (fun i V V' h g=>by
    have hs:V1.heap.size≤V.heap.size:=h.2.2.2.size
    obtain ⟨t1,t2⟩:=hGt V1 V V' hE1 hs g
    exact ⟨hJG V1 i V V' hE1 hs h.1 g,t2 l _ hl1 h.2.1 rfl,h.2.2.1.trB t2 hM1.lt,⟨Nat.le_trans hs t1,fun k o hk ho=>t2 k o (Array.getElem?_eq_some_iff.1 hk).1 (h.2.2.2.keep k o hk ho) ho⟩⟩)
   (fun i V V' h g=>by
    obtain ⟨c,h1,h2,h3,h5,h4⟩:=h
    obtain ⟨t1,t2⟩:=hGt V1 V V' hE1 h5 g
    exact ⟨c,hJxG V1 c i V V' hE1 h5 h1 g,t2 l _ hl1 h2 rfl,h3.trB t2 hM1.lt,Nat.le_trans h5 t1,fun k hk o ho hlo=>t2 k o (Array.getElem?_eq_some_iff.1 ho).1 (h4 k hk o ho hlo) hlo⟩)
   ?round ⟨hJ 0 _ _ h0 (hE1.grow (Nat.le_refl _)),hL1,hM1,Tr.refl _⟩
 case round =>
  rintro i x V hx ⟨hj,hL,hM,hT⟩
  obtain ⟨c1,c2,c3,c4,c5,c6,c7,c8⟩:=hrec .ready none
  have hy:=run_yield (P:=P) (args:=(enc x).toArray) hL (by rw [c5];simpa using hps x)
  rw [c3,c4,c5,c6,c7] at hy
  have hNl:N≤l:=by omega
  -- the record's own turns
  have turn:∀ (V:World) (st st':LoopState) (pe pe':Option Code),V.heap[l]?=some (.loop (rec st pe))→Grow w.heap.size V (V.putObj l (.loop (rec st' pe')))∧(V.putObj l (.loop (rec st' pe'))).heap[l]?=some (.loop (rec st' pe')) ∧
    (∀ k,k≠l→(V.putObj l (.loop (rec st' pe'))).heap[k]?=V.heap[k]?):=fun V st st' pe pe' h =>
   ⟨Grow.putObj _ h rfl hl,World.putObj_heap_same (Array.getElem?_eq_some_iff.1 h).1,fun k hk=>World.putObj_heap_other hk⟩
  have mks:∀ (V:World) (o':Loop),(∃ r,V.heap[l]?=some (.loop r))→∀ (dds:List Deferred),MksP N V dds→MksP N (V.putObj l (.loop o')) dds:=by
   intro V o' hW dds
   induction dds with
   | nil=>exact fun _=>trivial
   | cons d dds ih =>
     rintro ⟨⟨D,e,hD,hb,hne⟩,h⟩
     refine ⟨⟨D,e,hD,?_,hne⟩,ih h⟩
     have:D≠l:=by
      rintro rfl
      obtain ⟨r,hr⟩:=hW
      rw [hb] at hr;cases hr
     exact (World.putObj_heap_other this).trans hb
  refine ⟨fn,_,assign,body,hy,?_⟩
  have hround:RoundIn (Fw none) 0 P l fn ((ps.toArray.zip (enc x).toArray).foldl (fun t (p,v)=>t.setIfInBounds p v) (mkA n s ds).tmps) assign body V
    (fun e w'=>(e=.returned (.bool true)∧(J (i+1) w'∧w'.heap[l]?=some (.loop (rec .ready none))∧MksP N w' (mark++ds)∧Tr V1 w')∧Fr M V w') ∨
     (e=.returned (.bool false)∧∃ c,Jx c (i+1) w'∧w'.heap[l]?=some (.loop (rec .done (some c)))∧MksP N w' (mark++ds)∧V1.heap.size≤w'.heap.size∧∀ k,k≠l→∀ o,V1.heap[k]?=some o→Obj.loopy o=true→w'.heap[k]?=some o)):=by
   refine roundIn_of_wpIn trivial ?_
   have hact:=setPs_mkA n ps (enc x) s ds
   rw [hact]
   refine wpIn_mono (hassign l i x V hx hj hl ⟨_,hL⟩) fun e a w1 hp=>?_
   cases e with
   | ret=>obtain ⟨_,_,_,h⟩:=hp;exact h.elim
   | exit i=>obtain ⟨_,_,_,h⟩:=hp;exact h.elim
   | goto l=>exact hp.elim
   | panic c=>exact hp.elim
   | outgrown=>exact hp.elim
   | normal =>
     obtain ⟨s',ds',rfl,rfl,ht1,hf1,hj1,hA1⟩:=hp
     have hLw1:=ht1.keep l _ hL rfl
     have hb:=run_beginRound (P:=P) hLw1 c1
     have hb':({ rec .ready none with state:=.busy }:Loop)=rec .busy none:=by
      have:=eN .ready none .busy none
      rw [←this];simp [c2]
     rw [hb'] at hb
     obtain ⟨g2,hL2,ho2⟩:=turn w1 .ready .busy none none hLw1
     refine ⟨_,hb,?_⟩
     have hM2:=mks w1 (rec .busy none) ⟨_,hLw1⟩ _ (hM.tr ht1)
     refine wpIn_mono (hbody l i x s' _ hx (hJ _ _ _ hj1 g2) (hA _ _ _ _ hA1 g2) hl ⟨_,hL2⟩) fun e a w3 hp=>?_
     have fin:∀ (jump:Option Code),Tr (w1.putObj l (.loop (rec .busy none))) w3 →
       (Instr.endRound l jump).run P w3=.ok (.bool jump.isNone) (w3.putObj l (.loop (rec (if jump.isNone then .ready else .done) jump))) ∧
       Grow w.heap.size w3 (w3.putObj l (.loop (rec (if jump.isNone then .ready else .done) jump))) ∧
       (w3.putObj l (.loop (rec (if jump.isNone then .ready else .done) jump))).heap[l]?=some (.loop (rec (if jump.isNone then .ready else .done) jump)) ∧
       MksP N (w3.putObj l (.loop (rec (if jump.isNone then .ready else .done) jump))) (mark++ds) ∧
       (∀ k,k≠l→∀ o,V1.heap[k]?=some o→Obj.loopy o=true→(w3.putObj l (.loop (rec (if jump.isNone then .ready else .done) jump))).heap[k]?=some o):=fun jump ht3=>by
      have hL3:=ht3.keep l _ hL2 rfl
      have hr:=run_endRound (P:=P) jump hL3
      rw [eN] at hr
      obtain ⟨g4,hL4,ho4⟩:=turn w3 .busy (if jump.isNone then .ready else .done) none jump hL3
      refine ⟨hr,g4,hL4,mks _ _ ⟨_,hL3⟩ _ (hM2.tr ht3),fun k hk o ho hlo=>?_⟩
      rw [ho4 k hk]
      refine ht3.keep k o ?_ hlo
      rw [ho2 k hk]
      exact ht1.keep k o (hT.keep k o ho hlo) hlo
     cases e with
     | normal =>
       obtain ⟨_,_,_,ht3,hf3,hj3⟩:=hp
       obtain ⟨hr,g4,hL4,hM4,ho4⟩:=fin none ht3
       refine ⟨_,_,hr,.inl ⟨rfl,⟨hJ _ _ _ hj3 g4,hL4,hM4,⟨?_,fun k o ho hlo=>?_⟩⟩,hf1.trans ((Fr.ofGrow g2 fun k=>hW3 i _ _ k hj1 g2).trans (hf3.trans (Fr.ofGrow g4 fun k=>hW3 (i+1) _ _ k hj3 g4)))⟩⟩
       ·exact Nat.le_trans hT.size (Nat.le_trans ht1.size (Nat.le_trans g2.size (Nat.le_trans ht3.size g4.size)))
       ·by_cases e:k=l
        ·subst e
         rw [hL1] at ho;cases ho
         exact hL4
        ·exact ho4 k e o ho hlo
     | ret =>
       obtain ⟨_,_,_,ht3,hj3⟩:=hp
       obtain ⟨hr,g4,hL4,hM4,ho4⟩:=fin (some .ret) ht3
       exact ⟨_,_,hr,.inr ⟨rfl,.ret,hJx _ _ _ _ hj3 g4,hL4,hM4,Nat.le_trans hT.size (Nat.le_trans ht1.size (Nat.le_trans g2.size (Nat.le_trans ht3.size g4.size))),ho4⟩⟩
     | exit id =>
       obtain ⟨_,_,_,ht3,hj3⟩:=hp
       obtain ⟨hr,g4,hL4,hM4,ho4⟩:=fin (some (.exit id)) ht3
       exact ⟨_,_,hr,.inr ⟨rfl,.exit id,hJx _ _ _ _ hj3 g4,hL4,hM4,Nat.le_trans hT.size (Nat.le_trans ht1.size (Nat.le_trans g2.size (Nat.le_trans ht3.size g4.size))),ho4⟩⟩
     | goto l=>exact hp.elim
     | panic c=>exact hp.elim
     | outgrown=>exact hp.elim
  exact hround
 have hc:=(callsIn_wide (n:=0)).2 hcalls
 refine CallsIn.mono (F:=Fw ro) (n:=0-1) hc fun e V2 hR=>?_
 obtain ⟨⟨v,rfl⟩,hR⟩:=hR
 have trw:∀ (o:Loop) (V2:World),V1.heap.size≤V2.heap.size→(∀ k,k≠l→∀ o,V1.heap[k]?=some o→Obj.loopy o=true→V2.heap[k]?=some o)→Tr w (V2.putObj l (.loop o)):=fun o V2 hsz h4 =>
  ⟨by simp;omega,fun k ob hk hlo=>by
   have hkw:k<w.heap.size:=(Array.getElem?_eq_some_iff.1 hk).1
   have:k≠l:=by omega
   rw [World.putObj_heap_other this]
   exact h4 k this ob (hE1.block' hk) hlo⟩
 have mks2:∀ (V:World) (o':Loop),(∃ r,V.heap[l]?=some (.loop r))→∀ (dds:List Deferred),MksP N V dds→MksP N (V.putObj l (.loop o')) dds:=by
  intro V o' hW dds
  induction dds with
  | nil=>exact fun _=>trivial
  | cons d dds ih =>
    rintro ⟨⟨D,e,hD,hb,hne⟩,h⟩
    refine ⟨⟨D,e,hD,?_,hne⟩,ih h⟩
    have:D≠l:=by
     rintro rfl
     obtain ⟨r,hr⟩:=hW
     rw [hb] at hr;cases hr
    exact (World.putObj_heap_other this).trans hb
 rcases hR with ⟨hj,hL,hM,hT⟩|⟨i,hi,c,hj,hL,hM,hsz,hT⟩
 ·have hr:=run_endLoop (P:=P) hL (by rw [(hrec .ready none).1];simp)
  rw [(hrec .ready none).2.1] at hr
  refine ⟨none,_,hr,?_⟩
  have g:∀ o':Loop,Grow w.heap.size V2 (V2.putObj l (.loop o')):=fun o'=>Grow.putObj _ hL rfl hl
  exact ⟨s,_,rfl,hdone _ _ ⟨mks2 _ _ ⟨_,hL⟩ _ hM⟩ (trw _ _ hT.size (fun k _ o ho hlo=>hT.keep k o ho hlo)) (hJ _ _ _ hj (g _))⟩
 ·have hr:=run_endLoop (P:=P) hL (by rw [(hrec .done (some c)).1];simp)
  rw [(hrec .done (some c)).2.1] at hr
  refine ⟨some c,_,hr,?_⟩
  have g:∀ o':Loop,Grow w.heap.size V2 (V2.putObj l (.loop o')):=fun o'=>Grow.putObj _ hL rfl hl
  exact hstop _ c i _ ⟨mks2 _ _ ⟨_,hL⟩ _ hM⟩ (trw _ _ hsz hT) hi (hJx _ _ _ _ hj (g _))

theorem W.rangeG {α:Type} {g:Operand} {ps:List Nat} {assign body:Code} (N:Nat) (xs:List α) (enc:α→List Value) {Fct:World→Prop} {G:World→World→Prop} {gf:Nat} {lb:List Value}
  (hg:ev n s g=.func (.func gf) #[] lb.toArray) [he:Enters P gf] (hit:IterG P gf lb xs enc Fct G) (hps:∀ x,(enc x).length=ps.length) (hro:RoOk w ro) (hmk:Mks N w ds) (hN:N≤w.heap.size)
  (J:Nat→World→Prop) (Jx:Code→Nat→World→Prop) (hJ:∀ i V V',J i V→Grow w.heap.size V V'→J i V') (hJx:∀ c i V V',Jx c i V→Grow w.heap.size V V'→Jx c i V')
  (hJG:∀ i V V',w.heap.size≤V.heap.size→J i V→G V V'→J i V') (hJxG:∀ c i V V',w.heap.size≤V.heap.size→Jx c i V→G V V'→Jx c i V') (hGt:∀ V V',w.heap.size≤V.heap.size→G V V'→Tr V V')
  (hF:∀ i V,J i V→Fct V) (h0:J 0 w) (M:World→Nat→Prop) (hW1:∀ i V k,J i V→M V k→k<V.heap.size) (hW2:∀ i V V' k,w.heap.size≤V.heap.size→J i V→G V V'→M V' k→M V k) (hW3:∀ V V' k,Grow w.heap.size V V'→M V' k→M V k∨V.heap.size≤k)
  (A:α→Sl→World→Prop) (hA:∀ x s V V',A x s V→Grow w.heap.size V V'→A x s V')
  (hassign:∀ l i x V,xs[i]?=some x→J i V→w.heap.size≤l→IsRec V l →
   W P (some l) n assign { nx:=fun s' ds' V'=>ds'=[]∧Tr V V'∧Fr M V V'∧J i V'∧A x s' V',rt:=fun _ _ _=>False,ex:=fun _ _ _ _=>False } (setPs s ps (enc x)) [] V)
  (hbody:∀ l i x s' V,xs[i]?=some x→J i V→A x s' V→w.heap.size≤l→IsRec V l →
   W P (some l) n body { nx:=fun _ _ V'=>Tr V V'∧Fr M V V'∧J (i+1) V',rt:=fun _ _ V'=>Tr V V'∧Jx .ret (i+1) V',ex:=fun id _ _ V'=>Tr V V'∧Jx (.exit id) (i+1) V' } s' [] V)
  (hdone:∀ ds' V,Mks N V ds'→Tr w V→J xs.length V→X.nx s ds' V)
  (hstop:∀ ds' c i V,Mks N V ds'→Tr w V→i≤xs.length→Jx c i V→W P ro n c X s ds' V) :
  W P ro n (.rangeFunc g ps.toArray assign body) X s ds w :=
 W.rangeR N xs enc (fun _=>G) hg hps hro hmk hN J Jx hJ hJx (fun V1 i V V' hE hs h e=>hJG i V V' (Nat.le_trans hE.size hs) h e) (fun V1 c i V V' hE hs h e=>hJxG c i V V' (Nat.le_trans hE.size hs) h e)
  (fun V1 V V' hE hs e=>let t:=hGt V V' (Nat.le_trans hE.size hs) e;⟨t.size,fun k o _ hk ho=>t.keep k o hk ho⟩) h0 M (fun _ V V' k _ e h=>hW3 V V' k e h)
  (fun l J' Jx' V1 hE h1 h2 h3 h4 hY h0'=>hit l J' Jx' M V1 h3 h4 (fun i V h=>hF i V (h1 i V h).1) (fun i V k h=>hW1 i V k (h1 i V h).1) (fun i V V' k h e=>hW2 i V V' k (Nat.le_trans hE.size (h1 i V h).2) (h1 i V h).1 e) hY h0')
  A hA hassign hbody hdone hstop

theorem W.range {α:Type} {g:Operand} {ps:List Nat} {assign body:Code} (N:Nat) (xs:List α) (enc:α→List Value) {Fct:World→Prop} {gf:Nat} {lb:List Value}
  (hit:Iter P gf lb xs enc Fct) (hg:ev n s g=.func (.func gf) #[] lb.toArray) [he:Enters P gf] (hps:∀ x,(enc x).length=ps.length) (hro:RoOk w ro) (hmk:Mks N w ds) (hN:N≤w.heap.size)
  (J:Nat→World→Prop) (Jx:Code→Nat→World→Prop) (hJ:∀ i V V',J i V→Grow w.heap.size V V'→J i V') (hJx:∀ c i V V',Jx c i V→Grow w.heap.size V V'→Jx c i V')
  (hF:∀ i V,J i V→w.heap.size≤V.heap.size∧Fct V) (h0:J 0 w)
  (A:α→Sl→World→Prop) (hA:∀ x s V V',A x s V→Grow w.heap.size V V'→A x s V')
  (hassign:∀ l i x V,xs[i]?=some x→J i V→w.heap.size≤l→IsRec V l →
   W P (some l) n assign { nx:=fun s' ds' V'=>ds'=[]∧Tr V V'∧Fr (fun _ k=>k<w.heap.size) V V'∧J i V'∧A x s' V',rt:=fun _ _ _=>False,ex:=fun _ _ _ _=>False } (setPs s ps (enc x)) [] V)
  (hbody:∀ l i x s' V,xs[i]?=some x→J i V→A x s' V→w.heap.size≤l→IsRec V l →
   W P (some l) n body { nx:=fun _ _ V'=>Tr V V'∧Fr (fun _ k=>k<w.heap.size) V V'∧J (i+1) V',rt:=fun _ _ V'=>Tr V V'∧Jx .ret (i+1) V',ex:=fun id _ _ V'=>Tr V V'∧Jx (.exit id) (i+1) V' } s' [] V)
  (hdone:∀ ds' V,Mks N V ds'→Tr w V→J xs.length V→X.nx s ds' V)
  (hstop:∀ ds' c i V,Mks N V ds'→Tr w V→i≤xs.length→Jx c i V→W P ro n c X s ds' V) :
  W P ro n (.rangeFunc g ps.toArray assign body) X s ds w :=
 W.rangeG N xs enc hg hit hps hro hmk hN J Jx hJ hJx (fun i V V' hs h e=>hJ i V V' h (e.grow hs)) (fun c i V V' hs h e=>hJx c i V V' h (e.grow hs)) (fun V V' _ e=>e.tr) (fun i V h=>(hF i V h).2) h0
  (fun _ k=>k<w.heap.size) (fun i V k h hk=>Nat.lt_of_lt_of_le hk (hF i V h).1) (fun _ _ _ _ _ _ _ h=>h) (fun _ _ _ _ h=>.inl h) A hA hassign hbody hdone hstop
theorem W.rangeM {α:Type} {g:Operand} {ps:List Nat} {assign body:Code} (N:Nat) (xs:List α) (enc:α→List Value) {Fct:World→Prop} {gf:Nat} {lb:List Value}
  (hit:Iter P gf lb xs enc Fct) (hg:ev n s g=.func (.func gf) #[] lb.toArray) [he:Enters P gf] (hps:∀ x,(enc x).length=ps.length) (hro:RoOk w ro) (hmk:Mks N w ds) (hN:N≤w.heap.size)
  (J:Nat→World→Prop) (Jx:Code→Nat→World→Prop) (hJ:∀ i V V',J i V→Grow w.heap.size V V'→J i V') (hJx:∀ c i V V',Jx c i V→Grow w.heap.size V V'→Jx c i V')
  (hF:∀ i V,J i V→Fct V) (h0:J 0 w) (M:World→Nat→Prop) (hW1:∀ i V k,J i V→M V k→k<V.heap.size) (hW2:∀ i V V' k,J i V→Grow w.heap.size V V'→M V' k→M V k) (hW3:∀ V V' k,Grow w.heap.size V V'→M V' k→M V k∨V.heap.size≤k)
  (A:α→Sl→World→Prop) (hA:∀ x s V V',A x s V→Grow w.heap.size V V'→A x s V')
  (hassign:∀ l i x V,xs[i]?=some x→J i V→w.heap.size≤l→IsRec V l →
   W P (some l) n assign { nx:=fun s' ds' V'=>ds'=[]∧Tr V V'∧Fr M V V'∧J i V'∧A x s' V',rt:=fun _ _ _=>False,ex:=fun _ _ _ _=>False } (setPs s ps (enc x)) [] V)
  (hbody:∀ l i x s' V,xs[i]?=some x→J i V→A x s' V→w.heap.size≤l→IsRec V l →
   W P (some l) n body { nx:=fun _ _ V'=>Tr V V'∧Fr M V V'∧J (i+1) V',rt:=fun _ _ V'=>Tr V V'∧Jx .ret (i+1) V',ex:=fun id _ _ V'=>Tr V V'∧Jx (.exit id) (i+1) V' } s' [] V)
  (hdone:∀ ds' V,Mks N V ds'→Tr w V→J xs.length V→X.nx s ds' V)
  (hstop:∀ ds' c i V,Mks N V ds'→Tr w V→i≤xs.length→Jx c i V→W P ro n c X s ds' V) :
  W P ro n (.rangeFunc g ps.toArray assign body) X s ds w :=
 W.rangeG N xs enc hg hit hps hro hmk hN J Jx hJ hJx (fun i V V' hs h e=>hJ i V V' h (e.grow hs)) (fun c i V V' hs h e=>hJx c i V V' h (e.grow hs)) (fun V V' _ e=>e.tr) hF h0
  M hW1 (fun i V V' k hs h e=>hW2 i V V' k h (e.grow hs)) hW3 A hA hassign hbody hdone hstop
end

theorem leaves_marks {P:Program} {fn:Func} {tmps:Array Value} {N:Nat} {R:Ending→World→Prop}:∀ (ds:List Deferred) (w:World),MksP N w ds →
  (∀ w',Grow N w w'→∃ v,(results fn tmps).run P w'=.ok v w'∧R (.returned v) w')→LeavesInM Fence.wide 0 P fn tmps R ds .returning w:=by
 intro ds
 induction ds with
 | nil=>intro w _ h;exact h w (Grow.refl N w)
 | cons d ds ih =>
   rintro w ⟨⟨D,rfl,hD,hb,hne⟩,hm⟩ h
   refine ⟨by simp,.inl ⟨D,_,rfl,run_takeDeferred hb,ih _ ?_ fun w' g=>h w' ((Grow.putObj _ hb rfl hD).trans g)⟩⟩
   have:∀ (dds:List Deferred),(∀ d'∈dds,d'≠{ target:=.collected D,args:=#[] })→MksP N w dds→MksP N (w.putObj D (.deferred none)) dds:=by
    intro dds
    induction dds with
    | nil=>exact fun _ _=>trivial
    | cons d dds ih2 =>
      rintro hn ⟨⟨D2,rfl,hD2,hb2,hne2⟩,h2⟩
      refine ⟨⟨D2,rfl,hD2,?_,hne2⟩,ih2 (fun d' hd'=>hn d' (List.mem_cons_of_mem _ hd')) h2⟩
      have:D2≠D:=by
       rintro rfl
       exact hn _ (List.mem_cons_self) rfl
      exact (World.putObj_heap_other this).trans hb2
   exact this ds hne hm

def finM (P:Program) (fn:Func) (n N:Nat) (R:Value→World→Prop):Kont:=fun s ds w =>
 Mks N w ds∧∀ w',Grow N w w'→∃ v,(results fn (mkA n s []).tmps).run P w'=.ok v w'∧R v w'

theorem Calls.ofWM {P:Program} {f n:Nat} {fn:Func} {c:Code} [hi:FnI P f fn c n] {args:List Value} {w:World} {R:Ending→World→Prop} (hl:args.length≤n)
  (h:W P none n c { nx:=finM P fn n w.heap.size (fun v=>R (.returned v)),rt:=finM P fn n w.heap.size (fun v=>R (.returned v)),ex:=fun _ _ _ _=>False } (fun i=>args.getD i undef) [] w) :
  Calls P f args.toArray w R:=by
 unfold W at h
 refine (callsIn_wide (n:=0)).1 (callsIn_of_wp_marks hi.hf hi.hb trivial ?_)
 rw [hi.hn,List.size_toArray,mkA_init n args hl]
 refine wpIn_mono h fun e a w' hp=>?_
 cases e with
 | normal=>obtain ⟨s,ds,rfl,hm,hR⟩:=hp;exact leaves_marks _ _ hm.h hR
 | ret=>obtain ⟨s,ds,rfl,hm,hR⟩:=hp;exact leaves_marks _ _ hm.h hR
 | exit i=>obtain ⟨s,ds,rfl,h⟩:=hp;exact h.elim
 | goto l=>exact hp.elim
 | panic c=>exact hp.elim
 | outgrown=>exact hp.elim

theorem Ct.ofWM {P:Program} {f n:Nat} {fn:Func} {c:Code} [hi:FnI P f fn c n] {args:List Value} {w:World} {R:Value→World→Prop} (hl:args.length≤n)
  (h:W P none n c { nx:=finM P fn n w.heap.size (fun v w'=>Ext w w'∧R v w'),rt:=finM P fn n w.heap.size (fun v w'=>Ext w w'∧R v w'),ex:=fun _ _ _ _=>False } (fun i=>args.getD i undef) [] w) :
  Ct P f args w R:=by
 unfold Ct
 refine Calls.ofWM hl (W.mono h ?_ ?_ (fun _ _ _ _ h=>h))<;>exact fun _ _ _ ⟨hm,hR⟩=>⟨hm,fun w' g=>let ⟨v,hr,hR⟩:=hR w' g;⟨v,hr,v,rfl,hR⟩⟩

theorem run_results1 {P:Program} {fn:Func} {n t:Nat} {s:Sl} {w:World} (hf:fn.results=#[.tmp t]) (ht:Nat.blt t n=true):(results fn (mkA n s []).tmps).run P w=.ok (s t) w:=by
 have:(mkA n s []).tmps[t]?.getD undef=s t:=by
  rw [mkA_getElem?,if_pos (by simpa using ht)];rfl
 simp [results,hf,this]
theorem run_results2 {P:Program} {fn:Func} {n t u:Nat} {s:Sl} {w:World} (hf:fn.results=#[.tmp t,.tmp u]) (ht:Nat.blt t n=true) (hu:Nat.blt u n=true):(results fn (mkA n s []).tmps).run P w=.ok (.tuple #[s t,s u]) w:=by
 have e1:(mkA n s []).tmps[t]?.getD undef=s t:=by
  rw [mkA_getElem?,if_pos (by simpa using ht)];rfl
 have e2:(mkA n s []).tmps[u]?.getD undef=s u:=by
  rw [mkA_getElem?,if_pos (by simpa using hu)];rfl
 simp [results,hf,e1,e2]
theorem fin1M {P:Program} {fn:Func} {n N t:Nat} {R:Value→World→Prop} {s:Sl} {ds:List Deferred} {w:World} (hf:fn.results=#[.tmp t]) (ht:Nat.blt t n=true) (hm:Mks N w ds) (h:∀ w',Grow N w w'→R (s t) w'):finM P fn n N R s ds w :=
 ⟨hm,fun w' g=>⟨_,run_results1 hf ht,h w' g⟩⟩
theorem fin2M {P:Program} {fn:Func} {n N t u:Nat} {R:Value→World→Prop} {s:Sl} {ds:List Deferred} {w:World} (hf:fn.results=#[.tmp t,.tmp u]) (ht:Nat.blt t n=true) (hu:Nat.blt u n=true) (hm:Mks N w ds) (h:∀ w',Grow N w w'→R (.tuple #[s t,s u]) w'):finM P fn n N R s ds w :=
 ⟨hm,fun w' g=>⟨_,run_results2 hf ht hu,h w' g⟩⟩

theorem Ops.yield {P:Program} {ro:Option Nat} {n:Nat} {all rest:List Oper} {K:Sl→World→Prop} {s:Sl} {w:World} {d ty:Nat} {pos:String} {af:Array Edge} {args:Array Operand} {at_:Array Nat} {fv:Operand} {l:Nat} {vs:List Value} {R:Ending→World→Prop}
  (hy:Yd P l vs w R) (hf:ev n s fv=.func (.yield l) #[] #[]) (ha:args.toList.map (ev n s)=vs) (hk:∀ e w',R e w'→∃ v,e=.returned v∧Ops P ro n all rest K (upd s d v) w') :
  Ops P ro n all (⟨some d,.call { callee:=.value fv,args:=args,argTypes:=at_ },ty,pos,af,none⟩::rest) K s w:=by
 refine Ops.step rfl ?_
 unfold OpW
 intro ds
 obtain ⟨fn,tmps,assign,body,hr,hround⟩:=hy
 refine ⟨fun _ _=>trivial,?_⟩
 subst ha
 have e:args.map (ev n s)=(args.toList.map (ev n s)).toArray:=by apply Array.ext';simp
 have hrun:(execOp (ev n s) (⟨some d,.call { callee:=.value fv,args:=args,argTypes:=at_ },ty,pos,af,none⟩:Oper)).run P w=.ok (.round l fn tmps assign body) w:=by
  simp only [execOp,resolve,hf,Deferred.ofValue,Sem.run_bind,Sem.run_pure,Result.andThen,invoke]
  rw [e,←hr]
  simp
 rw [mkA_eval,show (Fw ro).round=ro from rfl,OpW.semAt rfl,hrun]
 refine ⟨fun h=>by simp [Fw,Fence.wide] at h,?_⟩
 have hround':RoundIn (Fw ro) (0-1) P l fn tmps assign body w R:=hround
 refine hround'.mono fun e w' hR=>?_
 obtain ⟨v,rfl,hk⟩:=hk e w' hR
 exact ⟨v,rfl,hk⟩
attribute [irreducible] finM

class Bk (w:World) (b:Nat) (cs:outParam (List Value)) (e:outParam Nat):Prop where
 h:w.heap[b]?=some (.cells cs.toArray e (0,0))
theorem Bk.of {w:World} {b e:Nat} {cs:List Value} (h:w.heap[b]?=some (.cells cs.toArray e (0,0))):Bk w b cs e:=⟨h⟩
theorem Bk.ext {w w':World} {b e:Nat} {cs:List Value} (h:Bk w b cs e) (hs:Ext w w'):Bk w' b cs e:=⟨hs.block' h.h⟩
theorem Bk.grow {N:Nat} {w w':World} {b e:Nat} {cs:List Value} (h:Bk w b cs e) (g:Grow N w w'):Bk w' b cs e:=⟨g.data _ _ h.h rfl⟩
instance Bk.step {w w':World} {b e:Nat} {cs:List Value} [hs:Step w w'] [h:Bk w b cs e]:Bk w' b cs e:=h.ext ⟨hs.b⟩
instance Bk.toAt {w:World} {b e:Nat} {cs:List Value} [h:Bk w b cs e]:At w b 0 cs:=At.ofBlock h.h
theorem Bk.lt {w:World} {b e:Nat} {cs:List Value} (h:Bk w b cs e):b<w.heap.size:=(Array.getElem?_eq_some_iff.1 h.h).1

structure PutO (w w':World) (b:Nat) (o:Obj):Prop where
 os:w'.os=w.os
 tape:w'.tape=w.tape
 output:w'.output=w.output
 size:w'.heap.size=w.heap.size
 new:w'.heap[b]?=some o
 other:∀ k,k≠b→w'.heap[k]?=w.heap[k]?
theorem PutO.ext {w0 w w':World} {b:Nat} {o:Obj} (p:PutO w w' b o) (h:Ext w0 w) (hb:w0.heap.size≤b):Ext w0 w' :=
 ⟨⟨p.os.trans h.b.os,p.tape.trans h.b.tape,p.output.trans h.b.output,by rw [p.size];exact h.size,fun k hk=>(p.other k (by omega)).trans (h.block hk)⟩⟩
theorem PutO.tr {w w':World} {b:Nat} {o:Obj} (p:PutO w w' b o) (hb:∃ o',w.heap[b]?=some o'∧Obj.loopy o'=false):Tr w w' :=
 ⟨by rw [p.size];exact Nat.le_refl _,fun k ob hk hl=>by
  by_cases e:k=b
  ·subst e;obtain ⟨o',h1,h2⟩:=hb;rw [h1] at hk;cases hk;rw [h2] at hl;cases hl
  ·exact (p.other k e).trans hk⟩
theorem PutO.bk {w w':World} {b c e:Nat} {o:Obj} {cs:List Value} (p:PutO w w' b o) (h:Bk w c cs e) (hne:c≠b):Bk w' c cs e:=⟨(p.other c hne).trans h.h⟩
theorem PutO.at_ {w w':World} {b c o':Nat} {o:Obj} {cs:List Value} (p:PutO w w' b o) (h:At w c o' cs) (hne:c≠b):At w' c o' cs :=
 ⟨fun i v hv=>by rw [←h.h i v hv];exact World.cell?_of_block (a:=⟨c,o'+i,none⟩) (p.other c hne)⟩
theorem PutO.row {w w':World} {b:Nat} {o:Obj} {agg:Bool} {k:Nat} {v:Value} {xs:List Value} (p:PutO w w' b o) (h:RowV w agg k v xs) (hne:v.ownBlock≠some b):RowV w' agg k v xs :=
 ⟨h.len,h.fit,h.at_.imp id fun ⟨b',o',c,hv,hl,hc⟩=>⟨b',o',c,hv,hl,fun j x hx=>p.at_ (hc j x hx) (by subst hv;simpa [Value.ownBlock] using hne)⟩⟩

theorem putO_setRow {w:World} {b e:Nat} {cs cs':List Value} (h:Bk w b cs e):PutO w (w.setRow b cs'.toArray) b (.cells cs'.toArray e (0,0)) :=
 ⟨rfl,rfl,rfl,by simp [World.setRow],setRow_heap w b _ _ _ _ h.h,fun k hk=>setRow_other w b k _ hk⟩

section rules
variable {P:Program} {ro:Option Nat} {n:Nat} {all rest:List Oper} {K:Sl→World→Prop} {s:Sl} {w:World} {d:Nat} {ty:Nat} {pos:String} {af:Array Edge}
variable {x y:Operand} {t:Nat} {b o:Nat} {cs:List Value}

theorem run_storeVar_at {v z:Value} {e size bytes:Nat} (hb:Bk w b cs e) (hz:TS P t z size bytes) (hsz:v.cells.size=size) (hfit:o+size≤cs.length) (h1:v.cells.toList.all (·.oneCell')=true) :
  (storeVar t ⟨b,o,none⟩ v).run P w=.ok () (w.setRow b (cs.take o++v.cells.toList++cs.drop (o+size)).toArray):=by
 have:=run_storeCells_at P b o e v.cells.toList 0 cs.toArray w hb.h (by simp;omega) (fun u hu=>(List.all_eq_true.1 h1) u (by simpa using hu))
 simp only [Nat.add_zero,Array.length_toList,hsz] at this
 simp only [storeVar,Sem.run_bind,run_sizeOf' w hz,Result.andThen,hsz,ne_eq,not_true_eq_false,if_false]
 simpa using this

theorem Ops.store {v z:Value} {e size bytes:Nat} (hx:ev n s x=.pointer (some ⟨b,o,none⟩)) (hy:ev n s y=v) [hb:Bk w b cs e] [hz:TS P t z size bytes] (hsz:v.cells.size=size) (hfit:Nat.ble (o+size) cs.length=true) (h1:v.cells.toList.all (·.oneCell')=true)
  (h:∀ w',PutO w w' b (.cells (cs.take o++v.cells.toList++cs.drop (o+size)).toArray e (0,0))→Ops P ro n all rest K s w'):Ops P ro n all (⟨none,.store t x y,ty,pos,af,none⟩::rest) K s w:=by
 have hr:=run_storeVar_at hb hz hsz (by simpa using hfit) h1
 exact Ops.ofRunU rfl (by simp [execOp,hx,hy,Instr.storeAt,Instr.sureAddr,hr]) (h _ (putO_setRow hb))

theorem jjY {z:Value} {size bytes:Nat} [hz:TS P t z size bytes] (h:∀ b w',b=w.heap.size→w'.heap.size=w.heap.size+1→Step w w'→w'.heap[b]?=some (.cells z.cells t (0,0))→Ops P ro n all rest K (upd s d (.pointer (some ⟨b,0,none⟩))) w') :
  Ops P ro n all (⟨some d,.alloc t,ty,pos,af,none⟩::rest) K s w :=
 Ops.ofRun (w':=w.alloc (.cells z.cells t)) rfl (by simp [execOp,Instr.alloc,run_zeroValue' w hz,newVar,newRow]) (h w.heap.size _ rfl (by simp) ⟨(Below.refl _ w).alloc (Nat.le_refl _) _⟩ (World.alloc_heap_new w _))

theorem jjR {v z:Value} {size bytes:Nat} {ty':Nat} {pos':String} {af':Array Edge} {g:Option (Nat×Bool)} (hg:g=none) (hy:∀ p,ev n (upd s d p) y=v) [hz:TS P t z size bytes] (hzz:z.cells.size=size) (hsz:v.cells.size=size) (h1:v.cells.toList.all (·.oneCell')=true) (hd:Nat.blt d n=true)
  (h:∀ b w',b=w.heap.size→w'.heap.size=w.heap.size+1→Step w w'→w'.heap[b]?=some (.cells v.cells t (0,0))→Ops P ro n all rest K (upd s d (.pointer (some ⟨b,0,none⟩))) w') :
  Ops P ro n all (⟨some d,.alloc t,ty,pos,af,none⟩::⟨none,.store t (.tmp d) y,ty',pos',af',g⟩::rest) K s w:=by
 subst hg
 refine jjY fun b w1 hb hs1 hS hk=>?_
 have hbk:Bk w1 b z.cells.toList t:=⟨by simpa using hk⟩
 have hev:ev n (upd s d (.pointer (some ⟨b,0,none⟩))) (.tmp d)=.pointer (some ⟨b,0,none⟩):=by
  have:Nat.beq d d=true:=by simp
  simp [ev,hd,upd]
 refine Ops.store hev (hy _) hsz (by simp [hzz]) h1 fun w2 p=>?_
 refine h b w2 hb (by rw [p.size,hs1]) (p.ext ⟨hS.b⟩ (by omega)).toStep ?_
 rw [p.new]
 have e:List.take 0 z.cells.toList++v.cells.toList++List.drop (0+size) z.cells.toList=v.cells.toList:=by
  rw [List.drop_eq_nil_of_le (by simp [hzz])];simp
 rw [e,Array.toArray_toList]
end rules

structure OwnL (w:World) (B e:Nat) (agg:Bool) (k:Nat) (v:Value) (xs:List Value):Prop where
 own:w.ownsRow B e k v xs.length (xs.flatMap (·.cells.toList))
 fit:∀ x∈xs,fitsV agg k x=true
 len:xs.length≤140737488355328
theorem OwnL.nil (w:World) (B e:Nat) (agg:Bool) (k:Nat):OwnL w B e agg k (.slice none 0 0) []:=⟨World.ownsRow_nil w B e k,by simp,by simp⟩

theorem flat_get {k:Nat}:∀ {xs:List Value},(∀ x∈xs,x.cells.size=k)→∀ {j:Nat} {x:Value},xs[j]?=some x→∀ {i:Nat} {u:Value},x.cells.toList[i]?=some u→(xs.flatMap (·.cells.toList))[j * k+i]?=some u
 | [],_,j,x,hx,_,_,_=>by simp at hx
 | y::xs,hk,j,x,hx,i,u,hu=>by
   have hy:y.cells.toList.length=k:=by simpa using hk y List.mem_cons_self
   cases j with
   | zero =>
     simp at hx;subst hx
     have hi:i<y.cells.toList.length:=(List.getElem?_eq_some_iff.1 hu).1
     rw [List.flatMap_cons,Nat.zero_mul,Nat.zero_add,List.getElem?_append_left hi]
     exact hu
   | succ j =>
     have:=flat_get (fun z hz=>hk z (List.mem_cons_of_mem _ hz)) (by simpa using hx:xs[j]?=some x) hu
     rw [List.flatMap_cons,show (j+1) * k+i=y.cells.toList.length+(j * k+i) from by rw [hy,Nat.add_mul];omega,List.getElem?_append_right (by omega),Nat.add_sub_cancel_left]
     exact this
theorem OwnL.row {w:World} {B e:Nat} {agg:Bool} {k:Nat} {v:Value} {xs:List Value} (h:OwnL w B e agg k v xs):RowV w agg k v xs:=by
 refine ⟨h.len,h.fit,?_⟩
 rcases h.own.2 with ⟨rfl,h0⟩|⟨g,cap,cur,rfl,hb,hg,hn,hc,hs,ht⟩
 ·exact .inl ⟨List.length_eq_zero_iff.1 h0,_,_,rfl⟩
 ·refine .inr ⟨g,0,cap,rfl,hn,fun j x hx=>⟨fun i u hu=>?_⟩⟩
  have hf:=flat_get (fun y hy=>fitsV_cells (h.fit y hy)) hx hu
  rw [←ht,List.getElem?_take] at hf
  split at hf
  ·rw [Nat.zero_add]
   simp [World.cell?,hg]
   simpa using hf
  ·cases hf
theorem OwnL.kept {w w':World} {B e:Nat} {agg:Bool} {k:Nat} {v:Value} {xs:List Value} (h:OwnL w B e agg k v xs) (hb:∀ g,v.ownBlock=some g→w'.heap[g]?=w.heap[g]?):OwnL w' B e agg k v xs:=by
 refine ⟨⟨h.own.1,?_⟩,h.fit,h.len⟩
 rcases h.own.2 with hn|⟨g,cap,cur,rfl,hB,hg,rest⟩
 ·exact .inl hn
 ·exact .inr ⟨g,cap,cur,rfl,hB,(hb g rfl).trans hg,rest⟩
theorem OwnL.ext {w w':World} {B e:Nat} {agg:Bool} {k:Nat} {v:Value} {xs:List Value} (h:OwnL w B e agg k v xs) (hs:Ext w w'):OwnL w' B e agg k v xs :=
 h.kept fun g hg=>hs.block (h.own.lt g hg).2
theorem OwnL.grow {N:Nat} {w w':World} {B e:Nat} {agg:Bool} {k:Nat} {v:Value} {xs:List Value} (h:OwnL w B e agg k v xs) (hs:Grow N w w'):OwnL w' B e agg k v xs :=
 h.kept fun g hg=>by
  rcases h.own.2 with ⟨rfl,_⟩|⟨g',cap,cur,rfl,hB,hg',_⟩
  ·simp [Value.ownBlock] at hg
  ·simp [Value.ownBlock] at hg;subst hg
   exact (hs.data _ _ hg' rfl).trans hg'.symm
theorem OwnL.put {w w':World} {B e b:Nat} {ob:Obj} {agg:Bool} {k:Nat} {v:Value} {xs:List Value} (h:OwnL w B e agg k v xs) (p:PutO w w' b ob) (hne:v.ownBlock≠some b):OwnL w' B e agg k v xs :=
 h.kept fun g hg=>p.other g (by rintro rfl;exact hne hg)
theorem OwnL.mono {w:World} {B B' e:Nat} {agg:Bool} {k:Nat} {v:Value} {xs:List Value} (h:OwnL w B e agg k v xs) (hB:B'≤B):OwnL w B' e agg k v xs:=by
 refine ⟨⟨h.own.1,?_⟩,h.fit,h.len⟩
 rcases h.own.2 with hn|⟨g,cap,cur,rfl,hb,rest⟩
 ·exact .inl hn
 ·exact .inr ⟨g,cap,cur,rfl,by omega,rest⟩
theorem OwnL.slice {w:World} {B e:Nat} {agg:Bool} {k:Nat} {v:Value} {xs:List Value} (h:OwnL w B e agg k v xs):∃ a c,v=.slice a xs.length c:=h.row.slice
theorem OwnL.block {w:World} {B e:Nat} {agg:Bool} {k:Nat} {v:Value} {xs:List Value} (h:OwnL w B e agg k v xs):∀ g,v.ownBlock=some g→B≤g∧g<w.heap.size:=h.own.lt

theorem OwnL.one {w:World} {B b e k:Nat} {agg:Bool} {x:Value} (hx:fitsV agg k x=true) (hB:B≤b) (h:w.heap[b]?=some (.cells x.cells e (0,0))):OwnL w B e agg k (.slice (some ⟨b,0,none⟩) 1 1) [x]:=by
 have hc:=fitsV_cells hx
 refine ⟨⟨by simp [hc],.inr ⟨b,1,x.cells,rfl,hB,h,by simp,by simp [maxLen],by simp [hc],?_⟩⟩,by simpa using hx,by simp⟩
 simp
 rw [List.take_of_length_le (by simp [hc])]

structure App (B:Nat) (w w':World) (v:Value):Prop where
 g:w.grownBy w' v.ownBlock
 from_:∀ g,v.ownBlock=some g→B≤g∧∃ o,w.heap[g]?=some o∧Obj.loopy o=false
theorem App.ext {B:Nat} {w0 w w':World} {v:Value} (a:App B w w' v) (h:Ext w0 w) (hB:w0.heap.size≤B):Ext w0 w' :=
 ⟨⟨a.g.os.trans h.b.os,a.g.tape.trans h.b.tape,a.g.output.trans h.b.output,Nat.le_trans h.size a.g.size,fun k hk=>(a.g.block k (by have:=h.size;omega) (fun e=>by have:=(a.from_ k e.symm).1;omega)).trans (h.block hk)⟩⟩
theorem App.other {B:Nat} {w w':World} {v:Value} (a:App B w w' v) {k:Nat} {o:Obj} (h:w.heap[k]?=some o) (hne:v.ownBlock≠some k):w'.heap[k]?=some o :=
 (a.g.block k (Array.getElem?_eq_some_iff.1 h).1 (fun e=>hne e.symm)).trans h
theorem App.tr {B:Nat} {w w':World} {v:Value} (a:App B w w' v):Tr w w' :=
 ⟨a.g.size,fun k o hk hl=>a.other hk (fun e=>by obtain ⟨_,o',h1,h2⟩:=a.from_ k e;rw [h1] at hk;cases hk;rw [h2] at hl;cases hl)⟩
theorem App.bk {B:Nat} {w w':World} {v:Value} (a:App B w w' v) {b e:Nat} {cs:List Value} (h:Bk w b cs e) (hne:v.ownBlock≠some b):Bk w' b cs e:=⟨a.other h.h hne⟩

section rules
variable {P:Program} {ro:Option Nat} {n:Nat} {all rest:List Oper} {K:Sl→World→Prop} {s:Sl} {w:World} {d:Nat} {ty:Nat} {pos:String} {af:Array Edge}
variable {x y:Operand} {t:Nat}

theorem Ops.appendL {B e:Nat} {agg:Bool} {k bytes:Nat} {v u z:Value} {xs us:List Value} (hown:OwnL w B e agg k v xs) (hB:B≤w.heap.size) (hu:RowV w agg k u us) (hx:ev n s x=v) (hy:ev n s y=u) [ht:TSl P t e] [hz:TS P e z k bytes]
  (hk:Nat.blt 0 k=true) (hzz:z.cells.size=k) (h1:us.all (fun v=>v.cells.toList.all (·.oneCell'))=true) (hlen:(xs.length+us.length) * bytes≤140737488355328) (hlen':xs.length+us.length≤140737488355328)
  (h:∀ v' w',App B w w' v→OwnL w' B e agg k v' (xs++us)→(v'=.slice none 0 0↔v=.slice none 0 0∧us=[])→(v'.ownBlock=v.ownBlock∨v'.ownBlock=some w.heap.size)→Ops P ro n all rest K (upd s d v') w') :
  Ops P ro n all (⟨some d,.call { callee:=.builtin .append,args:=#[x,y],argTypes:=#[t,t] },ty,pos,af,none⟩::rest) K s w:=by
 obtain ⟨i,hi,hiz,his,hib⟩:=hz.info
 have hfrom:∀ g,v.ownBlock=some g→B≤g∧∃ o,w.heap[g]?=some o∧Obj.loopy o=false:=fun g hg=>by
  rcases hown.own.2 with ⟨rfl,_⟩|⟨g',cap,cur,rfl,hB,hg',_⟩
  ·simp [Value.ownBlock] at hg
  ·simp [Value.ownBlock] at hg;subst hg
   exact ⟨hB,_,hg',rfl⟩
 have hex:∀ (a:Addr) (m c:Nat),m=us.length→(∀ (j:Nat) (u:Value),(us.flatMap (·.cells.toList))[j]?=some u→w.cell? (a.add j)=some u) →
   ∃ v' w',(Builtin.append_ #[t,t] ty #[v,.slice (some a) m c]).run P w=.ok v' w'∧w'.ownsRow B e k v' (xs.length+m) (xs.flatMap (·.cells.toList)++us.flatMap (·.cells.toList))∧w.grownBy w' v.ownBlock∧(v'=.slice none 0 0↔v=.slice none 0 0∧m=0)∧(v'.ownBlock=v.ownBlock∨v'.ownBlock=some w.heap.size):=by
  rintro a m c rfl hc
  refine run_append_own_at (P:=P) (w:=w) B t ty e i z k bytes ht.h hi hiz his hib hzz (by simpa using hk) v xs.length _ hown.own a us.length c (us.flatMap (·.cells.toList)) ?_ hc ?_ (by simp only [maxLen];omega) hlen hB
  ·have:∀ (l:List Value),(∀ x∈l,fitsV agg k x=true)→(l.flatMap (·.cells.toList)).length=l.length * k:=by
    intro l
    induction l with
    | nil=>simp
    | cons y l ih=>intro hl;rw [List.flatMap_cons,List.length_append,ih (fun x hx=>hl x (List.mem_cons_of_mem _ hx)),Array.length_toList,fitsV_cells (hl y List.mem_cons_self),List.length_cons,Nat.add_mul];omega
   exact this us hu.fit
  ·intro q hq
   obtain ⟨y,hy,hqy⟩:=List.mem_flatMap.1 hq
   exact (List.all_eq_true.1 (List.all_eq_true.1 h1 y hy)) q hqy
 have fin:∀ v' w',w'.ownsRow B e k v' (xs.length+us.length) (xs.flatMap (·.cells.toList)++us.flatMap (·.cells.toList))→w.grownBy w' v.ownBlock→(v'=.slice none 0 0↔v=.slice none 0 0∧us.length=0)→(v'.ownBlock=v.ownBlock∨v'.ownBlock=some w.heap.size)→Ops P ro n all rest K (upd s d v') w':=fun v' w' ho hg hn hw =>
  h v' w' ⟨hg,hfrom⟩ ⟨by rw [List.flatMap_append,List.length_append];exact ho,fun q hq=>(List.mem_append.1 hq).elim (hown.fit q) (hu.fit q),by rw [List.length_append];exact hlen'⟩ (by rw [hn,List.length_eq_zero_iff]) hw
 rcases hu.at_ with ⟨rfl,a,c,rfl⟩|⟨b,o,c,rfl,_,hc⟩
 ·cases a with
  | none =>
    -- append(v, nil...): the slice itself
    obtain ⟨av,cv,hv⟩:=hown.slice
    refine Ops.ofRun (v:=v) (w':=w) rfl ?_ (fin v w ?_ ⟨rfl,rfl,rfl,Nat.le_refl _,fun _ _ _=>rfl⟩ (by simp) (.inl rfl))
    ·subst hv
     have hcap:xs.length≤cv:=by
      rcases hown.own.2 with ⟨e1,e2⟩|⟨g,cap,cur,e1,_,_,e2,_⟩
      ·simp only [Value.slice.injEq] at e1;omega
      ·simp only [Value.slice.injEq] at e1;omega
     have hr:(Builtin.append_ #[t,t] ty #[.slice av xs.length cv,.slice none 0 c]).run P w=.ok (.slice av xs.length cv) w:=by
      cases av<;>simp [Builtin.append_,run_underlying ht.h,sizeOf,typeInfo,hi,Builtin.lenOf,Builtin.firstCells,hcap,storeCells]
     simp [execOp,resolve,invoke,builtin,hx,hy,hr]
    ·simpa using hown.own
  | some a =>
    obtain ⟨v',w',hr,ho,hg,hn,hw⟩:=hex a 0 c rfl (by simp)
    exact Ops.ofRun (v:=v') (w':=w') rfl (by simp [execOp,resolve,invoke,builtin,hx,hy,hr]) (fin v' w' ho hg hn hw)
 ·obtain ⟨v',w',hr,ho,hg,hn,hw⟩:=hex ⟨b,o,none⟩ us.length c rfl (fun j q hq=>by
   rw [Addr.add_lit]
   have key:∀ (l:List Value) (o':Nat),(∀ x∈l,fitsV agg k x=true)→(∀ (j:Nat) (x:Value),l[j]?=some x→At w b (o'+j * k) x.cells.toList)→∀ j q,(l.flatMap (·.cells.toList))[j]?=some q→w.cell? ⟨b,o'+j,none⟩=some q:=by
    intro l
    induction l with
    | nil=>intro o' _ _ j q hq;simp at hq
    | cons y l ih =>
      intro o' hf hl j q hq
      have hy:y.cells.toList.length=k:=by simpa using fitsV_cells (hf y List.mem_cons_self)
      rw [List.flatMap_cons] at hq
      by_cases hj:j<k
      ·rw [List.getElem?_append_left (by omega)] at hq
       have:=(hl 0 y rfl).h j q hq
       simpa using this
      ·rw [List.getElem?_append_right (by omega),hy] at hq
       have:=ih (o'+k) (fun x hx=>hf x (List.mem_cons_of_mem _ hx)) (fun j x hx=>by
        have:=hl (j+1) x (by simpa using hx)
        rw [show o'+k+j * k=o'+(j+1) * k from by rw [Nat.add_mul];omega]
        exact this) (j-k) q hq
       rw [show o'+k+(j-k)=o'+j from by omega] at this
       exact this
   exact key us o hu.fit hc j q hq)
  exact Ops.ofRun (v:=v') (w':=w') rfl (by simp [execOp,resolve,invoke,builtin,hx,hy,hr]) (fin v' w' ho hg hn hw)

theorem Ops.build {cells:List Value} {parts:Array (Nat×Operand)} (hb:P.built t (parts.toList.map fun (i,x)=>(i,ev n s x))=some cells.toArray) (h:Ops P ro n all rest K (upd s d (.agg cells.toArray)) w) :
  Ops P ro n all (⟨some d,.build t parts,ty,pos,af,none⟩::rest) K s w :=
 Ops.ofRun rfl (by
  have e:(parts.map fun (i,x)=>(i,ev n s x)).toList=parts.toList.map fun (i,x)=>(i,ev n s x):=by simp
  have:=run_build (P:=P) w t (parts.map fun (i,x)=>(i,ev n s x)) cells.toArray (by rw [e];exact hb)
  simp [execOp,this]) h
class FV (P:Program) (t i:Nat) (off:outParam Nat):Prop where
 h:∃ (fs:Array Field) (f:Field) (dd:TypeDesc),P.underlying t=some (.struct fs)∧fs[i]?=some f∧f.offset=off∧TU P f.type dd∧TypeDesc.isAgg dd=false
theorem Ops.field {cells:List Value} {i off:Nat} {v:Value} (hx:ev n s x=.agg cells.toArray) [hf:FV P t i off] (hv:cells[off]?=some v) (h:Ops P ro n all rest K (upd s d v) w) :
  Ops P ro n all (⟨some d,.field t x i,ty,pos,af,none⟩::rest) K s w:=by
 obtain ⟨fs,f,dd,hu,hfi,ho,htu,hag⟩:=hf.h
 subst ho
 exact Ops.ofRun rfl (by simp [execOp,Instr.field,run_underlying hu,hfi,hx,asAgg,part,run_isAgg w htu,hag,hv]) h
end rules

class KeyL (P:Program) (kt:Nat) {κ:Type} [DecidableEq κ] (encK:κ→Value):Prop where
 chk:∀ (em:Bool) (w:World) (k:κ),(Instr.checkKey em 10000 kt (encK k)).run P w=.ok () w
 find:∀ (w:World) (k:κ) (es:List MapEntry) (ks:List κ),es.map (·.key)=ks.map encK →
  (Instr.findKey kt (encK k) es).run P w=.ok ((ks.findIdx? (fun x=>decide (k=x))).map fun i=>(i,((es[i]?).map (·.val)).getD undef)) w
 bits:∀ (k:κ),Instr.sameBits 10000 (encK k) (encK k)=true

structure MapE {κ:Type} (encK:κ→Value) (w:World) (b:Nat) (m:List (κ×Value)):Prop where
 h:∃ (es:Array MapEntry) (clock:Nat),w.heap[b]?=some (.map es clock)∧es.toList.map (·.key)=m.map (fun p=>encK p.1)∧es.toList.map (·.val)=m.map (·.2) ∧
  (∀ e∈es.toList,e.born<clock)∧(es.toList.map (·.born)).Nodup
theorem MapE.ext {κ:Type} {encK:κ→Value} {w w':World} {b:Nat} {m:List (κ×Value)} (h:MapE encK w b m) (hs:Ext w w'):MapE encK w' b m:=by
 obtain ⟨es,c,h1,h2⟩:=h.h
 exact ⟨es,c,hs.block' h1,h2⟩
theorem MapE.grow {κ:Type} {encK:κ→Value} {N:Nat} {w w':World} {b:Nat} {m:List (κ×Value)} (h:MapE encK w b m) (hs:Grow N w w'):MapE encK w' b m:=by
 obtain ⟨es,c,h1,h2⟩:=h.h
 exact ⟨es,c,hs.data _ _ h1 rfl,h2⟩
theorem MapE.put {κ:Type} {encK:κ→Value} {w w':World} {b c:Nat} {o:Obj} {m:List (κ×Value)} (h:MapE encK w b m) (p:PutO w w' c o) (hne:b≠c):MapE encK w' b m:=by
 obtain ⟨es,cl,h1,h2⟩:=h.h
 exact ⟨es,cl,(p.other b hne).trans h1,h2⟩
theorem MapE.app {κ:Type} {encK:κ→Value} {B:Nat} {w w':World} {v:Value} {b:Nat} {m:List (κ×Value)} (h:MapE encK w b m) (a:App B w w' v) (hne:v.ownBlock≠some b):MapE encK w' b m:=by
 obtain ⟨es,cl,h1,h2⟩:=h.h
 exact ⟨es,cl,a.other h1 hne,h2⟩
theorem MapE.lt {κ:Type} {encK:κ→Value} {w:World} {b:Nat} {m:List (κ×Value)} (h:MapE encK w b m):b<w.heap.size:=by
 obtain ⟨es,cl,h1,h2⟩:=h.h
 exact (Array.getElem?_eq_some_iff.1 h1).1
theorem MapE.loopy {κ:Type} {encK:κ→Value} {w:World} {b:Nat} {m:List (κ×Value)} (h:MapE encK w b m):∃ o,w.heap[b]?=some o∧Obj.loopy o=false:=by
 obtain ⟨es,cl,h1,h2⟩:=h.h
 exact ⟨_,h1,rfl⟩

def mget {κ:Type} [DecidableEq κ] (m:List (κ×Value)) (k:κ):Option Value :=
 match m with
 | []=>none
 | (x,v)::m=>if k=x then some v else mget m k
def mset {κ:Type} [DecidableEq κ] (m:List (κ×Value)) (k:κ) (v:Value):List (κ×Value) :=
 match m with
 | []=>[(k,v)]
 | (x,u)::m=>if k=x then (k,v)::m else (x,u)::mset m k v
def mdel {κ:Type} [DecidableEq κ] (m:List (κ×Value)) (k:κ):List (κ×Value) :=
 match m with
 | []=>[]
 | (x,u)::m=>if k=x then m else (x,u)::mdel m k

section
variable {κ:Type} [DecidableEq κ]
theorem mget_set_same (m:List (κ×Value)) (k:κ) (v:Value):mget (mset m k v) k=some v:=by
 induction m with
 | nil=>simp [mset,mget]
 | cons p m ih =>
   obtain ⟨x,u⟩:=p
   by_cases h:k=x
   ·simp [mset,mget,h]
   ·simp [mset,mget,h,ih]
theorem mget_set_other (m:List (κ×Value)) {k j:κ} (v:Value) (hne:j≠k):mget (mset m k v) j=mget m j:=by
 induction m with
 | nil=>simp [mset,mget,hne]
 | cons p m ih =>
   obtain ⟨x,u⟩:=p
   by_cases h:k=x
   ·subst h;simp [mset,mget,hne]
   ·by_cases h2:j=x
    ·simp [mset,mget,h,h2]
    ·simp [mset,mget,h,h2,ih]
theorem mget_idx (m:List (κ×Value)) (k:κ):((m.map (·.1)).findIdx? (fun x=>decide (k=x))).map (fun i=>((m[i]?).map (·.2)).getD undef)=mget m k:=by
 induction m with
 | nil=>rfl
 | cons p m ih =>
   obtain ⟨x,u⟩:=p
   by_cases h:k=x
   ·simp [List.findIdx?_cons,mget,h]
   ·simp only [List.map_cons,List.findIdx?_cons,h,decide_false,Bool.false_eq_true,if_false,mget,Option.map_map]
    rw [←ih]
    congr 1
omit [DecidableEq κ] in
theorem map_eraseIdx {α β:Type} (f:α→β):∀ (l:List α) (i:Nat),(l.eraseIdx i).map f=(l.map f).eraseIdx i
 | [],_=>rfl
 | _::_,0=>rfl
 | x::l,i+1=>by simp [map_eraseIdx f l i]
theorem mset_new (m:List (κ×Value)) (k:κ) (v:Value) (h:(m.map (·.1)).findIdx? (fun x=>decide (k=x))=none):mset m k v=m++[(k,v)]:=by
 induction m with
 | nil=>rfl
 | cons p m ih =>
   obtain ⟨x,u⟩:=p
   rw [List.findIdx?_eq_none_iff] at h
   have h0:¬ k=x:=by simpa using h x (by simp)
   have:=ih (by rw [List.findIdx?_eq_none_iff];intro y hy;exact h y (by simp at hy ⊢;exact .inr hy))
   simp [mset,h0,this]
theorem mset_old (m:List (κ×Value)) (k:κ) (v:Value) (i:Nat) (h:(m.map (·.1)).findIdx? (fun x=>decide (k=x))=some i):mset m k v=m.set i (k,v)∧i<m.length∧(m[i]?).map (·.1)=some k:=by
 induction m generalizing i with
 | nil=>simp at h
 | cons p m ih =>
   obtain ⟨x,u⟩:=p
   by_cases hk:k=x
   ·subst hk
    simp [List.findIdx?_cons] at h
    subst h
    simp [mset]
   ·simp [List.findIdx?_cons,hk] at h
    obtain ⟨j,hj,rfl⟩:=h
    obtain ⟨h1,h2,h3⟩:=ih j (by rw [List.findIdx?_map];exact hj)
    simp only [mset,hk,if_false,h1,List.set_cons_succ,List.length_cons,List.getElem?_cons_succ,h3,and_true,true_and]
    omega
theorem mdel_none (m:List (κ×Value)) (k:κ) (h:(m.map (·.1)).findIdx? (fun x=>decide (k=x))=none):mdel m k=m:=by
 induction m with
 | nil=>rfl
 | cons p m ih =>
   obtain ⟨x,u⟩:=p
   rw [List.findIdx?_eq_none_iff] at h
   have h0:¬ k=x:=by simpa using h x (by simp)
   have:=ih (by rw [List.findIdx?_eq_none_iff];intro y hy;exact h y (by simp at hy ⊢;exact .inr hy))
   simp [mdel,h0,this]
theorem mdel_some (m:List (κ×Value)) (k:κ) (i:Nat) (h:(m.map (·.1)).findIdx? (fun x=>decide (k=x))=some i):mdel m k=m.eraseIdx i:=by
 induction m generalizing i with
 | nil=>simp at h
 | cons p m ih =>
   obtain ⟨x,u⟩:=p
   by_cases hk:k=x
   ·subst hk
    simp [List.findIdx?_cons] at h
    subst h
    simp [mdel]
   ·simp [List.findIdx?_cons,hk] at h
    obtain ⟨j,hj,rfl⟩:=h
    simp [mdel,hk,ih j (by rw [List.findIdx?_map];exact hj)]
end

class TMap (P:Program) (t:Nat) (k e:outParam Nat):Prop where
 h:P.underlying t=some (.map k e)

section rules
variable {P:Program} {ro:Option Nat} {n:Nat} {all rest:List Oper} {K:Sl→World→Prop} {s:Sl} {w:World} {d:Nat} {ty:Nat} {pos:String} {af:Array Edge}
variable {x y z':Operand} {t kt et:Nat} {κ:Type} [DecidableEq κ] {encK:κ→Value} {b:Nat} {m:List (κ×Value)} {k:κ}

theorem run_getObj_m {es:Array MapEntry} {c:Nat} (h:w.heap[b]?=some (.map es c)):(getObj b).run P w=.ok (.map es c) w:=by simp [getObj,Sem.run,h]
theorem run_setObj_m {es:Array MapEntry} {c:Nat} (o:Obj) (h:w.heap[b]?=some (.map es c)):(setObj b o).run P w=.ok () (w.putObj b o):=by simp [setObj,Sem.run,h,World.putObj]
theorem putO_putObj {ob:Obj} (o:Obj) (h:w.heap[b]?=some ob):PutO w (w.putObj b o) b o :=
 ⟨rfl,rfl,rfl,by simp,World.putObj_heap_same (Array.getElem?_eq_some_iff.1 h).1,fun _ hk=>World.putObj_heap_other hk⟩

omit [DecidableEq κ] in
theorem Ops.makeMap (encK:κ→Value) (h:∀ b w',b=w.heap.size→w'.heap.size=w.heap.size+1→Step w w'→MapE encK w' b []→Ops P ro n all rest K (upd s d (.map (some b))) w') :
  Ops P ro n all (⟨some d,.makeMap t none,ty,pos,af,none⟩::rest) K s w :=
 Ops.ofRun (w':=w.alloc (.map #[] 0)) rfl (by simp [execOp,Instr.makeMap]) (h w.heap.size _ rfl (by simp) ⟨(Below.refl _ w).alloc (Nat.le_refl _) _⟩ ⟨#[],0,World.alloc_heap_new w _,by simp,by simp,by simp,by simp⟩)

theorem run_lookup {z:Value} {size bytes:Nat} (ok:Bool) [hk:KeyL P kt encK] [ht:TMap P t kt et] [hz:TS P et z size bytes] (hm:MapE encK w b m) :
  (Instr.lookup t (.map (some b)) (encK k) ok).run P w=.ok (if ok then .tuple #[(mget m k).getD z,.bool (mget m k).isSome] else (mget m k).getD z) w:=by
 obtain ⟨es,c,h1,h2,h3,h4,h5⟩:=hm.h
 have hf:=hk.find w k es.toList (m.map (·.1)) (by rw [h2,List.map_map];rfl)
 have hg:=mget_idx m k
 have hv:∀ i:Nat,(es.toList[i]?).map (·.val)=(m[i]?).map (·.2):=fun i=>by
  have:=congrArg (fun l:List Value=>l[i]?) h3
  simpa using this
 have hi:∀ i,(m.map (·.1)).findIdx? (fun x=>decide (k=x))=some i→i<m.length:=fun i h=>(mset_old m k undef i h).2.1
 simp only [Instr.lookup,Sem.run_bind,run_underlying ht.h,Result.andThen,run_getObj_m h1,hk.chk,Sem.run_pure,hf]
 cases hidx:(m.map (·.1)).findIdx? (fun x=>decide (k=x)) with
 | none =>
   rw [hidx] at hg
   simp only [Option.map_none] at hg ⊢
   rw [←hg]
   simp [run_zeroValue' w hz]
 | some i =>
   rw [hidx] at hg
   simp only [Option.map_some] at hg ⊢
   rw [←hg,hv i]
   simp

theorem Ops.lookup {z:Value} {size bytes:Nat} (hm:MapE encK w b m) (hx:ev n s x=.map (some b)) (hy:ev n s y=encK k) [hk:KeyL P kt encK] [ht:TMap P t kt et] [hz:TS P et z size bytes]
  (h:Ops P ro n all rest K (upd s d ((mget m k).getD z)) w):Ops P ro n all (⟨some d,.lookup t x y false,ty,pos,af,none⟩::rest) K s w :=
 Ops.ofRun rfl (by have hr:=run_lookup (P:=P) (t:=t) (k:=k) false hm;simp only [Bool.false_eq_true,if_false] at hr;simp [execOp,hx,hy,hr]) h
theorem Ops.lookupOk {z:Value} {size bytes:Nat} (hm:MapE encK w b m) (hx:ev n s x=.map (some b)) (hy:ev n s y=encK k) [hk:KeyL P kt encK] [ht:TMap P t kt et] [hz:TS P et z size bytes]
  (h:Ops P ro n all rest K (upd s d (.tuple #[(mget m k).getD z,.bool (mget m k).isSome])) w):Ops P ro n all (⟨some d,.lookup t x y true,ty,pos,af,none⟩::rest) K s w :=
 Ops.ofRun rfl (by have hr:=run_lookup (P:=P) (t:=t) (k:=k) true hm;simp only [if_true] at hr;simp [execOp,hx,hy,hr]) h

theorem run_mapUpdate {v:Value} [hk:KeyL P kt encK] [ht:TMap P t kt et] (hm:MapE encK w b m) :
  ∃ o,(Instr.mapUpdate t (.map (some b)) (encK k) v).run P w=.ok () (w.putObj b o)∧MapE encK (w.putObj b o) b (mset m k v):=by
 obtain ⟨es,c,h1,h2,h3,h4,h5⟩:=hm.h
 have hlt:b<w.heap.size:=(Array.getElem?_eq_some_iff.1 h1).1
 have hf:=hk.find w k es.toList (m.map (·.1)) (by rw [h2,List.map_map];rfl)
 have hlen:es.size=m.length:=by have:=congrArg List.length h2;simpa using this
 cases hidx:(m.map (·.1)).findIdx? (fun x=>decide (k=x)) with
 | none =>
   rw [hidx] at hf
   refine ⟨.map (es.push { key:=encK k,val:=v,born:=c }) (c+1),?_,?_⟩
   ·simp only [Instr.mapUpdate,Sem.run_bind,run_underlying ht.h,Result.andThen,run_getObj_m h1,hk.chk,hf,Option.map_none,run_setObj_m _ h1]
   ·refine ⟨_,_,World.putObj_heap_same hlt,?_,?_,?_,?_⟩
    ·rw [mset_new m k v hidx];simp [h2]
    ·rw [mset_new m k v hidx];simp [h3]
    ·intro e he
     simp only [Array.toList_push,List.mem_append,List.mem_singleton] at he
     rcases he with he|rfl
     ·have:=h4 e he;omega
     ·simp
    ·rw [Array.toList_push,List.map_append,List.nodup_append]
     refine ⟨h5,by simp,?_⟩
     intro a ha b' hb'
     obtain ⟨e,he,rfl⟩:=List.mem_map.1 ha
     simp only [List.map_cons,List.map_nil,List.mem_singleton] at hb'
     have:=h4 e he
     omega
 | some i =>
   rw [hidx] at hf
   obtain ⟨e1,e2,e3⟩:=mset_old m k v i hidx
   have hi:i<es.size:=by omega
   have hkey:es[i].key=encK k:=by
    have:=congrArg (fun l:List Value=>l[i]?) h2
    simp only [List.getElem?_map,Array.getElem?_toList] at this
    rw [Array.getElem?_eq_getElem hi] at this
    cases hmi:m[i]? with
    | none=>rw [hmi] at e3;cases e3
    | some p=>rw [hmi] at e3 this;simp at e3 this;rw [this,e3]
   refine ⟨.map (es.modify i fun e=>{ e with key:=encK k,val:=v }) c,?_,?_⟩
   ·have hb:=hk.bits k
    simp only [Instr.mapUpdate,Sem.run_bind,run_underlying ht.h,Result.andThen,run_getObj_m h1,hk.chk,hf,Option.map_some,Array.getElem?_eq_getElem hi,Option.getD_some,hkey,Instr.keyThatStays,hb,if_true,Sem.run_pure,run_setObj_m _ h1]
   ·refine ⟨_,_,World.putObj_heap_same hlt,?_,?_,?_,?_⟩
    ·rw [e1]
     apply List.ext_getElem?
     intro j
     simp only [List.getElem?_map,Array.getElem?_toList,Array.getElem?_modify,List.getElem?_set]
     have hj:=congrArg (fun l:List Value=>l[j]?) h2
     simp only [List.getElem?_map,Array.getElem?_toList] at hj
     by_cases hij:i=j
     ·subst hij
      simp [Array.getElem?_eq_getElem hi,e2]
     ·simp only [hij,if_false];exact hj
    ·rw [e1]
     apply List.ext_getElem?
     intro j
     simp only [List.getElem?_map,Array.getElem?_toList,Array.getElem?_modify,List.getElem?_set]
     have hj:=congrArg (fun l:List Value=>l[j]?) h3
     simp only [List.getElem?_map,Array.getElem?_toList] at hj
     by_cases hij:i=j
     ·subst hij
      simp [Array.getElem?_eq_getElem hi,e2]
     ·simp only [hij,if_false];exact hj
    ·intro e he
     obtain ⟨j,hj⟩:=List.getElem?_of_mem he
     simp only [Array.getElem?_toList,Array.getElem?_modify] at hj
     by_cases hij:i=j
     ·subst hij
      simp [Array.getElem?_eq_getElem hi] at hj
      subst hj
      exact h4 es[i] (by simp)
     ·simp only [hij,if_false] at hj
      exact h4 e (List.mem_of_getElem? (by simpa using hj))
    ·have:(es.modify i fun e=>{ e with key:=encK k,val:=v }).toList.map (·.born)=es.toList.map (·.born):=by
      apply List.ext_getElem?
      intro j
      simp only [List.getElem?_map,Array.getElem?_toList,Array.getElem?_modify]
      by_cases hij:i=j
      ·subst hij;simp [Array.getElem?_eq_getElem hi]
      ·simp [hij]
     rw [this];exact h5

theorem Ops.mapUpdate {v:Value} (hm:MapE encK w b m) (hx:ev n s x=.map (some b)) (hy:ev n s y=encK k) (hv:ev n s z'=v) [hk:KeyL P kt encK] [ht:TMap P t kt et]
  (h:∀ w' o,PutO w w' b o→MapE encK w' b (mset m k v)→Ops P ro n all rest K s w'):Ops P ro n all (⟨none,.mapUpdate t x y z',ty,pos,af,none⟩::rest) K s w:=by
 obtain ⟨o,hr,hm'⟩:=run_mapUpdate (P:=P) (t:=t) (k:=k) (v:=v) hm
 obtain ⟨es,c,h1,_⟩:=hm.h
 exact Ops.ofRunU rfl (by simp [execOp,hx,hy,hv,hr]) (h _ _ (putO_putObj o h1) hm')
theorem Ops.delete (hm:MapE encK w b m) (hx:ev n s x=.map (some b)) (hy:ev n s y=encK k) [hk:KeyL P kt encK] [ht:TMap P t kt et] {at2:Nat}
  (h:∀ w' o,PutO w w' b o→MapE encK w' b (mdel m k)→Ops P ro n all rest K (putS s (some d) (.tuple #[])) w'):Ops P ro n all (⟨some d,.call { callee:=.builtin .delete,args:=#[x,y],argTypes:=#[t,at2] },ty,pos,af,none⟩::rest) K s w:=by
 obtain ⟨es,c,h1,h2,h3,h4,h5⟩:=hm.h
 have hlt:b<w.heap.size:=(Array.getElem?_eq_some_iff.1 h1).1
 have hf:=hk.find w k es.toList (m.map (·.1)) (by rw [h2,List.map_map];rfl)
 have hlen:es.size=m.length:=by have:=congrArg List.length h2;simpa using this
 cases hidx:(m.map (·.1)).findIdx? (fun x=>decide (k=x)) with
 | none =>
   rw [hidx] at hf
   refine Ops.ofRun (v:=.tuple #[]) (w':=w.putObj b (.map es c)) rfl ?_ (h _ _ (putO_putObj _ h1) ?_)
   ·simp only [execOp,resolve,invoke,builtin,Sem.run_bind,Sem.run_pure,Result.andThen,List.map_toArray,List.map_cons,List.map_nil,hx,hy,Builtin.delete_,List.getElem?_toArray,List.getElem?_cons_zero,List.getElem?_cons_succ,run_underlying ht.h,run_getObj_m h1,hk.chk,hf,Option.map_none,run_setObj_m _ h1]
   ·rw [mdel_none m k hidx]
    exact ⟨es,c,World.putObj_heap_same hlt,h2,h3,h4,h5⟩
 | some i =>
   rw [hidx] at hf
   obtain ⟨_,hi,_⟩:=mset_old m k undef i hidx
   refine Ops.ofRun (v:=.tuple #[]) (w':=w.putObj b (.map (es.eraseIdxIfInBounds i) c)) rfl ?_ (h _ _ (putO_putObj _ h1) ?_)
   ·simp only [execOp,resolve,invoke,builtin,Sem.run_bind,Sem.run_pure,Result.andThen,List.map_toArray,List.map_cons,List.map_nil,hx,hy,Builtin.delete_,List.getElem?_toArray,List.getElem?_cons_zero,List.getElem?_cons_succ,run_underlying ht.h,run_getObj_m h1,hk.chk,hf,Option.map_some,run_setObj_m _ h1]
   ·rw [mdel_some m k i hidx]
    have hi':i<es.size:=by omega
    have e:(es.eraseIdxIfInBounds i).toList=es.toList.eraseIdx i:=by simp [Array.eraseIdxIfInBounds,hi']
    refine ⟨_,c,World.putObj_heap_same hlt,?_,?_,?_,?_⟩
    ·rw [e,map_eraseIdx,h2,←map_eraseIdx]
    ·rw [e,map_eraseIdx,h3,←map_eraseIdx]
    ·intro x hx;rw [e] at hx;exact h4 x (List.mem_of_mem_eraseIdx hx)
    ·rw [e,map_eraseIdx];exact h5.sublist (List.eraseIdx_sublist _ _)
end rules

theorem findNow_of {κ:Type} [DecidableEq κ] {encK:κ→Value} (kind:TypeDesc) (hs:∀ a b:κ,Instr.sameNow kind (encK a) (encK b)=some (decide (a=b))) (k:κ):∀ (es:List MapEntry) (ks:List κ) (i:Nat),es.map (·.key)=ks.map encK →
  Instr.findNow kind (encK k) es i=some ((ks.findIdx? (fun x=>decide (k=x))).map fun j=>(i+j,((es[j]?).map (·.val)).getD undef))
 | [],[],i,_=>rfl
 | [],_::_,i,h=>by simp at h
 | _::_,[],i,h=>by simp at h
 | e::es,x::ks,i,h=>by
   simp only [List.map_cons,List.cons.injEq] at h
   have ih:=findNow_of kind hs k es ks (i+1) h.2
   simp only [Instr.findNow,h.1,hs]
   by_cases hk:k=x
   ·simp [hk,List.findIdx?_cons]
   ·simp only [hk,decide_false,ih,List.findIdx?_cons,Bool.false_eq_true,if_false,Option.map_map]
    congr 2
    funext j
    simp;omega

theorem chk_flat {P:Program} {kt:Nat} {d:TypeDesc} (h:P.underlying kt=some d) (hd:d=.string∨∃ q,d=.int q) (em:Bool) (w:World) (v:Value) (n:Nat):(Instr.checkKey em (n+1) kt v).run P w=.ok () w:=by
 rcases hd with rfl|⟨q,rfl⟩<;>simp [Instr.checkKey,run_underlying h]
theorem byteArray_beq (a b:ByteArray):(a == b)=decide (a=b):=by
 show ByteArray.beq a b=_
 cases a;cases b
 rename_i x y
 show (x == y)=_
 by_cases h:x=y<;>simp [h]
theorem keyL_int {P:Program} {kt:Nat} {q:IntKind} (h:P.underlying kt=some (.int q)):KeyL P kt (Value.int q) where
 chk em w k:=chk_flat h (.inr ⟨q,rfl⟩) em w _ 9999
 find w k es ks hk:=by
  have:=findNow_of (encK:=Value.int q) (.int q) (fun a b=>by simp [Instr.sameNow];by_cases h:a=b<;>simp [h]) k es ks 0 hk
  simp only [Instr.findKey,Sem.run_bind,run_underlying h,Result.andThen,this]
  simp
 bits k:=by
  have:∀ n,Instr.sameBits n (.int q k) (.int q k)=true:=fun n=>by cases n<;>simp [Instr.sameBits]
  exact this 10000

class TArr (P:Program) (t:Nat) (len e:outParam Nat):Prop where
 h:P.underlying t=some (.array len e)

section rules
variable {P:Program} {ro:Option Nat} {n:Nat} {all rest:List Oper} {K:Sl→World→Prop} {s:Sl} {w:World} {d:Nat} {ty:Nat} {pos:String} {af:Array Edge}
variable {x y:Operand} {t t':Nat}

theorem Ops.indexA {cells cs':List Value} {len e size bytes j:Nat} {z:Value} {dd:TypeDesc} {i:Int} {k:IntKind} (hx:ev n s x=.agg cells.toArray) (hy:ev n s y=.int k i) (hi:i=(j:Int)) [ht:TArr P t len e] [hu:TU P e dd] [hz:TS P e z size bytes] (hj:Nat.blt j len=true) (hag:TypeDesc.isAgg dd=true)
  (hc:(cells.drop (j * size)).take size=cs') (h:Ops P ro n all rest K (upd s d (.agg cs'.toArray)) w):Ops P ro n all (⟨some d,.index t x y,ty,pos,af,none⟩::rest) K s w:=by
 subst hi
 subst hc
 have hj':j<len:=by simpa using hj
 exact Ops.ofRun rfl (by
  have h1:(0:Int)≤(j:Int)∧(j:Int)<(len:Int):=by omega
  simp [execOp,Instr.index,hx,hy,asIntOf,run_underlying ht.h,hj',run_sizeOf' w hz,part,run_isAgg w hu,hag]) h

theorem RowV.part {agg:Bool} {k l c:Nat} {a:Option Addr} {xs:List Value} (h:RowV w agg k (.slice a l c) xs) (lo hi:Nat) (h1:lo≤hi) (h2:hi≤xs.length) (c':Nat) (hc':hi-lo≤c') (a':Option Addr) (ha:lo<hi→a'=a.map (·.add (lo * k))):RowV w agg k (.slice a' (hi-lo) c') ((xs.take hi).drop lo):=by
 have hl:((xs.take hi).drop lo).length=hi-lo:=by simp;omega
 refine ⟨by have:=h.len;omega,fun x hx=>h.fit x (List.mem_of_mem_take (List.mem_of_mem_drop hx)),?_⟩
 by_cases hlt:lo<hi
 ·rcases h.at_ with ⟨rfl,_⟩|⟨b,o,c2,hv,_,hc⟩
  ·simp at h2;omega
  ·simp only [Value.slice.injEq] at hv
   obtain ⟨rfl,rfl,rfl⟩:=hv
   refine .inr ⟨b,o+lo * k,c',?_,by omega,fun j x hx=>?_⟩
   ·rw [hl,ha hlt];simp [Addr.add_lit]
   ·have hjlt:j<hi-lo:=by have:=(List.getElem?_eq_some_iff.1 hx).1;omega
    have:xs[lo+j]?=some x:=by
     rw [List.getElem?_drop,List.getElem?_take] at hx
     split at hx
     ·exact hx
     ·cases hx
    have:=hc (lo+j) x this
    rw [show o+lo * k+j * k=o+(lo+j) * k from by rw [Nat.add_mul];omega]
    exact this
 ·refine .inl ⟨List.length_eq_zero_iff.1 (by omega),a',c',by rw [show hi-lo=0 from by omega]⟩

theorem Ops.sliceH {agg:Bool} {e k bytes l c hi:Nat} {z:Value} {a:Option Addr} {xs:List Value} {j:Int} {k2:IntKind} {xh:Operand} (hrow:RowV w agg k (.slice a l c) xs) (hx:ev n s x=.slice a l c) (hh:ev n s xh=.int k2 j)
  (hj':j=(hi:Int)) (h2:hi≤xs.length) [ht:TSl P t e] [hz:TS P e z k bytes]
  (h:∀ v,RowV w agg k v (xs.take hi)→(∃ a' c',v=.slice a' hi c')→Ops P ro n all rest K (upd s d v) w):Ops P ro n all (⟨some d,.slice t x none (some xh) none,ty,pos,af,none⟩::rest) K s w:=by
 subst hj'
 obtain ⟨rfl,hlc⟩:=hrow.cap
 have a1:hi≤c:=by omega
 have hp:=hrow.part 0 hi (Nat.zero_le _) h2 c (by omega) (if c=0 then a else a.map (·.add (0 * k))) (fun hlt=>by rw [if_neg (by omega)])
 simp only [Nat.sub_zero,List.drop_zero] at hp
 refine Ops.ofRun (v:=.slice (if c=0 then a else a.map (·.add (0 * k))) hi c) (w':=w) rfl ?_ (h _ hp ⟨_,_,rfl⟩)
 simp [execOp,Instr.sliceAt,Instr.slice,Instr.sliceBounds,Instr.sliceBound,hx,hh,run_underlying ht.h,asIntOf,a1,run_sizeOf' w hz]
class EqT (P:Program) (t:Nat) {α:Type} [DecidableEq α] (enc:α→Value):Prop where
 eq:∀ (w:World) (a b:α),(Op.equal t (enc a) (enc b)).run P w=.ok (decide (a=b)) w
 guard:∀ (op:BinOp) (x y:Operand) (w:World) (a b:α),(eqGuard op t x y (enc a) (enc b)).run P w=.ok () w
 kind:∀ (a b:α),(∀ w,(binOp .eql t (enc a) (enc b)).run P w=(do pure (Value.bool (←Op.equal t (enc a) (enc b))):Sem Value).run P w)∧(∀ w,(binOp .neq t (enc a) (enc b)).run P w=(do pure (Value.bool (!(←Op.equal t (enc a) (enc b)))):Sem Value).run P w)

theorem Ops.eqlT {α:Type} [DecidableEq α] {enc:α→Value} (a b:α) [he:EqT P t enc] (hx:ev n s x=enc a) (hy:ev n s y=enc b) (h:Ops P ro n all rest K (upd s d (.bool (decide (a=b)))) w) :
  Ops P ro n all (⟨some d,.binOp .eql t x y t',ty,pos,af,none⟩::rest) K s w :=
 Ops.ofRun rfl (by simp [execOp,hx,hy,he.guard,(he.kind a b).1,he.eq]) h
theorem Ops.neqT {α:Type} [DecidableEq α] {enc:α→Value} (a b:α) [he:EqT P t enc] (hx:ev n s x=enc a) (hy:ev n s y=enc b) (h:Ops P ro n all rest K (upd s d (.bool (decide (¬ a=b)))) w) :
  Ops P ro n all (⟨some d,.binOp .neq t x y t',ty,pos,af,none⟩::rest) K s w :=
 Ops.ofRun rfl (by
  have e:decide (¬ a=b)=!decide (a=b):=by by_cases h:a=b<;>simp [h]
  rw [e]
  simp [execOp,hx,hy,he.guard,(he.kind a b).2,he.eq]) h
end rules

class Mixed (P:Program):Prop where
 h:P.follows .mixedOrders=true

section
variable {P:Program} {ro:Option Nat} {n:Nat} {all:List Oper} {S:World→Prop} {K:Sl→World→Prop}

def Op1 (P:Program) (ro:Option Nat) (n:Nat) (all:List Oper) (o:Oper) (s:Sl) (w:World) (K:Value→World→Prop):Prop :=
 if Region.wanted o (fun j=>asB ((gdst all j).bind (fun d=>if d<n then some (s d) else none))) then OpW P ro n o s w K else K undef w

theorem op1_ops {o:Oper} {s:Sl} {w:World}:Ops P ro n all [o] K s w=Op1 P ro n all o s w (fun v w'=>K (putS s o.dst v) w'):=by unfold Ops Op1;unfold Ops;rfl

theorem OpW.mono {o:Oper} {s:Sl} {w:World} {K K':Value→World→Prop} (h:OpW P ro n o s w K) (hk:∀ v w',K v w'→K' v w'):OpW P ro n o s w K':=by
 unfold OpW at *
 exact fun ds=>Oper.wpIn_mono (fun _ _ ⟨v,e,h⟩=>⟨v,e,hk _ _ h⟩) (h ds)
theorem Op1.mono {o:Oper} {s:Sl} {w:World} {K K':Value→World→Prop} (h:Op1 P ro n all o s w K) (hk:∀ v w',K v w'→K' v w'):Op1 P ro n all o s w K':=by
 unfold Op1 at *
 split
 ·rename_i hw;rw [if_pos hw] at h;exact h.mono hk
 ·rename_i hw;rw [if_neg hw] at h;exact hk _ _ h

def Oper.nice (o:Oper):Bool:=Op.noDefer o.op && match o.op with
 | .select _ _=>false
 | _=>true

theorem OpW.congr {o:Oper} {s s':Sl} {w:World} {K:Value→World→Prop} (hn:Oper.nice o=true) (ha:∀ x∈o.op.operands,ev n s x=ev n s' x) (h:OpW P ro n o s w K):OpW P ro n o s' w K:=by
 simp only [Oper.nice,Bool.and_eq_true] at hn
 have hsel:∀ cs b,o.op≠.select cs b:=fun cs b e=>by rw [e] at hn;simp at hn
 have he:execOp (ev n s) o=execOp (ev n s') o:=execOp_congr o hsel ha
 unfold OpW at *
 intro ds
 have h:=h ds
 unfold Oper.wpIn at *
 rw [mkA_eval,show (Fw ro).round=ro from rfl,OpW.semAt hn.1] at *
 rw [he] at h
 rw [←about_congr o w ha]
 refine ⟨h.1,?_⟩
 have h:=h.2
 generalize (execOp (ev n s') o).run P w=r at *
 have key:∀ v w',(∃ u,(mkA n s ds).put o.dst v=(mkA n s ds).put o.dst u∧K u w')→∃ u,(mkA n s' ds).put o.dst v=(mkA n s' ds).put o.dst u∧K u w':=fun v w' ⟨u,e,hk⟩=>by
  cases hd:o.dst with
  | none=>exact ⟨u,rfl,hk⟩
  | some d =>
    rw [hd] at e
    by_cases hlt:d<n
    ·have:v=u:=by
      have:=congrArg (fun a:Act=>a.tmps[d]?) e
      simpa [Act.put,mkA,hlt] using this
     exact ⟨u,by rw [this],hk⟩
    ·refine ⟨u,?_,hk⟩
     have hlt':n≤d:=Nat.le_of_not_lt hlt
     have hs:∀ x:Value,(mkA n s' ds).put (some d) x=mkA n s' ds:=fun x=>by
      rw [mkA_put]
      refine act_ext (fun i=>?_) rfl
      rw [mkA_getElem?,mkA_getElem?]
      by_cases hi:i<n
      ·have:Nat.beq i d=false:=by
        cases e:Nat.beq i d
        ·rfl
        ·exact absurd (Nat.eq_of_beq_eq_true e) (Nat.ne_of_lt (Nat.lt_of_lt_of_le hi hlt'))
       simp [hi,putS,upd,this]
      ·simp [hi]
     rw [hs,hs]
 cases r with
 | halt x w'=>cases x<;>exact h.elim
 | ok x w' =>
   cases x
   case value v=>exact key _ _ h
   case skip=>exact key _ _ h
   case defer d =>
    obtain ⟨u,e,hk⟩:=h
    have e:=congrArg (fun a:Act=>a.defers.length) e
    exfalso
    revert e
    cases o.dst<;>simp [Act.put,mkA]
   case enter f args =>
    refine ⟨h.1,CallsIn.mono h.2 fun e w'' he=>?_⟩
    cases e with
    | returned v=>exact key _ _ he
    | panicked c=>exact he
    | outgrown=>obtain ⟨_,_,h⟩:=he;exact h.elim
   case row row args=>exact ⟨h.1,RowsIn.mono h.2 fun v w'' he=>key _ _ he⟩
   case round l f tmps assign body =>
    refine ⟨h.1,RoundIn.mono h.2 fun e w'' he=>?_⟩
    cases e with
    | returned v=>exact key _ _ he
    | panicked c=>exact he
    | outgrown=>obtain ⟨_,_,h⟩:=he;exact h.elim
   all_goals exact h.elim

theorem ev_putS {s:Sl} {dst:Option Nat} {v:Value} {x:Operand} (h:∀ d,dst=some d→x≠.tmp d):ev n (putS s dst v) x=ev n s x:=by
 cases dst with
 | none=>rfl
 | some d =>
   cases x with
   | tmp t =>
     have hne:Nat.beq t d=false:=by
      cases e:Nat.beq t d
      ·rfl
      ·exact absurd (congrArg Operand.tmp (Nat.eq_of_beq_eq_true e)) (h d rfl)
     simp [ev,putS,upd,hne]
   | _=>rfl

theorem Op1.congr {o:Oper} {s:Sl} {dst:Option Nat} {u:Value} {w:World} {K:Value→World→Prop} (hn:Oper.nice o=true) (ha:∀ d,dst=some d→d ∉ o.looksAt all.toArray) :
  (Op1 P ro n all o s w K→Op1 P ro n all o (putS s dst u) w K)∧(Op1 P ro n all o (putS s dst u) w K→Op1 P ro n all o s w K):=by
 have hx:∀ x∈o.op.operands,ev n s x=ev n (putS s dst u) x:=fun x hx=>(ev_putS fun d hd hxd=>ha d hd (by
  subst hxd
  exact List.mem_append_left _ (List.mem_filterMap.2 ⟨.tmp d,by simpa using hx,rfl⟩))).symm
 have hw:Region.wanted o (fun j=>asB ((gdst all j).bind (fun d=>if d<n then some (s d) else none)))=Region.wanted o (fun j=>asB ((gdst all j).bind (fun d=>if d<n then some (putS s dst u d) else none))):=by
  unfold Region.wanted
  cases hg:o.guard with
  | none=>rfl
  | some gw =>
    obtain ⟨g,want⟩:=gw
    simp only
    have:(gdst all g).bind (fun d=>if d<n then some (s d) else none)=(gdst all g).bind (fun d=>if d<n then some (putS s dst u d) else none):=by
     cases hq:gdst all g with
     | none=>rfl
     | some t =>
       simp only [Option.bind_some]
       cases dst with
       | none=>rfl
       | some d =>
         have hne:t≠d:=fun e=>ha d rfl (by
          subst e
          refine List.mem_append_right _ ?_
          have:(all.toArray[g]?).bind (·.dst)=some t:=by simpa [gdst] using hq
          simp only [hg,this,Option.toList,List.mem_singleton])
         have hb:Nat.beq t d=false:=by
          cases e:Nat.beq t d
          ·rfl
          ·exact absurd (Nat.eq_of_beq_eq_true e) hne
         simp [putS,upd,hb]
    rw [this]
 unfold Op1
 rw [←hw]
 split
 ·exact ⟨OpW.congr hn hx,OpW.congr hn fun x h=>(hx x h).symm⟩
 ·exact ⟨id,id⟩

theorem putS_comm (s:Sl) {x y:Option Nat} (v u:Value) (h:∀ d,x=some d→y≠some d):putS (putS s x v) y u=putS (putS s y u) x v:=by
 cases x with
 | none=>rfl
 | some d =>
   cases y with
   | none=>rfl
   | some e =>
     have hne:d≠e:=fun he=>h d rfl (he ▸ rfl)
     funext i
     simp only [putS,upd]
     cases h1:Nat.beq i e<;>cases h2:Nat.beq i d<;>simp
     exact absurd ((Nat.eq_of_beq_eq_true h2).symm.trans (Nat.eq_of_beq_eq_true h1)) hne

def AnyS (P:Program) (ro:Option Nat) (n:Nat) (all:List Oper) (S:World→Prop) (K:Sl→World→Prop):Nat→Array Bool→Sl→World→Prop
 | 0,listed,s,w=>S w∧Region.ready .any all.toArray listed=[]∧K s w
 | fuel+1,listed,s,w=>S w∧(Region.ready .any all.toArray listed=[]→K s w) ∧
   ∀ i∈Region.ready .any all.toArray listed,∀ o,all[i]?=some o→Op1 P ro n all o s w (fun v w'=>AnyS P ro n all S K fuel (listed.setIfInBounds i true) (putS s o.dst v) w')

theorem AnyS.succ {fuel:Nat} {listed:Array Bool} {s:Sl} {w:World}:AnyS P ro n all S K (fuel+1) listed s w↔(S w∧(Region.ready .any all.toArray listed=[]→K s w) ∧
   ∀ i∈Region.ready .any all.toArray listed,∀ o,all[i]?=some o→Op1 P ro n all o s w (fun v w'=>AnyS P ro n all S K fuel (listed.setIfInBounds i true) (putS s o.dst v) w')):=Iff.rfl
theorem AnyS.zero {listed:Array Bool} {s:Sl} {w:World}:AnyS P ro n all S K 0 listed s w↔(S w∧Region.ready .any all.toArray listed=[]∧K s w):=Iff.rfl

theorem AnyS.inS:∀ {fuel:Nat} {listed:Array Bool} {s:Sl} {w:World},AnyS P ro n all S K fuel listed s w→S w
 | 0,_,_,_,h=>h.1
 | _+1,_,_,_,h=>h.1

theorem Op1.sound {i:Nat} {o:Oper} {s:Sl} {w:World} {K':Value→World→Prop} {KK:Act→World→Prop} {Q:Exit→Act→World→Prop} {ds:List Deferred} (hi:all[i]?=some o) (h:Op1 P ro n all o s w K')
  (hk:∀ v w',K' v w'→KK (mkA n (putS s o.dst v) ds) w'):wpOpIn (Fw ro) 0 P all.toArray Q i KK (mkA n s ds) w:=by
 unfold wpOpIn
 simp only [List.getElem?_toArray,hi]
 have hyf:(yielded all.toArray (mkA n s ds).tmps)=(fun j=>asB ((gdst all j).bind (fun d=>if d<n then some (s d) else none))) :=
  funext fun j=>yielded_mkA all n s ds j
 rw [hyf]
 unfold Op1 at h
 split
 ·rename_i hw
  rw [if_pos hw] at h
  unfold OpW at h
  obtain ⟨ha,hu⟩:=h ds
  refine ⟨ha,?_⟩
  revert hu
  generalize (o.semAt (Fw ro).round (mkA n s ds).eval).run P w=r
  intro hu
  have key:∀ v w',(∃ u,(mkA n s ds).put o.dst v=(mkA n s ds).put o.dst u∧K' u w')→KK ((mkA n s ds).put o.dst v) w':=fun v w' ⟨u,e,h⟩=>by
   rw [e,mkA_put];exact hk _ _ h
  cases r with
  | halt x w'=>cases x<;>exact hu.elim
  | ok x w' =>
    cases x
    case value v=>exact key _ _ hu
    case skip=>exact key _ _ hu
    case defer d =>
     obtain ⟨u,e,h⟩:=hu
     have e:=congrArg (fun a:Act=>a.defers.length) e
     exfalso
     revert e
     cases o.dst<;>simp [Act.put,mkA]
    case enter f args =>
     refine ⟨hu.1,CallsIn.mono hu.2 fun e w'' he=>?_⟩
     cases e with
     | returned v=>exact key _ _ he
     | panicked c=>exact he.elim
     | outgrown=>obtain ⟨_,_,h⟩:=he;exact h.elim
    case row row args=>exact ⟨hu.1,RowsIn.mono hu.2 fun v w'' he=>key _ _ he⟩
    case round l f tmps assign body =>
     refine ⟨hu.1,RoundIn.mono hu.2 fun e w'' he=>?_⟩
     cases e with
     | returned v=>exact key _ _ he
     | panicked c=>exact he.elim
     | outgrown=>obtain ⟨_,_,h⟩:=he;exact h.elim
    all_goals exact hu.elim
 ·rename_i hw
  rw [if_neg hw] at h
  refine ⟨fun _ _=>trivial,?_⟩
  rw [mkA_put]
  exact hk _ _ h

theorem AnyS.sound {ds:List Deferred} {Q:Exit→Act→World→Prop} (hQ:∀ s w,K s w→Q .normal (mkA n s ds) w):∀ (fuel:Nat) (listed:Array Bool) (s:Sl) (w:World),AnyS P ro n all S K fuel listed s w →
  wpAnyIn (Fw ro) 0 P .any all.toArray Q fuel listed (mkA n s ds) w:=by
 intro fuel
 induction fuel with
 | zero=>intro listed s w h;exact ⟨h.2.1,hQ _ _ h.2.2⟩
 | succ fuel ih =>
   intro listed s w h
   refine ⟨fun h0=>hQ _ _ (h.2.1 h0),fun i hi=>?_⟩
   obtain ⟨_,o,ho,_⟩:=mem_ready.1 hi
   have ho':all[i]?=some o:=by simpa using ho
   exact Op1.sound ho' (h.2.2 i hi o ho') fun v w' hk=>ih _ _ _ hk

def niceAll (all:List Oper):Bool:=all.all Oper.nice
theorem niceAll.get (h:niceAll all=true) {i:Nat} {o:Oper} (hi:all[i]?=some o):Oper.nice o=true:=List.all_eq_true.1 h o (List.mem_of_getElem? hi)

def Quiet (P:Program) (ro:Option Nat) (n:Nat) (all:List Oper) (S:World→Prop) (o:Oper) (v:Value) (s:Sl):Prop :=
 ∀ w,S w→Op1 P ro n all o s w (fun u w'=>(∀ d,o.dst=some d→u=v)∧w'=w)

theorem AnyS.first {i:Nat} {oi:Oper} {v:Value} (hn:niceAll all=true) (hi:all[i]?=some oi) :
  ∀ (fuel:Nat) (listed:Array Bool) (s:Sl) (w:World),
   (∀ j oj,all[j]?=some oj→j≠i→listed.getD j true=false→(∀ e∈oj.after,Region.binds .any e=true→e.on≠i)→oi.apart all.toArray oj=true) →
   i∈Region.ready .any all.toArray listed→Quiet P ro n all S oi v s→S w →
   AnyS P ro n all S K fuel (listed.setIfInBounds i true) (putS s oi.dst v) w→AnyS P ro n all S K (fuel+1) listed s w:=by
 have putv:∀ (s:Sl) (u:Value),(∀ d,oi.dst=some d→u=v)→putS s oi.dst u=putS s oi.dst v:=fun s u h=>by
  cases hd:oi.dst with
  | none=>rfl
  | some d=>rw [h d hd]
 intro fuel
 induction fuel with
 | zero =>
   intro listed s w _ hr hy hS H
   refine AnyS.succ.2 ⟨hS,fun h=>(by rw [h] at hr;cases hr),fun j hj oj hoj=>?_⟩
   by_cases hji:j=i
   ·subst hji
    have:oj=oi:=by rw [hi] at hoj;exact (Option.some.inj hoj).symm
    subst this
    refine (hy w hS).mono fun u w' ⟨h1,h2⟩=>?_
    subst h2;rw [putv s u h1];exact H
   ·have:=ready_mono hj hji
    rw [(AnyS.zero.1 H).2.1] at this
    cases this
 | succ fuel ih =>
   intro listed s w hfree hr hy hS H
   refine AnyS.succ.2 ⟨hS,fun h=>(by rw [h] at hr;cases hr),fun j hj oj hoj=>?_⟩
   by_cases hji:j=i
   ·subst hji
    have:oj=oi:=by rw [hi] at hoj;exact (Option.some.inj hoj).symm
    subst this
    refine (hy w hS).mono fun u w' ⟨h1,h2⟩=>?_
    subst h2;rw [putv s u h1];exact H
   ·obtain ⟨hjun,oj',hoj',hall⟩:=mem_ready.1 hj
    have:oj'=oj:=by
     have:all[j]?=some oj':=by simpa using hoj'
     rw [hoj] at this;exact (Option.some.inj this).symm
    subst this
    have hnot:∀ e∈oj'.after,Region.binds .any e=true→e.on≠i:=fun e he hb heq=>by
     have h1:=hall e he hb
     have h0:=(mem_ready.1 hr).1
     rw [heq] at h1
     rcases Nat.lt_or_ge i listed.size with h'|h'
     ·simp [h'] at h0 h1;rw [h0] at h1;cases h1
     ·simp [Array.getElem?_eq_none h'] at h1
    obtain ⟨a1,a2,a3⟩:=Oper.apart_spec (hfree j oj' hoj hji hjun hnot)
    have h1:=(Op1.congr (niceAll.get hn hoj) a1).2 ((AnyS.succ.1 H).2.2 j (ready_mono hj hji) oj' hoj)
    have hfree':∀ k ok,all[k]?=some ok→k≠i→(listed.setIfInBounds j true).getD k true=false →
      (∀ e∈ok.after,Region.binds .any e=true→e.on≠i)→oi.apart all.toArray ok=true:=fun k ok hk hki hun hno=>by
     refine hfree k ok hk hki ?_ hno
     by_cases hjk:j=k
     ·subst hjk;exact hjun
     ·rw [getD_set_ne true hjk] at hun;exact hun
    refine h1.mono fun u w' h3=>?_
    refine ih (listed.setIfInBounds j true) (putS s oj'.dst u) w' hfree' (ready_mono hr (Ne.symm hji)) (fun w hw=>(Op1.congr (niceAll.get hn hi) a3).1 (hy w hw)) h3.inS ?_
    rw [Array.setIfInBounds_comm _ _ hji,←putS_comm s v u a2]
    exact h3

def Takes (P:Program) (ro:Option Nat) (n:Nat) (all:List Oper) (S:World→Prop):List Nat→(Sl→Prop)→Sl→Prop
 | [],K,s=>K s
 | i::is,K,s=>∃ o v,all[i]?=some o∧(∀ w,S w→Ops P ro n all [o] (fun s' w'=>s'=putS s o.dst v∧w'=w) s w)∧Takes P ro n all S is K (putS s o.dst v)

theorem jjU {K:Sl→Prop} {s:Sl} (h:K s):Takes P ro n all S [] K s:=h
theorem jjT {i:Nat} {is:List Nat} {o:Oper} {v:Value} {K:Sl→Prop} {s:Sl} (ho:all[i]?=some o) (hq:∀ w,S w→Ops P ro n all [o] (fun s' w'=>s'=putS s o.dst v∧w'=w) s w)
  (h:Takes P ro n all S is K (putS s o.dst v)):Takes P ro n all S (i::is) K s:=⟨o,v,ho,hq,h⟩

def okTake (all:List Oper):List Nat→Array Bool→Bool
 | [],_=>true
 | i::is,listed=>(Region.ready .any all.toArray listed).contains i && Region.free .any all.toArray listed i && okTake all is (listed.setIfInBounds i true)
def listAll (listed:Array Bool) (is:List Nat):Array Bool:=is.foldl (fun l i=>l.setIfInBounds i true) listed

theorem AnyS.takes (hn:niceAll all=true):∀ (is:List Nat) {fuel:Nat} {listed:Array Bool} {s:Sl} {w:World},okTake all is listed=true→S w →
  Takes P ro n all S is (fun s'=>AnyS P ro n all S K fuel (listAll listed is) s' w) s→AnyS P ro n all S K (fuel+is.length) listed s w:=by
 intro is
 induction is with
 | nil=>intro fuel listed s w _ _ h;exact h
 | cons i is ih =>
   intro fuel listed s w hok hS h
   simp only [okTake,Bool.and_eq_true] at hok
   obtain ⟨⟨h1,h2⟩,h3⟩:=hok
   obtain ⟨o,v,ho,hq,hr⟩:=h
   have ho':all.toArray[i]?=some o:=by simpa using ho
   refine AnyS.first (v:=v) hn ho (fuel+is.length) listed s w (fun j oj hj=>Region.free_spec ho' h2 j oj (by simpa using hj)) (by simpa using h1) ?_ hS (ih h3 hS hr)
   intro w hw
   have:=hq w hw
   rw [op1_ops] at this
   refine this.mono fun u w' ⟨e1,e2⟩=>⟨fun d hd=>?_,e2⟩
   rw [hd] at e1
   have:=congrFun e1 d
   simpa [putS,upd] using this

theorem jjV (is:List Nat) {fuel:Nat} {listed:Array Bool} {s:Sl} {w:World} (hok:(niceAll all && Nat.ble is.length fuel && okTake all is listed)=true) (hS:S w)
  (h:Takes P ro n all S is (fun s'=>AnyS P ro n all S K (fuel-is.length) (listAll listed is) s' w) s):AnyS P ro n all S K fuel listed s w:=by
 simp only [Bool.and_eq_true] at hok
 have hle:is.length≤fuel:=by simpa using hok.1.2
 have:=AnyS.takes (K:=K) (fuel:=fuel-is.length) hok.1.1 is hok.2 hS h
 rwa [Nat.sub_add_cancel hle] at this

theorem jjX {fuel:Nat} {listed:Array Bool} {s:Sl} {w:World} (hr:(Region.ready .any all.toArray listed).isEmpty=true) (hS:S w) (h:K s w):AnyS P ro n all S K fuel listed s w:=by
 have hr':Region.ready .any all.toArray listed=[]:=List.isEmpty_iff.1 hr
 cases fuel with
 | zero=>exact ⟨hS,hr',h⟩
 | succ fuel=>exact ⟨hS,fun _=>h,fun i hi=>by rw [hr'] at hi;cases hi⟩

theorem jjW (i:Nat) {o:Oper} {fuel:Nat} {listed:Array Bool} {s:Sl} {w:World} (hr:(Nat.blt 0 fuel && (Region.ready .any all.toArray listed == [i]))=true) (ho:all[i]?=some o) (hS:S w)
  (h:Ops P ro n all [o] (fun s' w'=>AnyS P ro n all S K (fuel-1) (listed.setIfInBounds i true) s' w') s w):AnyS P ro n all S K fuel listed s w:=by
 simp only [Bool.and_eq_true,beq_iff_eq] at hr
 obtain ⟨hf,hr⟩:=hr
 have hf:0<fuel:=by simpa using hf
 obtain ⟨f,rfl⟩:∃ f,fuel=f+1:=⟨fuel-1,by omega⟩
 refine ⟨hS,fun h0=>(by rw [hr] at h0;cases h0),fun j hj oj hoj=>?_⟩
 rw [hr] at hj
 obtain rfl:j=i:=by simpa using hj
 obtain rfl:o=oj:=by rw [ho] at hoj;exact Option.some.inj hoj
 rw [op1_ops] at h;exact h

theorem jjl (i j:Nat) {o q:Oper} {fuel:Nat} {listed:Array Bool} {s:Sl} {w:World} (hr:(Nat.blt 0 fuel && (Region.ready .any all.toArray listed == [i,j]))=true) (ho:all[i]?=some o) (hq:all[j]?=some q) (hS:S w)
  (h:Ops P ro n all [o] (fun s' w'=>AnyS P ro n all S K (fuel-1) (listed.setIfInBounds i true) s' w') s w)
  (h2:Ops P ro n all [q] (fun s' w'=>AnyS P ro n all S K (fuel-1) (listed.setIfInBounds j true) s' w') s w):AnyS P ro n all S K fuel listed s w:=by
 simp only [Bool.and_eq_true,beq_iff_eq] at hr
 obtain ⟨hf,hr⟩:=hr
 have hf:0<fuel:=by simpa using hf
 obtain ⟨f,rfl⟩:∃ f,fuel=f+1:=⟨fuel-1,by omega⟩
 refine ⟨hS,fun h0=>(by rw [hr] at h0;cases h0),fun k hk oj hoj=>?_⟩
 rw [hr] at hk
 rcases List.mem_cons.1 hk with rfl|hk
 ·obtain rfl:o=oj:=by rw [ho] at hoj;exact Option.some.inj hoj
  rw [op1_ops] at h;exact h
 ·obtain rfl:k=j:=by simpa using hk
  obtain rfl:q=oj:=by rw [hq] at hoj;exact Option.some.inj hoj
  rw [op1_ops] at h2;exact h2
end

theorem W.draw {P:Program} {ro:Option Nat} {n:Nat} {X:Ctx} {s:Sl} {ds:List Deferred} {w:World} {id:Nat} {ops:List Oper} [hm:Mixed P] (S:World→Prop)
  (h:∀ w1,Step w w1→AnyS P ro n ops S (fun s' w'=>X.nx s' ds w') ops.length (Array.replicate ops.length false) s w1):W P ro n (.region id ops.toArray true) X s ds w:=by
 unfold W
 refine wpIn_region_any hm.h ?_
 have h1:=h { w with drawn:=w.drawn+1 } ⟨(Below.refl _ w).drew⟩
 have:=AnyS.sound (ds:=ds) (Q:=X.post n) (fun s w hk=>⟨s,ds,rfl,hk⟩) _ _ _ _ h1
 simpa using this
attribute [irreducible] AnyS Takes

theorem eI {v:Value} {k:IntKind} {a:Int} (h:v=.int k a):v=.int k a:=h
theorem eB {v:Value} {a:Bool} (h:v=.bool a):v=.bool a:=h
theorem eP {v:Value} {a:Addr} (h:v=.pointer (some a)):v=.pointer (some a):=h
theorem eN {v:Value} (h:v=.pointer none):v=.pointer none:=h
theorem eS {v:Value} {a:Option Addr} {l c:Nat} (h:v=.slice a l c):v=.slice a l c:=h
theorem eT {v:Value} {a:ByteArray} (h:v=.string a):v=.string a:=h
theorem eA {v:Value} {a:Array Value} (h:v=.agg a):v=.agg a:=h
theorem eU {v:Value} {a:Array Value} (h:v=.tuple a):v=.tuple a:=h
theorem eF {v:Value} {f:Fn} {a b:Array Value} (h:v=.func f a b):v=.func f a b:=h
theorem eM {v:Value} {a:Option Nat} (h:v=.map a):v=.map a:=h

theorem PutO.frS {M:Nat→Prop} {w w':World} {b:Nat} {o:Obj} (p:PutO w w' b o) (hb:M b):Fr (fun _=>M) w w' :=
 ⟨by rw [p.size];exact Nat.le_refl _,fun k _ hk _ hm=>(p.other k (fun e=>hm (e ▸ hb))).trans hk,fun _ h=>.inl h⟩
theorem take_snoc_get {α:Type} {l:List α} {i:Nat} {x:α} (h:l[i]?=some x):l.take (i+1)=l.take i++[x]:=by
 obtain ⟨hi,rfl⟩:=List.getElem?_eq_some_iff.1 h
 exact List.take_succ_eq_append_getElem hi

theorem At.pre {w:World} {b o:Nat} {cs ds:List Value} (h:At w b o (cs++ds)):At w b o cs:=⟨fun i v hv=>h.h i v (by
 rw [List.getElem?_append_left (List.getElem?_eq_some_iff.1 hv).1];exact hv)⟩

theorem Bk.cell1 {w:World} {b e:Nat} {v:Value} (h:Bk w b [v] e):w.cell? ⟨b,0,none⟩=some v:=by have:=(Bk.toAt (h:=h)).h 0 v rfl;simpa using this
def MB (N b:Nat) (V:World) (k:Nat):Prop:=k<N∨∃ v,V.cell? ⟨b,0,none⟩=some v∧v.ownBlock=some k
theorem MB.lt {N b B e e' k':Nat} {agg:Bool} {V:World} {v:Value} {xs:List Value} {k:Nat} (hN:N≤V.heap.size) (hb:Bk V b [v] e) (ho:OwnL V B e' agg k' v xs) (h:MB N b V k):k<V.heap.size:=by
 rcases h with h|⟨v',hv,hk⟩
 ·omega
 ·rw [hb.cell1] at hv;cases hv
  exact (ho.block k hk).2
theorem MB.back {N n b e:Nat} {V V':World} {v:Value} {k:Nat} (hb:Bk V b [v] e) (g:Grow n V V') (h:MB N b V' k):MB N b V k:=by
 rcases h with h|⟨v',hv,hk⟩
 ·exact .inl h
 ·rw [g.cell hb.cell1] at hv;cases hv
  exact .inr ⟨v,hb.cell1,hk⟩
theorem MB.grow {N b:Nat} {V V':World} {k:Nat} (hb:b<N) (g:Grow N V V') (h:MB N b V' k):MB N b V k:=by
 rcases h with h|⟨v',hv,hk⟩
 ·exact .inl h
 ·refine .inr ⟨v',?_,hk⟩
  rw [←hv]
  exact (World.cell?_of_block (a:=⟨b,0,none⟩) (g.old b hb)).symm
theorem MB.same {N b e e':Nat} {V V':World} {v:Value} {k:Nat} (hb:Bk V b [v] e) (hb':Bk V' b [v] e') (h:MB N b V' k):MB N b V k:=by
 rcases h with h|⟨v',hv,hk⟩
 ·exact .inl h
 ·rw [hb'.cell1] at hv;cases hv
  exact .inr ⟨v,hb.cell1,hk⟩
theorem MB.append {N b B e e':Nat} {V1 V2 V3:World} {v v2:Value} {o:Obj} (hbN:b<N) (hb:Bk V1 b [v] e) (hA:App B V1 V2 v) (hp:PutO V2 V3 b o) (hb3:Bk V3 b [v2] e') (hw:v2.ownBlock=v.ownBlock∨v2.ownBlock=some V1.heap.size):Fr (MB N b) V1 V3 :=
 ⟨by rw [hp.size];exact hA.g.size,fun k o' hk _ hm=>by
  have h1:v.ownBlock≠some k:=fun e=>hm (.inr ⟨v,hb.cell1,e⟩)
  have h2:k≠b:=fun e=>hm (.inl (by omega))
  exact (hp.other k h2).trans (hA.other hk h1),
  fun k hk=>by
   rcases hk with h|⟨v',hv,hk⟩
   ·exact .inl (.inl h)
   ·rw [hb3.cell1] at hv;cases hv
    rcases hw with h|h
    ·exact .inl (.inr ⟨v,hb.cell1,by rw [←h];exact hk⟩)
    ·rw [h] at hk;cases hk;exact .inr (Nat.le_refl _)⟩

class TB (P:Program) (t:Nat) (zs:outParam (List Value)) (place:outParam (Nat→Option (Nat×Nat))):Prop where
 h:∀ parts,P.built t parts=Instr.fill place zs.toArray parts
theorem TB.struct {P:Program} {t size bytes:Nat} {fs:Array Field} {zs:List Value} {places:List (Nat×Nat)} (hu:P.underlying t=some (.struct fs)) (hz:TS P t (.agg zs.toArray) size bytes)
  (hp:fs.toList.mapM (fun f=>(P.info? f.type).map fun i=>(f.offset,i.size))=some places):TB P t zs (fun i=>places[i]?):=⟨fun parts=>by
 obtain ⟨i,hi,hzz,_,_⟩:=hz.info
 simp only [Program.built,hi,hu,hzz,hp,Value.cells]
 congr 1
 funext i
 simp⟩
theorem TB.array {P:Program} {t e size bytes len s' b':Nat} {ze:Value} {zs:List Value} (hu:P.underlying t=some (.array len e)) (hz:TS P t (.agg zs.toArray) size bytes) (he:TS P e ze s' b'):TB P t zs (fun i=>some (i * s',s')):=⟨fun parts=>by
 obtain ⟨i,hi,hzz,_,_⟩:=hz.info
 obtain ⟨j,hj,_,hjs,_⟩:=he.info
 simp only [Program.built,hi,hu,hzz,hj,hjs,Value.cells]⟩

def setsL (cs:List Value) (off:Nat):List Value→List Value
 | []=>cs
 | v::vs=>setsL (cs.set off v) (off+1) vs
theorem foldl_sets (off:Nat):∀ (vs:List Value) (k:Nat) (cs:List Value),(vs.zipIdx k).foldl (fun (cs:Array Value) (x:Value×Nat)=>cs.setIfInBounds (off+x.2) x.1) cs.toArray=(setsL cs (off+k) vs).toArray:=by
 intro vs
 induction vs with
 | nil=>intro k cs;rfl
 | cons v vs ih =>
   intro k cs
   simp only [List.zipIdx_cons,List.foldl_cons,setsL]
   rw [List.setIfInBounds_toArray,ih]
   rfl
def fillL (place:Nat→Option (Nat×Nat)) (cs:List Value):List (Nat×Value)→Option (List Value)
 | []=>some cs
 | (i,v)::rest =>
   match place i with
   | none=>none
   | some (off,size)=>bif Nat.beq v.cells.toList.length size && Nat.ble (off+v.cells.toList.length) cs.length then fillL place (setsL cs off v.cells.toList) rest else none
theorem fillL_eq (place:Nat→Option (Nat×Nat)):∀ (parts:List (Nat×Value)) (cs r:List Value),fillL place cs parts=some r→Instr.fill place cs.toArray parts=some r.toArray:=by
 intro parts
 induction parts with
 | nil=>intro cs r h;simp only [fillL,Option.some.injEq] at h;subst h;rfl
 | cons p rest ih =>
   obtain ⟨i,v⟩:=p
   intro cs r h
   simp only [fillL] at h
   simp only [Instr.fill]
   cases hp:place i with
   | none=>rw [hp] at h;cases h
   | some os =>
     obtain ⟨off,size⟩:=os
     rw [hp] at h
     simp only at h ⊢
     cases hc:(Nat.beq v.cells.toList.length size && Nat.ble (off+v.cells.toList.length) cs.length) with
     | false=>rw [hc] at h;cases h
     | true =>
       rw [hc] at h
       simp only [cond_true] at h
       simp only [Bool.and_eq_true,Nat.beq_eq,Nat.ble_eq,Array.length_toList] at hc
       have hne:¬ ((decide (v.cells.size≠size) || decide (off+v.cells.size > cs.toArray.size))=true):=by simp;omega
       have e:Array.foldl (fun (cs:Array Value) (x:Value×Nat)=>cs.setIfInBounds (off+x.2) x.1) cs.toArray v.cells.zipIdx=(setsL cs off v.cells.toList).toArray:=by
        have:=foldl_sets off v.cells.toList 0 cs
        rw [←Array.foldl_toList,Array.toList_zipIdx]
        exact this
       rw [if_neg hne]
       exact (congrArg (fun a=>Instr.fill place a rest) e).trans (ih _ _ h)

theorem jjS {P:Program} {ro:Option Nat} {n:Nat} {all rest:List Oper} {K:Sl→World→Prop} {s:Sl} {w:World} {d ty:Nat} {pos:String} {af:Array Edge} {t:Nat} {cells zs:List Value} {place:Nat→Option (Nat×Nat)} {parts:Array (Nat×Operand)} [hb:TB P t zs place]
  (hf:fillL place zs (parts.toList.map fun (i,x)=>(i,ev n s x))=some cells) (h:Ops P ro n all rest K (upd s d (.agg cells.toArray)) w) :
  Ops P ro n all (⟨some d,.build t parts,ty,pos,af,none⟩::rest) K s w :=
 Ops.build (by rw [hb.h];exact fillL_eq _ _ _ _ hf) h

structure MapN {κ:Type} [DecidableEq κ] (encK:κ→Value) (w:World) (b:Nat) (m:List (κ×Value)) (k:κ) (st:Nat):Prop where
 h:∃ (es:Array MapEntry) (clock i:Nat),w.heap[b]?=some (.map es clock)∧es.toList.map (·.key)=m.map (fun p=>encK p.1)∧es.toList.map (·.val)=m.map (·.2) ∧
  (∀ e∈es.toList,e.born<clock)∧(es.toList.map (·.born)).Nodup∧(m.map (·.1)).findIdx? (fun x=>decide (k=x))=some i∧(es.toList.map (·.born))[i]?=some st

section
variable {κ:Type} [DecidableEq κ] {encK:κ→Value} {w w':World} {b c st:Nat} {o:Obj} {m:List (κ×Value)} {k:κ}
theorem MapN.toE (h:MapN encK w b m k st):MapE encK w b m:=by
 obtain ⟨es,cl,i,h1,h2,h3,h4,h5,_⟩:=h.h
 exact ⟨es,cl,h1,h2,h3,h4,h5⟩

theorem mget_none_idx (m:List (κ×Value)) (k:κ) (h:(m.map (·.1)).findIdx? (fun x=>decide (k=x))=none):mget m k=none:=by
 rw [←mget_idx,h];rfl
end

section rules
variable {P:Program} {ro:Option Nat} {n:Nat} {all rest:List Oper} {K:Sl→World→Prop} {s:Sl} {w:World} {d:Nat} {ty:Nat} {pos:String} {af:Array Edge}
variable {x y z':Operand} {t kt et b:Nat} {κ:Type} [DecidableEq κ] {encK:κ→Value} {m:List (κ×Value)} {k:κ}

theorem run_mapEntry {z:Value} {size bytes:Nat} [hk:KeyL P kt encK] [ht:TMap P t kt et] [hz:TS P et z size bytes] (hm:MapE encK w b m) :
  ∃ o st,(Instr.mapEntry t (.map (some b)) (encK k)).run P w=.ok (.tuple #[(mget m k).getD z,.int .i64 (st:Nat)]) (w.putObj b o)∧MapN encK (w.putObj b o) b (mset m k ((mget m k).getD z)) k st:=by
 obtain ⟨es,c,h1,h2,h3,h4,h5⟩:=hm.h
 have hlt:b<w.heap.size:=(Array.getElem?_eq_some_iff.1 h1).1
 have hf:=hk.find w k es.toList (m.map (·.1)) (by rw [h2,List.map_map];rfl)
 have hlen:es.size=m.length:=by have:=congrArg List.length h2;simpa using this
 cases hidx:(m.map (·.1)).findIdx? (fun x=>decide (k=x)) with
 | none =>
   rw [hidx] at hf
   refine ⟨.map (es.push { key:=encK k,val:=z,born:=c }) (c+1),c,?_,?_⟩
   ·rw [mget_none_idx m k hidx]
    simp only [Instr.mapEntry,Sem.run_bind,run_underlying ht.h,Result.andThen,run_getObj_m h1,hk.chk,hf,Option.map_none,run_setObj_m _ h1,run_zeroValue' w hz,Sem.run_pure]
    rfl
   ·rw [mget_none_idx m k hidx,Option.getD_none,mset_new m k z hidx]
    refine ⟨_,_,m.length,World.putObj_heap_same hlt,?_,?_,?_,?_,?_,?_⟩
    ·simp [h2]
    ·simp [h3]
    ·intro e he
     simp only [Array.toList_push,List.mem_append,List.mem_singleton] at he
     rcases he with he|rfl
     ·have:=h4 e he;omega
     ·simp
    ·rw [Array.toList_push,List.map_append,List.nodup_append]
     refine ⟨h5,by simp,?_⟩
     intro a ha b' hb'
     obtain ⟨e,he,rfl⟩:=List.mem_map.1 ha
     simp only [List.map_cons,List.map_nil,List.mem_singleton] at hb'
     have:=h4 e he
     omega
    ·rw [List.map_append,List.findIdx?_append,hidx]
     simp
    ·simp [←hlen]
 | some i =>
   rw [hidx] at hf
   obtain ⟨e1,e2,e3⟩:=mset_old m k ((mget m k).getD z) i hidx
   have hi:i<es.size:=by omega
   have hkey:es[i].key=encK k:=by
    have:=congrArg (fun l:List Value=>l[i]?) h2
    simp only [List.getElem?_map,Array.getElem?_toList] at this
    rw [Array.getElem?_eq_getElem hi] at this
    cases hmi:m[i]? with
    | none=>rw [hmi] at e3;cases e3
    | some p=>rw [hmi] at e3 this;simp at e3 this;rw [this,e3]
   have hval:mget m k=some es[i].val:=by
    rw [←mget_idx,hidx,Option.map_some]
    have:=congrArg (fun l:List Value=>l[i]?) h3
    simp only [List.getElem?_map,Array.getElem?_toList] at this
    rw [Array.getElem?_eq_getElem hi] at this
    rw [←this];rfl
   have hset:mset m k ((mget m k).getD z)=m:=by
    rw [e1,hval,Option.getD_some]
    apply List.ext_getElem?
    intro j
    rw [List.getElem?_set]
    by_cases hij:i=j
    ·subst hij
     simp only [if_true,e2]
     cases hmi:m[i]? with
     | none=>rw [hmi] at e3;cases e3
     | some p =>
       rw [hmi] at e3
       simp at e3
       have:=congrArg (fun l:List Value=>l[i]?) h3
       simp only [List.getElem?_map,Array.getElem?_toList] at this
       rw [Array.getElem?_eq_getElem hi,hmi] at this
       simp at this
       obtain ⟨p1,p2⟩:=p
       simp_all
    ·simp [hij]
   rw [hset]
   refine ⟨.map (es.modify i fun e=>{ e with key:=encK k }) c,es[i].born,?_,?_⟩
   ·have hb:=hk.bits k
    simp only [Instr.mapEntry,Sem.run_bind,run_underlying ht.h,Result.andThen,run_getObj_m h1,hk.chk,hf,Option.map_some,Array.getElem?_eq_getElem hi,Option.getD_some,hkey,Instr.keyThatStays,hb,if_true,Sem.run_pure,run_setObj_m _ h1,hval]
    simp [Array.getElem?_eq_getElem hi]
    rfl
   ·have hes:(es.modify i fun e=>{ e with key:=encK k })=es:=by
     apply Array.ext_getElem?
     intro j
     rw [Array.getElem?_modify]
     by_cases hij:i=j
     ·subst hij
      simp [Array.getElem?_eq_getElem hi,←hkey]
     ·simp [hij]
    rw [hes]
    exact ⟨es,c,i,World.putObj_heap_same hlt,h2,h3,h4,h5,hidx,by simp [hi]⟩

theorem Ops.mapEntry {z:Value} {size bytes:Nat} (hm:MapE encK w b m) (hx:ev n s x=.map (some b)) (hy:ev n s y=encK k) [hk:KeyL P kt encK] [ht:TMap P t kt et] [hz:TS P et z size bytes]
  (h:∀ w' o st,PutO w w' b o→MapN encK w' b (mset m k ((mget m k).getD z)) k st→Ops P ro n all rest K (upd s d (.tuple #[(mget m k).getD z,.int .i64 (st:Nat)])) w'):Ops P ro n all (⟨some d,.mapEntry t x y,ty,pos,af,none⟩::rest) K s w:=by
 obtain ⟨o,st,hr,hm'⟩:=run_mapEntry (P:=P) (t:=t) (k:=k) (z:=z) hm
 obtain ⟨es,c,h1,_⟩:=hm.h
 exact Ops.ofRun rfl (by simp [execOp,hx,hy,hr]) (h _ _ _ (putO_putObj o h1) hm')

theorem nodup_idx:∀ (l:List Nat) (i:Nat) (a:Nat),l.Nodup→l[i]?=some a→l.findIdx? (fun x=>((x:Nat):Int) == (a:Int))=some i
 | [],i,a,_,h=>by simp at h
 | x::l,0,a,_,h=>by
   simp only [List.getElem?_cons_zero,Option.some.injEq] at h
   subst h;simp [List.findIdx?_cons]
 | x::l,i+1,a,hn,h=>by
   simp only [List.getElem?_cons_succ] at h
   have hx:x≠a:=fun e=>by
    subst e
    exact (List.nodup_cons.1 hn).1 (List.mem_of_getElem? h)
   have ih:=nodup_idx l i a (List.nodup_cons.1 hn).2 h
   have hb:((x:Int) == (a:Int))=false:=by simp;omega
   rw [List.findIdx?_cons,hb,ih]
   simp

theorem run_entryStore {v:Value} {st:Nat} (hm:MapN encK w b m k st) :
  ∃ o,(Instr.entryStore t (.map (some b)) (.int .i64 (st:Nat)) v).run P w=.ok () (w.putObj b o)∧MapE encK (w.putObj b o) b (mset m k v):=by
 obtain ⟨es,c,i,h1,h2,h3,h4,h5,h6,h7⟩:=hm.h
 have hlt:b<w.heap.size:=(Array.getElem?_eq_some_iff.1 h1).1
 have hlen:es.size=m.length:=by have:=congrArg List.length h2;simpa using this
 obtain ⟨e1,e2,e3⟩:=mset_old m k v i h6
 have hi:i<es.size:=by omega
 have hkey:es[i].key=encK k:=by
  have:=congrArg (fun l:List Value=>l[i]?) h2
  simp only [List.getElem?_map,Array.getElem?_toList] at this
  rw [Array.getElem?_eq_getElem hi] at this
  cases hmi:m[i]? with
  | none=>rw [hmi] at e3;cases e3
  | some p=>rw [hmi] at e3 this;simp at e3 this;rw [this,e3]
 have hfind:es.findIdx? (fun e=>((e.born:Nat):Int) == (st:Int))=some i:=by
  have:=nodup_idx _ i st h5 h7
  rw [List.findIdx?_map] at this
  rw [←List.findIdx?_toArray,Array.toArray_toList] at this
  exact this
 refine ⟨.map (es.modify i fun e=>{ e with val:=v }) c,?_,?_⟩
 ·simp only [Instr.entryStore,Sem.run_bind,Result.andThen,run_getObj_m h1,asInt,asIntOf,Sem.run_pure,hfind,run_setObj_m _ h1]
 ·rw [e1]
  refine ⟨_,c,World.putObj_heap_same hlt,?_,?_,?_,?_⟩
  ·apply List.ext_getElem?
   intro j
   simp only [List.getElem?_map,Array.getElem?_toList,Array.getElem?_modify,List.getElem?_set]
   have hj:=congrArg (fun l:List Value=>l[j]?) h2
   simp only [List.getElem?_map,Array.getElem?_toList] at hj
   by_cases hij:i=j
   ·subst hij
    simp [Array.getElem?_eq_getElem hi,e2,hkey]
   ·simp only [hij,if_false];exact hj
  ·apply List.ext_getElem?
   intro j
   simp only [List.getElem?_map,Array.getElem?_toList,Array.getElem?_modify,List.getElem?_set]
   have hj:=congrArg (fun l:List Value=>l[j]?) h3
   simp only [List.getElem?_map,Array.getElem?_toList] at hj
   by_cases hij:i=j
   ·subst hij
    simp [Array.getElem?_eq_getElem hi,e2]
   ·simp only [hij,if_false];exact hj
  ·intro e he
   obtain ⟨j,hj⟩:=List.getElem?_of_mem he
   simp only [Array.getElem?_toList,Array.getElem?_modify] at hj
   by_cases hij:i=j
   ·subst hij
    simp [Array.getElem?_eq_getElem hi] at hj
    subst hj
    exact h4 es[i] (by simp)
   ·simp only [hij,if_false] at hj
    exact h4 e (List.mem_of_getElem? (by simpa using hj))
  ·have:(es.modify i fun e=>{ e with val:=v }).toList.map (·.born)=es.toList.map (·.born):=by
    apply List.ext_getElem?
    intro j
    simp only [List.getElem?_map,Array.getElem?_toList,Array.getElem?_modify]
    by_cases hij:i=j
    ·subst hij;simp [Array.getElem?_eq_getElem hi]
    ·simp [hij]
   rw [this];exact h5

theorem Ops.entryStore {v:Value} {st:Nat} (hm:MapN encK w b m k st) (hx:ev n s x=.map (some b)) (hy:ev n s y=.int .i64 (st:Nat)) (hv:ev n s z'=v)
  (h:∀ w' o,PutO w w' b o→MapE encK w' b (mset m k v)→Ops P ro n all rest K s w'):Ops P ro n all (⟨none,.entryStore t x y z',ty,pos,af,none⟩::rest) K s w:=by
 obtain ⟨o,hr,hm'⟩:=run_entryStore (P:=P) (t:=t) (k:=k) (v:=v) hm
 obtain ⟨es,c,i,h1,_⟩:=hm.h
 exact Ops.ofRunU rfl (by simp [execOp,hx,hy,hv,hr]) (h _ _ (putO_putObj o h1) hm')
end rules

def encII (p:Int×Int):Value:=.agg #[.int .i64 p.1,.int .i64 p.2]

theorem fin1C {P:Program} {fn:Func} {n t ty b size bytes:Nat} {R:Value→World→Prop} {s:Sl} {w:World} {cs:List Value} {dd:TypeDesc} {z:Value} (hf:fn.results=#[.cell t ty]) (ht:Nat.blt t n=true) (hs:s t=.pointer (some ⟨b,0,none⟩)) [hb:At w b 0 cs] [hu:TU P ty dd] (hag:TypeDesc.isAgg dd=true) [hz:TS P ty z size bytes] (hl:cs.length=size)
  (h:R (.agg cs.toArray) w):finR P fn n R s [] w:=by
 unfold finR
 refine ⟨rfl,.agg cs.toArray,?_,h⟩
 have e:(mkA n s []).tmps[t]?.getD undef=.pointer (some ⟨b,0,none⟩):=by
  rw [mkA_getElem?,if_pos (by simpa using ht)];exact hs
 have:=run_loadVar_agg (P:=P) (t:=ty) (w:=w) (b:=b) (o:=0) hu hag hz (cs:=cs) hl (fun i v hv=>by have:=hb.h i v hv;simpa using this)
 simp [results,hf,e,asAddr,this]

class RowI (w:World) (v:Value) (agg:outParam Bool) (k:outParam Nat) (xs:outParam (List Value)):Prop where
 h:RowV w agg k v xs
instance RowI.step {w w':World} {v:Value} {agg:Bool} {k:Nat} {xs:List Value} [hs:Step w w'] [h:RowI w v agg k xs]:RowI w' v agg k xs:=⟨h.h.ext ⟨hs.b⟩⟩

def upds (s:Sl):List (Nat×Value)→Sl
 | []=>s
 | (d,v)::l=>upd (upds s l) d v
def AllEq (s:Sl):List (Nat×Value)→Prop
 | []=>True
 | (d,v)::l=>s d=v∧AllEq s l
theorem upd_id {s:Sl} {d:Nat} {v:Value} (h:s d=v):upd s d v=s:=by
 funext i
 simp only [upd]
 cases e:Nat.beq i d
 ·rfl
 ·rw [Nat.eq_of_beq_eq_true e];exact h.symm
theorem upds_id {s:Sl}:∀ {l:List (Nat×Value)},AllEq s l→upds s l=s
 | [],_=>rfl
 | (d,v)::l,h=>by rw [upds,upds_id h.2,upd_id h.1]
theorem W.keep0 {P:Program} {ro:Option Nat} {n:Nat} {X:Ctx} {s:Sl} {ds:List Deferred} {w:World} {c:Code} (l:List (Nat×Value)) (hl:AllEq s l) (h:∀ s0,W P ro n c X (upds s0 l) ds w):W P ro n c X s ds w:=by
 rw [←upds_id hl];exact h s
theorem W.keep {P:Program} {ro:Option Nat} {n:Nat} {X:Ctx} {s:Sl} {ds:List Deferred} {w:World} {c:Code} {D:List Nat} {sO:Sl} (l:List (Nat×Value)) (hS:Same D sO s) (hl:AllEq s l) (h:∀ s0,Same D sO (upds s0 l)→W P ro n c X (upds s0 l) ds w):W P ro n c X s ds w:=by
 have e:=upds_id hl
 rw [←e] at hS ⊢;exact h s hS

section rules
variable {P:Program} {ro:Option Nat} {n:Nat} {all rest:List Oper} {K:Sl→World→Prop} {s:Sl} {w:World} {d:Nat} {ty:Nat} {pos:String} {af:Array Edge}
variable {x y:Operand} {t e:Nat}

theorem jF {agg:Bool} {size bytes j l c:Nat} {a:Option Addr} {xs:List Value} {v z:Value} {i:Int} {k:IntKind} (hx:ev n s x=.slice a l c) (hy:ev n s y=.int k i) [hrow:RowI w (.slice a l c) agg size xs] [ht:TSl P t e] [hz:TS P e z size bytes]
  (hi:i=(j:Int)) (hj:xs[j]?=some v)
  (h:∀ b o,At w b o v.cells.toList→Ops P ro n all rest K (upd s d (.pointer (some ⟨b,o,none⟩))) w):Ops P ro n all (⟨some d,.indexAddr t x y,ty,pos,af,none⟩::rest) K s w :=
 Ops.indexRow hx hy hrow.h hi hj h
theorem jP {cs:List Value} {b o off:Nat} {v:Value} {dd:TypeDesc} (hx:ev n s x=.pointer (some ⟨b,o+off,none⟩)) [hc:At w b o cs] (hv:cs[off]?=some v) [ht:TU P t dd] (hs:TypeDesc.isAgg dd=false) (h:Ops P ro n all rest K (upd s d v) w) :
  Ops P ro n all (⟨some d,.load t x,ty,pos,af,none⟩::rest) K s w :=
 jR (hc.get hv) hx hs h
theorem jQ {b o:Nat} {v z:Value} {dd:TypeDesc} {size bytes:Nat} (hx:ev n s x=.pointer (some ⟨b,o,none⟩)) [hc:At w b o v.cells.toList] [ht:TU P t dd] [hz:TS P t z size bytes] (hf:fitsV (TypeDesc.isAgg dd) size v=true)
  (h:Ops P ro n all rest K (upd s d v) w):Ops P ro n all (⟨some d,.load t x,ty,pos,af,none⟩::rest) K s w :=
 Ops.loadV hx hc hf h

theorem jt {b:ByteArray} {i:Int} {k:IntKind} {j:Nat} (hx:ev n s x=.string b) (hy:ev n s y=.int k i) (hi:i=(j:Int)) (hj:j<b.size) [ht:TU P t .string]
  (h:Ops P ro n all rest K (upd s d (.int .u8 (b[j].toNat:Int))) w):Ops P ro n all (⟨some d,.index t x y,ty,pos,af,none⟩::rest) K s w:=by
 subst hi
 refine Ops.ofRun rfl ?_ h
 have h0:(0:Int)≤(j:Int):=by omega
 simp [execOp,Instr.index,hx,hy,asIntOf,run_underlying ht.h,h0,getElem?_pos b j hj]

theorem jG {i:Int} {k:IntKind} {b o l c:Nat} {z:Value} {bytes j:Nat} (hx:ev n s x=.slice (some ⟨b,o,none⟩) l c) (hy:ev n s y=.int k i) (hi:i=(j:Int)) (hj:j<l) [ht:TSl P t e] [hz:TS P e z 1 bytes]
  (h:Ops P ro n all rest K (upd s d (.pointer (some ⟨b,o+j,none⟩))) w):Ops P ro n all (⟨some d,.indexAddr t x y,ty,pos,af,none⟩::rest) K s w :=
 jH j hx hy hi hj (by rw [Nat.mul_one];exact h)

theorem ja {t t':Nat} {a:Int} {k:IntKind} (hx:ev n s x=.int k a) (hy:ev n s y=.int k a) (h:Ops P ro n all rest K (upd s d (.bool true)) w) :
  Ops P ro n all (⟨some d,.binOp .eql t x y t',ty,pos,af,none⟩::rest) K s w :=
 jb hx hy (by rw [decide_eq_true rfl];exact h)
theorem Ops.storeC {b j:Nat} {cs:List Value} {v z:Value} {e bytes:Nat} (hx:ev n s x=.pointer (some ⟨b,0+j,none⟩)) (hy:ev n s y=v) [hb:Bk w b cs e] [hz:TS P t z 1 bytes] (hc:v.cells=#[v]) (h1:v.oneCell'=true) (hj:j<cs.length)
  (h:∀ w',PutO w w' b (.cells (cs.take j++[v]++cs.drop (j+1)).toArray e (0,0))→Ops P ro n all rest K s w'):Ops P ro n all (⟨none,.store t x y,ty,pos,af,none⟩::rest) K s w:=by
 have hcl:v.cells.toList=[v]:=by rw [hc]
 have hr:=run_storeVar_at (o:=0+j) hb hz (by rw [hc];rfl) (by omega) (by rw [hcl];simp [h1])
 rw [hcl,Nat.zero_add] at hr
 rw [Nat.zero_add] at hx
 exact Ops.ofRunU rfl (by simp [execOp,hx,hy,Instr.storeAt,Instr.sureAddr,hr]) (h _ (putO_setRow hb))
end rules

theorem Ops.buildSlice0 {P:Program} {ro:Option Nat} {n:Nat} {all rest:List Oper} {K:Sl→World→Prop} {s:Sl} {w:World} {d:Nat} {ty:Nat} {pos:String} {af:Array Edge} {t e:Nat} {z:Value} {size bytes:Nat} [ht:TSl P t e] [hz:TS P e z size bytes]
  (h:∀ b w',b=w.heap.size→w'.heap.size=w.heap.size+1→Step w w'→w'.heap[b]?=some (.cells #[] e (0,0))→Ops P ro n all rest K (upd s d (.slice (some ⟨b,0,none⟩) 0 0)) w') :
  Ops P ro n all (⟨some d,.buildSlice t 0 #[],ty,pos,af,none⟩::rest) K s w:=by
 refine Ops.ofRun (w':=w.alloc (.cells #[] e)) rfl ?_ (h w.heap.size _ rfl (by simp) ⟨(Below.refl _ w).alloc (Nat.le_refl _) _⟩ (World.alloc_heap_new w _))
 have e0:∀ f:Nat→Value,Array.map f (Array.range 0)=#[]:=fun f=>Array.eq_empty_of_size_eq_zero (by simp)
 simp [execOp,Instr.buildSlice,run_underlying ht.h,run_sizeOf' w hz,Instr.fill,newRow,e0]
theorem OwnL.empty {w:World} {B b e k:Nat} {agg:Bool} (hB:B≤b) (h:w.heap[b]?=some (.cells #[] e (0,0))):OwnL w B e agg k (.slice (some ⟨b,0,none⟩) 0 0) [] :=
 ⟨⟨by simp,.inr ⟨b,0,#[],rfl,hB,h,by simp,by simp [maxLen],by simp,by simp⟩⟩,by simp,by simp⟩
theorem Bk.row {w:World} {b e:Nat} {xs:List Value} (h:Bk w b xs e) (hf:∀ x∈xs,fitsV false 1 x=true) (hl:xs.length≤140737488355328):RowV w false 1 (.slice (some ⟨b,0,none⟩) xs.length xs.length) xs :=
 ⟨hl,hf,.inr ⟨b,0,_,rfl,Nat.le_refl _,fun j x hx=>⟨fun i v hv=>by
  have hf':=hf x (List.mem_of_getElem? hx)
  have hx1:x.cells.toList=[x]:=by cases x<;>simp [fitsV] at hf'<;>rfl
  rw [hx1] at hv
  cases i with
  | zero=>simp at hv;subst hv;have:=(Bk.toAt (h:=h)).h j x hx;simpa using this
  | succ i=>simp at hv⟩⟩⟩

end Go.Proofs.YtbafmbpmiiplkaaGreatDoor

namespace Go.Proofs.YtbafmbpmiiplkaaGreatDoor
open Go.ChangeShapes Go.WideShapes Go.ChangeAt Go.RowKit Go.WideElems

theorem spot_none {w:World} {a:Addr} {v:Value} (h:w.cell? (a.add 0)=some v):a.spot=none:=by simpa [Addr.add] using World.cell?_spot h
theorem at_of_cells {w:World} {a:Addr} {n:Nat} {cs:List Value} (h:w.cells? 0 a n=some cs):cs.length=n∧(0<n→∃ b o,a=⟨b,o,none⟩∧At w b o cs):=by
 unfold World.cells? at h
 rw [if_pos (Nat.zero_le _)] at h
 have hl:cs.length=n:=by simpa using Lib.mapM_length h
 refine ⟨hl,fun hn=>?_⟩
 have key:∀ (i:Nat) (v:Value),cs[i]?=some v→w.cell? (a.add i)=some v:=fun i v hv=>by
  have hi:i<n:=by rw [←hl];exact (List.getElem?_eq_some_iff.1 hv).1
  obtain ⟨b,h1,h2⟩:=Lib.mapM_at h i i (by simp [hi])
  rw [hv] at h1;cases h1;exact h2
 obtain ⟨b,o,sp⟩:=a
 have h0:0<cs.length:=by omega
 have hsp:sp=none:=spot_none (key 0 cs[0] (by simp [h0]))
 subst hsp
 exact ⟨b,o,rfl,⟨fun i v hv=>by have:=key i v hv;rwa [Addr.add_lit] at this⟩⟩

theorem mem_weightsAll {H:Type} {P:Program} {e:TypeId}:∀ {l:List (DataW H)} {d:DataW H},d∈l→∀ n∈d.weights P e,n∈DataW.weightsAll P e l
 | [],_,h,_,_=>by cases h
 | a::r,d,h,n,hn=>by
   simp only [DataW.weightsAll,List.mem_append]
   rcases List.mem_cons.1 h with rfl|h
   ·exact .inl hn
   ·exact .inr (mem_weightsAll h n hn)
def ofCells (agg:Bool) (cs:List Value):Value:=if agg then .agg cs.toArray else cs.headD undef
theorem rowV_of_trod {H:Type} {enc:TypeId×Value→H} {P:Program} {W:World} {sp:Nat→Bool} {n t e:Nat} {v:Value} {x:DataW H×List MemPlace} [ht:TSl P t e] {k:Nat} {agg:Bool} (hk:P.cellsOf e=k) (hk0:0<k) (hone:agg=false→k=1)
  (hsh:∀ n' c z,agg=false→DataW.trod enc P W 0 sp true n' e [c]=some z→fitsV false 1 c=true) (hby:0<P.bytesOf e) (h:DataW.trod enc P W 0 sp true n t [v]=some x) (hw:∀ q∈x.1.weights P t,q≤reachBytes) :
  ∃ a c vs,v=.slice a vs.length c∧RowV W agg k v vs∧∀ y∈vs,∃ n' z,DataW.trod enc P W 0 sp true n' e y.cells.toList=some z∧∀ q∈z.1.weights P e,q≤reachBytes:=by
 rcases Deep.open_slice ht.h h with ⟨hcs,rfl⟩|⟨a,len,cap,m,n',D,Pl,hcs,_,hl,hm,hme,rfl,hel⟩
 ·cases hcs
  exact ⟨none,0,[],rfl,RowV.nilS _ _ _ _ _,by simp⟩
 ·cases hcs
  have hlm:len≤m:=by rw [hme];split<;>omega
  have hwt:(len+(m-len)) * P.bytesOf e≤reachBytes:=hw _ (by simp [DataW.weights,ht.h])
  have hlen:len≤140737488355328:=by
   have h1:len * 1≤(len+(m-len)) * P.bytesOf e:=Nat.mul_le_mul (by omega) hby
   have h2:reachBytes=140737488351232:=rfl
   omega
  have hC:∀ i,i<len→∃ cs',W.cells? 0 (a.add (i * k)) k=some cs'∧DataW.trod enc P W 0 sp true n' e cs'=some (D i,Pl i):=fun i hi=>by
   have:=hel i (by omega)
   rwa [hk] at this
  have hV:∀ i,i<len→∃ cs',W.cells? 0 (a.add (i * k)) k=some cs'∧DataW.trod enc P W 0 sp true n' e cs'=some (D i,Pl i)∧fitsV agg k (ofCells agg cs')=true∧(ofCells agg cs').cells.toList=cs':=fun i hi=>by
   obtain ⟨cs',h1,h2⟩:=hC i hi
   obtain ⟨hl',_⟩:=at_of_cells h1
   refine ⟨cs',h1,h2,?_⟩
   cases agg with
   | true=>exact ⟨by simp [ofCells,fitsV,hl'],by simp [ofCells,Value.cells]⟩
   | false =>
     obtain rfl:=hone rfl
     obtain ⟨c,rfl⟩:=List.length_eq_one_iff.1 hl'
     have hf:=hsh n' c _ rfl h2
     refine ⟨hf,?_⟩
     show c.cells.toList=[c]
     cases c<;>simp [fitsV] at hf<;>rfl
  refine ⟨some a,cap,(List.range len).map fun i=>ofCells agg ((W.cells? 0 (a.add (i * k)) k).getD []),by simp,⟨by simpa using hlen,fun y hy=>?_,?_⟩,fun y hy=>?_⟩
  ·obtain ⟨i,hi,rfl⟩:=List.mem_map.1 hy
   obtain ⟨cs',h1,h2,h3,h4⟩:=hV i (by simpa using hi)
   rw [h1];exact h3
  ·by_cases h0:len=0
   ·subst h0;exact .inl ⟨rfl,some a,cap,by simp⟩
   ·right
    obtain ⟨cs0,h1,_⟩:=hV 0 (by omega)
    obtain ⟨b,o,hab,_⟩:=(at_of_cells h1).2 hk0
    obtain ⟨b',o',sp'⟩:=a
    have hs':sp'=none:=by simpa [Addr.add] using congrArg Addr.spot hab
    subst hs'
    refine ⟨b',o',cap,by simp,by simpa using hl,fun j y hy=>?_⟩
    have hj:j<len:=by
     have:=(List.getElem?_eq_some_iff.1 hy).1
     simpa using this
    obtain ⟨cs',h1,h2,h3,h4⟩:=hV j hj
    have e:y=ofCells agg cs':=by
     simp [hj] at hy
     rw [←hy,h1];rfl
    rw [e,h4]
    obtain ⟨b2,o2,e2,hA⟩:=(at_of_cells h1).2 hk0
    rw [Addr.add_lit] at e2
    cases e2
    exact hA
  ·obtain ⟨i,hi,rfl⟩:=List.mem_map.1 hy
   have hi':i<len:=by simpa using hi
   obtain ⟨cs',h1,h2,h3,h4⟩:=hV i hi'
   rw [h1]
   refine ⟨n',(D i,Pl i),?_,fun q hq=>hw q ?_⟩
   ·show DataW.trod enc P W 0 sp true n' e (ofCells agg cs').cells.toList=_
    rw [h4];exact h2
   ·simp only [DataW.weights,ht.h,List.mem_cons,List.mem_append]
    exact .inr (.inl (mem_weightsAll (List.mem_map.2 ⟨i,hi,rfl⟩) q hq))

theorem exists_map {α:Type} {enc:α→Value} {Q:α→Prop}:∀ {vs:List Value},(∀ y∈vs,∃ a,y=enc a∧Q a)→∃ xs:List α,vs=xs.map enc∧∀ a∈xs,Q a
 | [],_=>⟨[],rfl,by simp⟩
 | y::vs,h=>by
   obtain ⟨a,rfl,hq⟩:=h y (by simp)
   obtain ⟨xs,rfl,hxs⟩:=exists_map fun z hz=>h z (List.mem_cons_of_mem _ hz)
   exact ⟨a::xs,rfl,fun b hb=>by rcases List.mem_cons.1 hb with rfl|hb;exact hq;exact hxs b hb⟩

theorem trodAll_stays {H:Type} {enc:TypeId×Value→H} {P:Program} (hl:laidOutB P=true) {W W':World} {sp:Nat→Bool} (hb:Below W.heap.size W W'):∀ {ts:List TypeId} {vs:List Value} {ds:List (DataW H)} {ps:List MemPlace},
  (∀ t∈ts,P.readableRec t=true∧t<P.types.size)→DataW.TrodAll enc P W 0 (fun _=>true) true ts vs ds ps→(∀ x∈ps,x.block<W.heap.size)→(∀ x∈ps,sp x.block=true)→DataW.TrodAll enc P W' 0 sp true ts vs ds ps
 | [],[],[],_,_,h,_,_=>h
 | t::ts,v::vs,d::ds,ps,hts,⟨p,q,h1,h2,e⟩,hlt,hsp=>by
   subst e
   refine ⟨p,q,Trod_stays hl (hts t (by simp)).1 (hts t (by simp)).2 h1 (fun x hx=>hb.same (hlt x (List.mem_append_left _ hx))) (fun x hx=>hsp x (List.mem_append_left _ hx)),?_,rfl⟩
   exact trodAll_stays hl hb (fun t ht=>hts t (List.mem_cons_of_mem _ ht)) h2 (fun x hx=>hlt x (List.mem_append_right _ hx)) (fun x hx=>hsp x (List.mem_append_right _ hx))

theorem law_post {H:Type} {enc:TypeId×Value→H} {P:Program} {fn:Func} {s:ChangeSpec} {W W':World} {args:Array Value} {ds gs:List (DataW H)} {before:List MemPlace} {tb:Nat}
  (hW:DataW.Whole enc P fn.params.toList s.vars false W args.toList ds gs before) (hs:s.vars=[]) (hfn:s.fn H (ds++gs)={ results:=[.lit (.bool true)],args:=ds })
  (hres:fn.resultTypes=#[tb]) (htb:P.underlying tb=some .bool) (hl:laidOutB P=true) (hts:∀ t∈fn.params.toList,P.readableRec t=true∧t<P.types.size) (hb:Below W.heap.size W W') :
  s.post enc P fn false true false false W args (.bool true) W':=by
 have hlt:=hW.lt
 have hW':=hW
 obtain ⟨p,q,hA,hV,rfl,_,_⟩:=hW
 rw [hs] at hV
 obtain ⟨rfl,rfl⟩:=trodVars_none hV
 rw [List.append_nil] at hlt hW'
 refine ⟨ds,[],p,[],p,[],hW',?_,?_,?_,World.keptBut_mono (fun x hx=>⟨hx,.inr (.inl hx)⟩) (hb.frame _),fun h=>by cases h⟩
 ·rw [hfn,hres]
  exact trodAll_mk1 ⟨1,by simp [DataW.trod,Value.cells,htb]⟩
 ·rw [hfn]
  exact trodAll_stays hl hb hts hA hlt fun x hx=>by simpa using hlt x hx
 ·rw [hfn,hs];rfl

theorem law_calls {H:Type} {enc:TypeId×Value→H} {P:Program} {f:Nat} {fn:Func} {s:ChangeSpec} {W:World} {args:Array Value} {ds gs:List (DataW H)} {before:List MemPlace} {tb:Nat}
  (hW:DataW.Whole enc P fn.params.toList s.vars false W args.toList ds gs before) (hs:s.vars=[]) (hfn:s.fn H (ds++gs)={ results:=[.lit (.bool true)],args:=ds })
  (hres:fn.resultTypes=#[tb]) (htb:P.underlying tb=some .bool) (hl:laidOutB P=true) (hts:∀ t∈fn.params.toList,P.readableRec t=true∧t<P.types.size)
  (hct:Ct P f args.toList W (fun v _=>v=.bool true)):Calls P f args W fun e W'=>∃ v,e=.returned v∧s.post enc P fn false true false false W args v W':=by
 unfold Ct at hct
 rw [Array.toArray_toList] at hct
 refine hct.mono fun e W' ⟨v,he,hE,hv⟩=>?_
 subst hv
 exact ⟨_,he,law_post hW hs hfn hres htb hl hts hE.b⟩
end Go.Proofs.YtbafmbpmiiplkaaGreatDoor
namespace Go.Proofs.YtbafmbpmiiplkaaGreatDoor
open Go.RowKit

theorem RowV.place' {w:World} {agg:Bool} {k l c j:Nat} {a:Option Addr} {xs:List Value} {x:Value} (h:RowV w agg k (.slice a l c) xs) (hj:xs[j]?=some x):∃ b o,a=some ⟨b,o,none⟩∧At w b (o+j * k) x.cells.toList:=by
 rcases h.at_ with ⟨rfl,_⟩|⟨b,o,c',hv,hl,hc⟩
 ·simp at hj
 ·simp only [Value.slice.injEq] at hv
  exact ⟨b,o,hv.1,hc j x hj⟩

theorem stepR_scope {P:Program} {b:Frame} {a:Act} {k:List Item} {cs:List Frame} {w:World} {c:Code}:step P (lone (b.atR a (.code (.scope c)::k)) cs w)=.next (lone (b.atR a (.code c::.inScope c::k)) cs w) :=
 step_lone_go (by simp [stepG,stepG.exec,Frame.atR])
theorem stepR_inScope {P:Program} {b:Frame} {a:Act} {k:List Item} {cs:List Frame} {w:World} {c:Code}:step P (lone (b.atR a (.inScope c::k)) cs w)=.next (lone (b.atR a k) cs w) :=
 step_lone_go (by simp [stepG,stepG.exec,Frame.atR])
theorem wpIn_scope_straight {F:Fence} {n:Nat} {P:Program} {Q:Exit→Act→World→Prop} {a:Act} {w:World} {c:Code} (h:c.wpIn F n P Q a w) (hng:∀ l a w,¬ Q (.goto l) a w):(Code.scope c).wpIn F n P Q a w:=by
 intro b k cs hro hb hr
 have h0:(lone (b.atR a (.code (.scope c)::k)) cs w).fenced P F:=fenced_calm hb hr rfl
 obtain ⟨e,a₁,w₁,hq,harr⟩:=h b (.inScope c::k) cs hro hb hr
 cases e with
 | normal=>exact ⟨.normal,a₁,w₁,hq,.head h0 stepR_scope (StepsIn.trans harr (.one (fenced_calm hb hr rfl) stepR_inScope))⟩
 | exit id' =>
   have hx:exitTo id' (.inScope c::k)=exitTo id' k:=by simp [exitTo]
   exact ⟨.exit id',a₁,w₁,hq,fun k' hk=>.head h0 stepR_scope (harr.1 k' (by rw [hx];exact hk)),
    fun hr' hk=>let ⟨k₁,h1,h2⟩:=harr.2 hr' (by rw [hx];exact hk);⟨k₁,h1,.head h0 stepR_scope h2⟩⟩
 | goto l=>exact (hng _ _ _ hq).elim
 | ret=>exact ⟨_,a₁,w₁,hq,.of_steps (.one h0 stepR_scope) harr⟩
 | panic ch=>exact ⟨_,a₁,w₁,hq,.of_steps (.one h0 stepR_scope) harr⟩
 | outgrown=>exact ⟨_,a₁,w₁,hq,.of_steps (.one h0 stepR_scope) harr⟩
theorem jjH {P:Program} {ro:Option Nat} {n:Nat} {X:Ctx} {s:Sl} {ds:List Deferred} {w:World} {c:Code} (h:W P ro n c X s ds w):W P ro n (.scope c) X s ds w:=by
 unfold W at h ⊢
 exact wpIn_scope_straight h fun l a w hq=>hq
theorem jjI {P:Program} {ro:Option Nat} {n:Nat} {X:Ctx} {s:Sl} {ds:List Deferred} {w:World} {l:Nat} (h:X.nx s ds w):W P ro n (.label l) X s ds w:=by
 unfold W
 exact wpIn_label ⟨s,ds,rfl,h⟩

section rules
variable {P:Program} {ro:Option Nat} {n:Nat} {all rest:List Oper} {K:Sl→World→Prop} {s:Sl} {w:World} {d:Nat} {ty:Nat} {pos:String} {af:Array Edge}
variable {x y:Operand}

theorem Ops.ofRunN {op:Op} {v:Value} {w':World} (hd:Op.noDefer op=true) (hr:(execOp (ev n s) ⟨none,op,ty,pos,af,none⟩).run P w=.ok (.value v) w') (h:Ops P ro n all rest K s w'):Ops P ro n all (⟨none,op,ty,pos,af,none⟩::rest) K s w :=
 Ops.step rfl (OpW.ofRun hd hr h)

section maps
variable {κ:Type} [DecidableEq κ] {encK:κ→Value} {t kt et b:Nat} {m:List (κ×Value)} {k:κ}
theorem Ops.deleteN (hm:MapE encK w b m) (hx:ev n s x=.map (some b)) (hy:ev n s y=encK k) [hk:KeyL P kt encK] [ht:TMap P t kt et] {at2:Nat}
  (h:∀ w' o,PutO w w' b o→MapE encK w' b (mdel m k)→Ops P ro n all rest K s w'):Ops P ro n all (⟨none,.call { callee:=.builtin .delete,args:=#[x,y],argTypes:=#[t,at2] },ty,pos,af,none⟩::rest) K s w:=by
 obtain ⟨es,c,h1,h2,h3,h4,h5⟩:=hm.h
 have hlt:b<w.heap.size:=(Array.getElem?_eq_some_iff.1 h1).1
 have hf:=hk.find w k es.toList (m.map (·.1)) (by rw [h2,List.map_map];rfl)
 have hlen:es.size=m.length:=by have:=congrArg List.length h2;simpa using this
 cases hidx:(m.map (·.1)).findIdx? (fun x=>decide (k=x)) with
 | none =>
   rw [hidx] at hf
   refine Ops.ofRunN (v:=.tuple #[]) (w':=w.putObj b (.map es c)) rfl ?_ (h _ _ (putO_putObj _ h1) ?_)
   ·simp only [execOp,resolve,invoke,builtin,Sem.run_bind,Sem.run_pure,Result.andThen,List.map_toArray,List.map_cons,List.map_nil,hx,hy,Builtin.delete_,List.getElem?_toArray,List.getElem?_cons_zero,List.getElem?_cons_succ,run_underlying ht.h,run_getObj_m h1,hk.chk,hf,Option.map_none,run_setObj_m _ h1]
   ·rw [mdel_none m k hidx]
    exact ⟨es,c,World.putObj_heap_same hlt,h2,h3,h4,h5⟩
 | some i =>
   rw [hidx] at hf
   obtain ⟨_,hi,_⟩:=mset_old m k undef i hidx
   refine Ops.ofRunN (v:=.tuple #[]) (w':=w.putObj b (.map (es.eraseIdxIfInBounds i) c)) rfl ?_ (h _ _ (putO_putObj _ h1) ?_)
   ·simp only [execOp,resolve,invoke,builtin,Sem.run_bind,Sem.run_pure,Result.andThen,List.map_toArray,List.map_cons,List.map_nil,hx,hy,Builtin.delete_,List.getElem?_toArray,List.getElem?_cons_zero,List.getElem?_cons_succ,run_underlying ht.h,run_getObj_m h1,hk.chk,hf,Option.map_some,run_setObj_m _ h1]
   ·rw [mdel_some m k i hidx]
    have hi':i<es.size:=by omega
    have e:(es.eraseIdxIfInBounds i).toList=es.toList.eraseIdx i:=by simp [Array.eraseIdxIfInBounds,hi']
    refine ⟨_,c,World.putObj_heap_same hlt,?_,?_,?_,?_⟩
    ·rw [e,map_eraseIdx,h2,←map_eraseIdx]
    ·rw [e,map_eraseIdx,h3,←map_eraseIdx]
    ·intro x hx;rw [e] at hx;exact h4 x (List.mem_of_mem_eraseIdx hx)
    ·rw [e,map_eraseIdx];exact h5.sublist (List.eraseIdx_sublist _ _)
end maps

section dec
variable {t t':Nat} {a b:Int} {k:IntKind}
theorem jjZ (hx:ev n s x=.int k a) (hy:ev n s y=.int k b) (hp:a<b) (h:Ops P ro n all rest K (upd s d (.bool true)) w):Ops P ro n all (⟨some d,.binOp .lss t x y t',ty,pos,af,none⟩::rest) K s w :=
 jX hx hy (by rw [decide_eq_true hp];exact h)
theorem jja (hx:ev n s x=.int k a) (hy:ev n s y=.int k b) (hp:¬ (a<b)) (h:Ops P ro n all rest K (upd s d (.bool false)) w):Ops P ro n all (⟨some d,.binOp .lss t x y t',ty,pos,af,none⟩::rest) K s w :=
 jX hx hy (by rw [decide_eq_false hp];exact h)
theorem jjb (hx:ev n s x=.int k a) (hy:ev n s y=.int k b) (hp:a≤b) (h:Ops P ro n all rest K (upd s d (.bool true)) w):Ops P ro n all (⟨some d,.binOp .leq t x y t',ty,pos,af,none⟩::rest) K s w :=
 jd hx hy (by rw [decide_eq_true hp];exact h)
theorem jjc (hx:ev n s x=.int k a) (hy:ev n s y=.int k b) (hp:¬ (a≤b)) (h:Ops P ro n all rest K (upd s d (.bool false)) w):Ops P ro n all (⟨some d,.binOp .leq t x y t',ty,pos,af,none⟩::rest) K s w :=
 jd hx hy (by rw [decide_eq_false hp];exact h)
theorem jjd (hx:ev n s x=.int k a) (hy:ev n s y=.int k b) (hp:b<a) (h:Ops P ro n all rest K (upd s d (.bool true)) w):Ops P ro n all (⟨some d,.binOp .gtr t x y t',ty,pos,af,none⟩::rest) K s w :=
 je hx hy (by rw [decide_eq_true hp];exact h)
theorem jje (hx:ev n s x=.int k a) (hy:ev n s y=.int k b) (hp:¬ (b<a)) (h:Ops P ro n all rest K (upd s d (.bool false)) w):Ops P ro n all (⟨some d,.binOp .gtr t x y t',ty,pos,af,none⟩::rest) K s w :=
 je hx hy (by rw [decide_eq_false hp];exact h)
theorem jjf (hx:ev n s x=.int k a) (hy:ev n s y=.int k b) (hp:b≤a) (h:Ops P ro n all rest K (upd s d (.bool true)) w):Ops P ro n all (⟨some d,.binOp .geq t x y t',ty,pos,af,none⟩::rest) K s w :=
 jf hx hy (by rw [decide_eq_true hp];exact h)
theorem jjg (hx:ev n s x=.int k a) (hy:ev n s y=.int k b) (hp:¬ (b≤a)) (h:Ops P ro n all rest K (upd s d (.bool false)) w):Ops P ro n all (⟨some d,.binOp .geq t x y t',ty,pos,af,none⟩::rest) K s w :=
 jf hx hy (by rw [decide_eq_false hp];exact h)
theorem jjh (hx:ev n s x=.int k a) (hy:ev n s y=.int k b) (hp:a=b) (h:Ops P ro n all rest K (upd s d (.bool true)) w):Ops P ro n all (⟨some d,.binOp .eql t x y t',ty,pos,af,none⟩::rest) K s w :=
 jb hx hy (by rw [decide_eq_true hp];exact h)
theorem jji (hx:ev n s x=.int k a) (hy:ev n s y=.int k b) (hp:¬ (a=b)) (h:Ops P ro n all rest K (upd s d (.bool false)) w):Ops P ro n all (⟨some d,.binOp .eql t x y t',ty,pos,af,none⟩::rest) K s w :=
 jb hx hy (by rw [decide_eq_false hp];exact h)
theorem jjj (hx:ev n s x=.int k a) (hy:ev n s y=.int k b) (hp:¬ a=b) (h:Ops P ro n all rest K (upd s d (.bool true)) w):Ops P ro n all (⟨some d,.binOp .neq t x y t',ty,pos,af,none⟩::rest) K s w :=
 jc hx hy (by rw [decide_eq_true hp];exact h)
theorem jjk (hx:ev n s x=.int k a) (hy:ev n s y=.int k b) (hp:¬ (¬ a=b)) (h:Ops P ro n all rest K (upd s d (.bool false)) w):Ops P ro n all (⟨some d,.binOp .neq t x y t',ty,pos,af,none⟩::rest) K s w :=
 jc hx hy (by rw [decide_eq_false hp];exact h)
end dec
end rules

section rules
variable {P:Program} {ro:Option Nat} {n:Nat} {all rest:List Oper} {K:Sl→World→Prop} {s:Sl} {w:World} {d:Nat} {ty:Nat} {pos:String} {af:Array Edge}
variable {x y:Operand}
theorem Ops.eqlNil {t t' e l c:Nat} {a:Option Addr} (hx:ev n s x=.slice a l c) (hy:ev n s y=.slice none 0 0) [ht:TSl P t e] (h:Ops P ro n all rest K (upd s d (.bool a.isNone)) w) :
  Ops P ro n all (⟨some d,.binOp .eql t x y t',ty,pos,af,none⟩::rest) K s w:=by
 refine Ops.ofRun rfl ?_ h
 have hg:(eqGuard .eql t x y (.slice a l c) (.slice none 0 0)).run P w=.ok () w:=by cases a<;>simp [eqGuard]
 have hr:=Lib.run_eql_slice_nil w t e a l c 0 0 ht.h
 simp [execOp,hx,hy,hg,hr]

theorem flat_len {k:Nat}:∀ {xs:List Value},(∀ x∈xs,x.cells.size=k)→(xs.flatMap (·.cells.toList)).length=xs.length * k
 | [],_=>by simp
 | y::xs,h=>by
   rw [List.flatMap_cons,List.length_append,flat_len fun x hx=>h x (List.mem_cons_of_mem _ hx),Array.length_toList,h y List.mem_cons_self,List.length_cons,Nat.add_mul];omega
end rules


abbrev intV (x:Int):Value:=.int .i64 x
theorem all_ints' (xs:List Int):(xs.map intV).all (fun v=>v.cells.toList.all (·.oneCell'))=true:=by
 rw [List.all_eq_true];intro q hq;obtain ⟨y,_,rfl⟩:=List.mem_map.1 hq;rfl
theorem OwnL.app {w w':World} {B B' e:Nat} {agg:Bool} {k:Nat} {v v':Value} {xs:List Value} (h:OwnL w B e agg k v xs) (a:App B' w w' v') (hne:∀ g,v.ownBlock=some g→v'.ownBlock≠some g):OwnL w' B e agg k v xs :=
 h.kept fun g hg=>a.g.block g (h.block g hg).2 fun e=>hne g hg e.symm
theorem row_none {w:World} {agg:Bool} {k l c:Nat} {xs:List Value} (h:RowV w agg k (.slice none l c) xs):xs=[]:=by
 rcases h.at_ with ⟨e,_⟩|⟨b,o,c',hv,_⟩
 ·exact e
 ·simp at hv

structure Only (kb:Nat) (w w':World):Prop where
 os:w'.os=w.os
 tape:w'.tape=w.tape
 output:w'.output=w.output
 size:w.heap.size≤w'.heap.size
 other:∀ k,k<w.heap.size→k≠kb→w'.heap[k]?=w.heap[k]?
theorem Only.ofExt {kb:Nat} {w w':World} (e:Ext w w'):Only kb w w':=⟨e.b.os,e.b.tape,e.b.output,e.size,fun _ hk _=>e.block hk⟩
theorem Only.ofPut {kb:Nat} {w w':World} {o:Obj} (p:PutO w w' kb o):Only kb w w':=⟨p.os,p.tape,p.output,by rw [p.size];exact Nat.le_refl _,fun k _ hk=>p.other k hk⟩
theorem Only.trans {kb:Nat} {a b c:World} (h:Only kb a b) (k:Only kb b c):Only kb a c :=
 ⟨k.os.trans h.os,k.tape.trans h.tape,k.output.trans h.output,Nat.le_trans h.size k.size,fun i hi hne=>(k.other i (by have:=h.size;omega) hne).trans (h.other i hi hne)⟩
theorem Only.ext {kb:Nat} {w0 w w':World} (h:Only kb w w') (e:Ext w0 w) (hk:w0.heap.size≤kb):Ext w0 w' :=
 ⟨⟨h.os.trans e.b.os,h.tape.trans e.b.tape,h.output.trans e.b.output,Nat.le_trans e.size h.size,fun k hk'=>(h.other k (by have:=e.size;omega) (by omega)).trans (e.block hk')⟩⟩
theorem Only.at_ {kb:Nat} {w w':World} {b o:Nat} {cs:List Value} (h:Only kb w w') (ha:At w b o cs) (hne:b≠kb):At w' b o cs:=⟨fun i v hv=>by
 have h1:=ha.h i v hv
 rw [←h1]
 exact World.cell?_of_block (a:=⟨b,o+i,none⟩) (h.other b (lt_of_cell h1) hne)⟩
theorem Only.bk {kb:Nat} {w w':World} {b e:Nat} {cs:List Value} (h:Only kb w w') (ha:Bk w b cs e) (hne:b≠kb):Bk w' b cs e:=⟨(h.other b ha.lt hne).trans ha.h⟩
theorem Only.map {kb:Nat} {κ:Type} {encK:κ→Value} {w w':World} {b:Nat} {m:List (κ×Value)} (h:Only kb w w') (ha:MapE encK w b m) (hne:b≠kb):MapE encK w' b m:=by
 have hl:=ha.lt
 obtain ⟨es,c,h1,h2⟩:=ha.h
 exact ⟨es,c,(h.other b hl hne).trans h1,h2⟩
theorem Only.own {kb:Nat} {w w':World} {B e:Nat} {agg:Bool} {k:Nat} {v:Value} {xs:List Value} (h:Only kb w w') (ho:OwnL w B e agg k v xs) (hB:kb<B):OwnL w' B e agg k v xs :=
 ho.kept fun g hg=>h.other g (ho.block g hg).2 (by have:=(ho.block g hg).1;omega)

theorem Only.own' {kb:Nat} {w w':World} {B e:Nat} {agg:Bool} {k:Nat} {v:Value} {xs:List Value} (h:Only kb w w') (ho:OwnL w B e agg k v xs) (hn:v.ownBlock≠some kb):OwnL w' B e agg k v xs :=
 ho.kept fun g hg=>h.other g (ho.block g hg).2 (fun e=>hn (by rw [hg,e]))

theorem Only.row {kb:Nat} {w w':World} {agg:Bool} {k:Nat} {v:Value} {xs:List Value} (h:Only kb w w') (hr:RowV w agg k v xs) (hne:v.ownBlock≠some kb):RowV w' agg k v xs :=
 ⟨hr.len,hr.fit,hr.at_.imp id fun ⟨b,o,c,hv,hl,hc⟩=>⟨b,o,c,hv,hl,fun j x hx=>h.at_ (hc j x hx) (fun e=>by subst e;subst hv;exact hne rfl)⟩⟩
theorem App.at_ {B:Nat} {w w':World} {v:Value} {b o:Nat} {cs:List Value} (a:App B w w' v) (h:At w b o cs) (hne:v.ownBlock≠some b):At w' b o cs:=⟨fun i u hv=>by
 have h1:=h.h i u hv
 obtain ⟨ob,hb,_⟩:=cell_block h1
 rw [←h1]
 exact World.cell?_of_block (a:=⟨b,o+i,none⟩) ((a.other hb hne).trans hb.symm)⟩
theorem Only.app {kb B:Nat} {w0 w w':World} {v:Value} (h:Only kb w0 w) (a:App B w w' v) (hB:w0.heap.size≤B):Only kb w0 w' :=
 ⟨a.g.os.trans h.os,a.g.tape.trans h.tape,a.g.output.trans h.output,Nat.le_trans h.size a.g.size,fun k hk hne=>(a.g.block k (by have:=h.size;omega) (fun e=>by have:=(a.from_ k e.symm).1;omega)).trans (h.other k hk hne)⟩


abbrev SD (e:Nat) (w:World) (b n c:Nat) (l:List Int):Prop:=l.length=n∧OwnL w b e false 1 (.slice (some ⟨b,0,none⟩) n c) (l.map intV)
theorem SD.ext {e b n c:Nat} {w w':World} {l:List Int} (h:SD e w b n c l) (x:Ext w w'):SD e w' b n c l:=⟨h.1,h.2.ext x⟩
theorem wrapi {i:Int} (h0:0≤i) (h1:i≤9223372036854775807):IntKind.wrap .i64 i=i:=by
 rw [IntKind.wrap_i64];omega

theorem OwnL.fr {M:World→Nat→Prop} {w w':World} {B e:Nat} {agg:Bool} {k:Nat} {v:Value} {xs:List Value} (h:OwnL w B e agg k v xs) (f:Fr M w w') (hm:∀ g,v.ownBlock=some g→¬ M w g):OwnL w' B e agg k v xs:=by
 rcases h.own.2 with hn|⟨g,cap,cur,rfl,hB,hg,rest⟩
 ·exact ⟨⟨h.own.1,.inl hn⟩,h.fit,h.len⟩
 ·exact h.kept fun g' e=>by cases e;exact (f.keep g _ hg rfl (hm g rfl)).trans hg.symm
theorem OwnL.self {w:World} {B e l c k:Nat} {agg:Bool} {a:Option Addr} {xs:List Value} (h:OwnL w B e agg k (.slice a l c) xs) (h0:0<xs.length):∃ g,a=some ⟨g,0,none⟩∧B≤g∧OwnL w g e agg k (.slice (some ⟨g,0,none⟩) l c) xs:=by
 rcases h.own.2 with ⟨e0,_⟩|⟨g,cap,cur,e0,hB,rest⟩
 ·have h1:=h.row.cap.1
  simp only [Value.slice.injEq] at e0
  omega
 ·have e1:=e0
  simp only [Value.slice.injEq] at e1
  obtain ⟨rfl,_,_⟩:=e1
  exact ⟨g,rfl,hB,⟨⟨h.own.1,.inr ⟨g,cap,cur,e0,Nat.le_refl _,rest⟩⟩,h.fit,h.len⟩⟩
section rules
variable {P:Program} {ro:Option Nat} {n:Nat} {all rest:List Oper} {K:Sl→World→Prop} {s:Sl} {w:World} {ty:Nat} {pos:String} {af:Array Edge} {x y:Operand}
end rules

end Go.Proofs.YtbafmbpmiiplkaaGreatDoor
