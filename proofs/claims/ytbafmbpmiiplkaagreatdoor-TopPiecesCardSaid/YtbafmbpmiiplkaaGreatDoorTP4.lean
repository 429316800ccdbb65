/- Texts of the proof, part 4: PlJ, PlX, Eng28, Al1, Tq1, HdD, Lf3, Tr3, Lf4, Lf5, Lf6, PlK, PlL, PlM, HdQ, Eng33, Hd1, PlO, PkF, ShC, Eng27, Rk1, Eng49, Hd2, HdR, Hd3, Lib4, Eng18, HdL, Hd4, HdP, Eng48, Eng43, Lib3. -/
import Derived.KernelRfl
import Derived.Shelf.Small.Strs
import Derived.Sort.Grow
import Derived.ChangeKeysEq
import Derived.Test.YtbafmbpmiiplkaaGreatDoorTP3
namespace Go.Proofs.YtbafmbpmiiplkaaGreatDoor
open Go.RowKit

theorem flat_get3 {α:Type} {f:Nat→List α} {q m r:Nat} {x:α} (hq:q<m) (h:(f q)[r]?=some x):((List.range m).flatMap f)[((List.range q).flatMap f).length+r]?=some x:=by
 obtain ⟨s,hs⟩:=range_split hq
 rw [hs,List.flatMap_append,List.flatMap_cons,List.getElem?_append_right (by omega),Nat.add_sub_cancel_left,List.getElem?_append_left (List.getElem?_eq_some_iff.1 h).1,h]
theorem flat_at {α:Type} {x:List (List α)} {n w:Nat} (hn:n<x.length) (hw:w<x[n].length):x.flatten[(x.take n).flatten.length+w]?=some x[n][w]:=by
 have e:x=x.take n++(x[n]::x.drop (n+1)):=by rw [←List.drop_eq_getElem_cons hn,List.take_append_drop]
 conv=>lhs;rw [e]
 rw [List.flatten_append,List.flatten_cons]
 have hl:((x.take n++(x[n]::x.drop (n+1))).take n).flatten.length=(x.take n).flatten.length:=by rw [←e]
 rw [hl,List.getElem?_append_right (by omega),Nat.add_sub_cancel_left,List.getElem?_append_left hw,List.getElem?_eq_getElem hw]
theorem lnPs_len (k:Nat) (x:List (List ByteArray)):∀ n,n≤x.length→((List.range n).flatMap fun i=>lnP k i (x.getD i []).length).length=(x.take n).flatten.length
 | 0,_=>by simp
 | n+1,h=>by
   have hg:x.getD n []=x[n]:=by rw [List.getD_eq_getElem?_getD,List.getElem?_eq_getElem (by omega),Option.getD_some]
   rw [List.range_succ,List.flatMap_append,List.length_append,lnPs_len k x n (by omega),take_snoc_get (List.getElem?_eq_getElem (show n<x.length by omega)),List.flatten_append,List.length_append]
   simp [lnP,List.getElem?_eq_getElem (show n<x.length by omega)]
theorem runA_at {k:Nat} {x:List (List ByteArray)} {n w:Nat} (hn:n<x.length) (hw:w<x[n].length):(runA k x)[(x.take n).flatten.length+w]?=some ((k:Int),(n:Int),(w:Int)):=by
 have hg:x.getD n []=x[n]:=by rw [List.getD_eq_getElem?_getD,List.getElem?_eq_getElem hn,Option.getD_some]
 rw [←lnPs_len k x n (by omega),runA,runAn]
 refine flat_get3 hn ?_
 rw [hg,lnP,List.getElem?_map,List.getElem?_range hw];rfl
theorem allW_len (t:Tx) (n:Nat):(allW t n).length=(allP t n).length:=by
 induction n with
 | zero=>rfl
 | succ n ih =>
   rw [allP_succ,List.length_append,←ih,allW,allW,List.range_succ,List.flatMap_append,List.length_append]
   simp [List.length_zip,runA_len]
theorem allW_fst (t:Tx) (n:Nat):(allW t n).map (·.1)=allP t n:=by
 rw [allW,allP,List.map_flatMap]
 congr 1
 funext k
 rw [List.map_fst_zip]
 rw [runA_len];exact Nat.le_refl _
theorem allW_at {t:Tx} {k n w:Nat} (hk:k<t.length) (hn:n<(wsT t k).length) (hw:w<(wsT t k)[n].length):(allW t t.length)[(allW t k).length+(((wsT t k).take n).flatten.length+w)]?=some (((k:Int),(n:Int),(w:Int)),(wsT t k)[n][w]):=by
 rw [allW]
 refine flat_get3 (f:=fun k=>(runA k (wsT t k)).zip (wsT t k).flatten) hk ?_
 rw [List.getElem?_zip_eq_some]
 exact ⟨runA_at hn hw,flat_at hn hw⟩
theorem allW_succ (t:Tx) (k:Nat):(allW t (k+1)).length=(allW t k).length+(wsT t k).flatten.length:=by
 rw [allW_len,allW_len,allP_succ,List.length_append,runA_len]
theorem flat_len_succ {α:Type} {x:List (List α)} {n:Nat} (hn:n<x.length):(x.take (n+1)).flatten.length=(x.take n).flatten.length+x[n].length:=by
 rw [take_snoc_get (List.getElem?_eq_getElem hn),List.flatten_append,List.length_append];simp
theorem allW_word {t:Tx} {i:Nat} {p:Pl} {s:ByteArray} (h:(allW t t.length)[i]?=some (p,s)):∃ k n w:Nat,∃ (hk:k<t.length) (hn:n<t[k].2.length) (hw:w<t[k].2[n].length),p=((k:Int),(n:Int),(w:Int))∧s=t[k].2[n][w]:=by
 have hm:=List.mem_of_getElem? h
 obtain ⟨k,hk,hz⟩:=List.mem_flatMap.1 hm
 rw [List.mem_range] at hk
 have hws:wsT t k=t[k].2:=by rw [wsT,List.getD_eq_getElem?_getD,List.getElem?_eq_getElem hk,Option.getD_some]
 obtain ⟨j,hj,e⟩:=List.mem_iff_getElem.1 hz
 have e':((runA k (wsT t k)).zip (wsT t k).flatten)[j]?=some (p,s):=by rw [List.getElem?_eq_getElem hj,e]
 rw [List.getElem?_zip_eq_some] at e'
 obtain ⟨n,w,hn,hw,hp⟩:=mem_runA.1 (List.mem_of_getElem? e'.1)
 have h1:=runA_at (k:=k) hn hw
 subst hp
 have hji:j=((wsT t k).take n).flatten.length+w:=nodup_inj (runA_nodup k (wsT t k)) e'.1 h1
 have h2:=flat_at hn hw
 rw [←hji,e'.2] at h2
 simp only [hws] at hn hw h2
 exact ⟨k,n,w,hk,hn,hw,rfl,by simpa using h2⟩

abbrev wSea:ByteArray:=⟨#[115,101,97]⟩
abbrev wOld:ByteArray:=⟨#[111,108,100]⟩
abbrev wAnd:ByteArray:=⟨#[97,110,100]⟩
abbrev wNo:ByteArray:=⟨#[]⟩
abbrev wA:ByteArray:=⟨#[97]⟩
abbrev wB:ByteArray:=⟨#[98]⟩
theorem make_at {t:Tx} {wd side:Int} {p:Pl} {s:Slp} {k i:Nat} (ha:askE t wd side=0) (hk:k<t.length) (hi:(runA k (wsT t k))[i]?=some p) (hs:slipX (wsT t k).flatten side wd i p=s):makeR t wd side p=(s,0):=by
 rw [makeR_some ha (makeF_yes hk hi),hs]

def zeroL (z:Value) (m:Nat):List Value:=(List.range m).map fun i=>z.cells[i % z.cells.size]!
section rules
variable {P:Program} {ro:Option Nat} {n:Nat} {all rest:List Oper} {K:Sl→World→Prop} {s:Sl} {w:World} {d:Nat} {ty:Nat} {pos:String} {af:Array Edge} {t e:Nat}
theorem Ops.buildSliceF {len size bytes:Nat} {z:Value} {parts:Array (Nat×Operand)} {cells:List Value} [ht:TSl P t e] [hz:TS P e z size bytes] (h0:Nat.blt 0 (len * size)=true) (h1:Nat.blt (len * size) 10000=true)
  (hf:fillL (fun i=>some (i * size,size)) (zeroL z (len * size)) (parts.toList.map fun (i,x)=>(i,ev n s x))=some cells)
  (h:∀ b w',b=w.heap.size→w'.heap.size=w.heap.size+1→Step w w'→Bk w' b cells e→Ops P ro n all rest K (upd s d (.slice (some ⟨b,0,none⟩) len len)) w') :
  Ops P ro n all (⟨some d,.buildSlice t len parts,ty,pos,af,none⟩::rest) K s w:=by
 have h0':0<len * size:=by simpa using h0
 have h1':len * size<10000:=by simpa using h1
 have hf2:=fillL_eq _ _ _ _ hf
 have e1:(zeroL z (len * size)).toArray=(Array.range (len * size)).map (z.cells[· % z.cells.size]!):=by
  apply Array.ext'
  simp [zeroL]
 rw [e1] at hf2
 have e2:(parts.map fun (p:Nat×Operand)=>(p.1,ev n s p.2)).toList=parts.toList.map fun (i,x)=>(i,ev n s x):=by simp
 refine Ops.ofRun (w':=w.alloc (.cells cells.toArray e)) rfl ?_ (h w.heap.size _ rfl (by simp) ⟨(Below.refl _ w).alloc (Nat.le_refl _) _⟩ (Bk.of (World.alloc_heap_new w _)))
 have hne:¬ len * size=0:=by omega
 have hbig:¬ (16777216<len * size):=by omega
 simp only [execOp,Instr.buildSlice,Sem.run_bind,run_underlying ht.h,run_sizeOf' w hz,Result.andThen_ok]
 simp [hbig,run_zeroValue' w hz,newRow]
 have hf3:Instr.fill (fun i=>some (i * size,size)) (Array.map (fun x=>z.cells[x % z.cells.size]!) (Array.range (len * size))) (parts.toList.map fun p=>(p.1,ev n s p.2))=some cells.toArray:=hf2
 simp [hf3]
 intro hc;exact absurd hc hne
end rules
theorem Bk.rows {w:World} {b e k:Nat} {agg:Bool} {xs:List Value} (h:Bk w b (xs.flatMap (·.cells.toList)) e) (hf:∀ x∈xs,fitsV agg k x=true) (hl:xs.length≤140737488355328):RowV w agg k (.slice (some ⟨b,0,none⟩) xs.length xs.length) xs:=by
 refine ⟨hl,hf,.inr ⟨b,0,xs.length,rfl,Nat.le_refl _,fun j x hx=>⟨fun i v hv=>?_⟩⟩⟩
 have:=flat_get (k:=k) (xs:=xs) (fun y hy=>fitsV_cells (hf y hy)) hx hv
 have hc:=(Bk.toAt (h:=h)).h _ _ this
 rw [show 0+j * k+i=0+(j * k+i) by omega];exact hc

theorem strs_fit (l:List ByteArray):∀ x∈l.map strV,fitsV false 1 x=true:=fun x hx=>by
 obtain ⟨y,_,rfl⟩:=List.mem_map.1 hx;rfl

abbrev tqCold:ByteArray:=⟨#[99,111,108,100]⟩
def tqT:Tx:=[(3,[[wOld,wSea],[wSea,wAnd,wOld]])]
def tqR:List Rd:=[((0,1,0),1,⟨#[]⟩),((0,1,2),2,tqCold)]
abbrev Stc:=Int×Int×Int×Int×Int
abbrev encSt (x:Stc):Value:=.agg #[.int .i64 x.1,.int .i64 x.2.1,.int .i64 x.2.2.1,.int .i64 x.2.2.2.1,.int .i64 x.2.2.2.2]
abbrev tqS:Stc:=(0,1,2,4,7)
theorem topAt_top (n q:Int) (w:World):Ct Tryz.prog 45 [.int .i64 n,.int .i64 q] w fun v _=>v=encPl (0,n,q):=by
 refine Ct.ofW (by simp) ?_
 (((refine jjB (jjC ?_)));refine jjY ?_;intro b4 w_b4 hb_b4 hs_b4 hS_b4 hk_b4;have hA_b4:=Bk.of hk_b4)
 (refine jz (jjB (jjC (jI (eI rfl) (jI (eI rfl) ?_)))))
 (refine jjS (cells:=[.int .i64 0,.int .i64 n,.int .i64 q]) ?_ ?_;exact rfl)
 refine Ops.store rfl rfl rfl rfl rfl ?_
 intro V2 hp2
 have:=Bk.toAt (h:=Bk.of hp2.new)
 (refine jz (jjF ?_))
 exact fin1C rfl rfl rfl rfl rfl ⟨hp2.ext hS_b4.ext (by omega),rfl⟩
theorem topEdition_top (w:World):Ct Tryz.prog 47 [] w fun v w'=>∃ ea ec,v=.agg #[.int .i64 1,.slice ea 1 ec]∧RowV w' true 5 (.slice ea 1 ec) ([tqS].map encSt):=by
 refine Ct.ofW (by simp) ?_
 (((refine jjB (jjC ?_)));refine jjY ?_;intro b0 w_b0 hb_b0 hs_b0 hS_b0 hk_b0;have hA_b0:=Bk.of hk_b0)
 (refine jz (jjB (jjC ?_)))
 (refine jjS (cells:=[.int .i64 0,.int .i64 1,.int .i64 2,.int .i64 4,.int .i64 7]) ?_ ?_;exact rfl)
 (refine jjP (v:=.agg _) rfl (by exact rfl) (by exact rfl) (by exact rfl) (by exact rfl) ?_;intro b2 w_b2 hb_b2 hs_b2 hS_b2 hk_b2;have hR_b2:=RowV.one (agg:=true) (k:=5) rfl hk_b2)
 (refine jjS (cells:=[.int .i64 1,.slice (some ⟨b2,0,none⟩) 1 1]) ?_ ?_;exact rfl)
 have hR2:RowV w_b2 true 5 (.slice (some ⟨b2,0,none⟩) 1 1) ([tqS].map encSt):=hR_b2
 have hb0:Bk w_b2 b0 [.int .i64 0,.slice none 0 0] 117:=inferInstance
 have hE2:Ext w w_b2:=inferInstance
 refine Ops.store rfl rfl rfl rfl rfl ?_
 intro V2 hp2
 have:=Bk.toAt (h:=Bk.of hp2.new)
 have z0:=hS_b0.size
 (refine jz (jjF ?_))
 exact fin1C rfl rfl rfl rfl rfl ⟨hp2.ext hE2 (by omega),some ⟨b2,0,none⟩,1,rfl,hp2.row hR2 (fun e=>by simp [Value.ownBlock] at e;omega)⟩
set_option maxHeartbeats 1000000 in
theorem topCopy_top (w:World):Ct Tryz.prog 50 [] w fun v w'=>∃ ra rc,v=.agg #[.int .i64 2,.slice ra tqR.length rc]∧RowV w' true 5 (.slice ra tqR.length rc) (tqR.map encRd):=by
 refine Ct.ofW (by simp) ?_
 (((refine jjB (jjC ?_)));refine jjY ?_;intro b0 w_b0 hb_b0 hs_b0 hS_b0 hk_b0;have hA_b0:=Bk.of hk_b0)
 (refine jz (jjB (jjC ?_)))
 refine jjQ (topAt_top 1 0 _) rfl rfl ?_
 rintro _ w1 hS1 rfl
 (refine jjS (cells:=[.int .i64 0,.int .i64 1,.int .i64 0,.int .u8 1,.string wNo]) ?_ ?_;exact rfl)
 refine jjQ (topAt_top 1 2 _) rfl rfl ?_
 rintro _ w2 hS2 rfl
 (refine jjS (cells:=[.int .i64 0,.int .i64 1,.int .i64 2,.int .u8 2,.string tqCold]) ?_ ?_;exact rfl)
 refine Ops.buildSliceF (cells:=[.int .i64 0,.int .i64 1,.int .i64 0,.int .u8 1,.string wNo,.int .i64 0,.int .i64 1,.int .i64 2,.int .u8 2,.string tqCold]) rfl rfl rfl ?_
 intro b7 w7 hb7 hs7 hS7 hk7
 (refine jjS (cells:=[.int .i64 2,.slice (some ⟨b7,0,none⟩) 2 2]) ?_ ?_;exact rfl)
 have hb0:Bk w7 b0 [.int .i64 0,.slice none 0 0] 123:=inferInstance
 have hE7:Ext w w7:=inferInstance
 refine Ops.store rfl rfl rfl rfl rfl ?_
 intro V2 hp2
 have:=Bk.toAt (h:=Bk.of hp2.new)
 have z0:=hS_b0.size
 have z1:=hS1.size
 have z2:=hS2.size
 have m7:=hp2.bk hk7 (by omega)
 (refine jz (jjF ?_))
 refine fin1C rfl rfl rfl rfl rfl ⟨hp2.ext hE7 (by omega),some ⟨b7,0,none⟩,2,rfl,?_⟩
 exact Bk.rows (xs:=tqR.map encRd) m7 (by simp [tqR,fitsV]) (by simp [tqR])
set_option maxHeartbeats 4000000 in
theorem topSea_top (w:World):Ct Tryz.prog 43 [] w fun v w'=>∃ (a:Option Addr) (c:Nat) (cs:List Ch),v=.agg #[.slice a cs.length c]∧RowV w' true 2 (.slice a cs.length c) (cs.map encCh)∧TextI w' cs∧txF cs=tqT:=by
 refine Ct.ofW (by simp) ?_
 (((refine jjB (jjC ?_)));refine jjY ?_;intro b0 w_b0 hb_b0 hs_b0 hS_b0 hk_b0;have hA_b0:=Bk.of hk_b0)
 (refine jz (jjB (jjC ?_)))
 refine Ops.buildSliceF (cells:=[strV wOld,strV wSea]) rfl rfl rfl ?_
 intro b1 w1 hb1 hs1 hS1 hk1
 refine Ops.buildSliceF (cells:=[strV wSea,strV wAnd,strV wOld]) rfl rfl rfl ?_
 intro b2 w2 hb2 hs2 hS2 hk2
 refine Ops.buildSliceF (cells:=[.slice (some ⟨b1,0,none⟩) 2 2,.slice (some ⟨b2,0,none⟩) 3 3]) rfl rfl rfl ?_
 intro b3 w3 hb3 hs3 hS3 hk3
 (refine jjS (cells:=[.int .i64 3,.slice (some ⟨b3,0,none⟩) 2 2]) ?_ ?_;exact rfl)
 refine Ops.buildSliceF (cells:=[.int .i64 3,.slice (some ⟨b3,0,none⟩) 2 2]) rfl rfl rfl ?_
 intro b5 w5 hb5 hs5 hS5 hk5
 (refine jjS (cells:=[.slice (some ⟨b5,0,none⟩) 1 1]) ?_ ?_;exact rfl)
 have hb0:Bk w5 b0 [.slice none 0 0] 24:=inferInstance
 have hE5:Ext w w5:=inferInstance
 have k1:Bk w5 b1 [strV wOld,strV wSea] 9:=inferInstance
 have k2:Bk w5 b2 [strV wSea,strV wAnd,strV wOld] 9:=inferInstance
 have k3:Bk w5 b3 [.slice (some ⟨b1,0,none⟩) 2 2,.slice (some ⟨b2,0,none⟩) 3 3] 70:=inferInstance
 refine Ops.store rfl rfl rfl rfl rfl ?_
 intro V2 hp2
 have:=Bk.toAt (h:=Bk.of hp2.new)
 have z0:=hS_b0.size
 have z1:=hS1.size
 have z2:=hS2.size
 have z3:=hS3.size
 have m1:=hp2.bk k1 (by omega)
 have m2:=hp2.bk k2 (by omega)
 have m3:=hp2.bk k3 (by omega)
 have m5:=hp2.bk hk5 (by omega)
 (refine jz (jjF ?_))
 refine fin1C rfl rfl rfl rfl rfl ⟨hp2.ext hE5 (by omega),some ⟨b5,0,none⟩,1,[(3,some ⟨b3,0,none⟩,2,[(some ⟨b1,0,none⟩,2,[wOld,wSea]),(some ⟨b2,0,none⟩,3,[wSea,wAnd,wOld])])],rfl,?_,⟨?_,?_⟩,rfl⟩
 ·exact Bk.rows (xs:=[encCh (3,some ⟨b3,0,none⟩,2,[(some ⟨b1,0,none⟩,2,[wOld,wSea]),(some ⟨b2,0,none⟩,3,[wSea,wAnd,wOld])])]) m5 (by simp [fitsV]) (by simp)
 ·intro x hx
  simp only [List.mem_cons,List.not_mem_nil,or_false] at hx
  subst hx
  exact m3.row (fun x hx=>by simp at hx;rcases hx with rfl|rfl<;>rfl) (by simp)
 ·intro x hx
  simp only [List.mem_cons,List.not_mem_nil,or_false] at hx
  subst hx
  intro y hy
  simp only [List.mem_cons,List.not_mem_nil,or_false] at hy
  rcases hy with rfl|rfl
  ·exact m1.row (strs_fit [_,_]) (by simp)
  ·exact m2.row (strs_fit [_,_,_]) (by simp)

abbrev Hp:=Int×Int×Int
abbrev encHp (x:Hp):Value:=.agg #[.int .i64 x.1,.int .i64 x.2.1,.int .i64 x.2.2]
abbrev Shr:=Int×Int×Int×Int
abbrev encShr (x:Shr):Value:=.agg #[.int .i64 x.1,.int .i64 x.2.1,.int .i64 x.2.2.1,.int .i64 x.2.2.2]
abbrev Sht:=Bool×Option Addr×Nat×List Ln
abbrev encSht (x:Sht):Value:=.agg #[.bool x.1,.slice x.2.1 x.2.2.2.length x.2.2.1]
class ShtI (w:World) (xs:List Sht):Prop where
 lines:∀ x∈xs,RowV w false 1 (.slice x.2.1 x.2.2.2.length x.2.2.1) (x.2.2.2.map encLn)
 words:∀ x∈xs,∀ y∈x.2.2.2,RowV w false 1 (encLn y) (y.2.2.map strV)
theorem ShtI.ext {w w':World} {xs:List Sht} (h:ShtI w xs) (hs:Ext w w'):ShtI w' xs:=⟨fun x hx=>(h.lines x hx).ext hs,fun x hx y hy=>(h.words x hx y hy).ext hs⟩
instance ShtI.step {w w':World} {xs:List Sht} [hs:Step w w'] [h:ShtI w xs]:ShtI w' xs:=h.ext ⟨hs.b⟩
theorem ShtI.line {w:World} {xs:List Sht} (h:ShtI w xs) {k:Nat} (hk:k<xs.length):RowI w (.slice xs[k].2.1 xs[k].2.2.2.length xs[k].2.2.1) false 1 (xs[k].2.2.2.map encLn):=⟨h.lines _ (List.getElem_mem hk)⟩
theorem ShtI.word {w:World} {xs:List Sht} (h:ShtI w xs) {k n:Nat} (hk:k<xs.length) (hn:n<xs[k].2.2.2.length):RowI w (encLn xs[k].2.2.2[n]) false 1 (xs[k].2.2.2[n].2.2.map strV):=⟨h.words _ (List.getElem_mem hk) _ (List.getElem_mem hn)⟩
abbrev noP:Shr:=(-1, -1,0,0)
def befS (ss:List Shr) (i k:Nat):Shr:=if k≤i then ss.getD (i-k) noP else noP

theorem fullB_not (s:ByteArray):fullB s=!decide (s.size=0):=by
 unfold fullB
 by_cases h:s.size=0<;>simp [h]
theorem read1_leaf (s:ByteArray) (w:World):Ct Tryz.prog 123 [.string s] w fun v _=>v=.bool (!fullB s):=by
 refine Ct.ofW (by simp) ?_
 (refine jjB (jjC (jJ (eB rfl) (jz (jjB (jjC ?_)))));refine jI (eT rfl) ?_)
 refine Ops.eqlS rfl rfl ?_
 (refine jJ (eB rfl) (jz (jjF ?_));refine jB rfl rfl ⟨inferInstance,?_⟩)
 rw [fullB_not,Bool.not_not,←decide_str];exact rfl
theorem idxV_some {α:Type} {p:α→Bool} {xs:List α} {i:Nat} (h:xs.findIdx? p=some i):idxV p xs=i:=by rw [idxV,h]
theorem idxV_none {α:Type} {p:α→Bool} {xs:List α} (h:xs.findIdx? p=none):idxV p xs=-1:=by rw [idxV,h]
theorem filter_len_lt {α:Type} {f:α→Bool} {l:List α} {i:Nat} (hi:i<l.length) (h:f l[i]=false):(l.filter f).length<l.length:=by
 rw [List.length_filter_lt_length_iff_exists]
 exact ⟨l[i],List.getElem_mem hi,by rw [h];simp⟩
theorem filter_take_snoc {α:Type} {f:α→Bool} {l:List α} {i:Nat} {x:α} (h:l[i]?=some x):(l.take (i+1)).filter f=(l.take i).filter f++(if f x then [x] else []):=by
 rw [take_snoc_get h,List.filter_append]
 congr 1
 cases hf:f x<;>simp [hf]
set_option maxHeartbeats 2000000 in
theorem DeleteFunc_string (g n c:Nat) (l:List ByteArray) (w:World) {B:Nat} (hO:OwnL w B 9 false 1 (.slice (some ⟨g,0,none⟩) n c) (l.map strV)) (hn:n≤1000000) :
  Calls Tryz.prog 122 [.slice (some ⟨g,0,none⟩) n c,.func (.func 123) #[] #[]].toArray w fun e w'=>e=.returned (.slice (some ⟨g,0,none⟩) (l.filter fullB).length c)∧Only g w w'∧OwnL w' B 9 false 1 (.slice (some ⟨g,0,none⟩) (l.filter fullB).length c) ((l.filter fullB).map strV):=by
 obtain ⟨cs,hB,hcl,hnc,hcm,hll,htk,hBg⟩:=hO.cells
 rw [List.length_map] at hll
 have hcs:∀ j x,l[j]?=some x→cs[j]?=some (strV x):=fun j x hx=>by
  have hj:=(List.getElem?_eq_some_iff.1 hx).1
  have h2:(cs.take n)[j]?=some (strV x):=by rw [htk,List.getElem?_map,hx];rfl
  rwa [List.getElem?_take,if_pos (by omega)] at h2
 have hfit:∀ x∈(l.filter fullB).map strV,fitsV false 1 x=true:=fun x hx=>by obtain ⟨y,_,rfl⟩:=List.mem_map.1 hx;rfl
 have hfl:=List.length_filter_le fullB l
 refine Calls.ofW (by simp) ?_
 (refine jjB (jjC (jJ (eS rfl) (jz (jjB (jjC ?_)))));refine jI (eS rfl) (jI (eF rfl) ?_))
 obtain ⟨o,ho⟩:∃ o,l.findIdx? (fun s=>!fullB s)=o:=⟨_,rfl⟩
 refine jjQ (IndexFunc_string _ _ (.func (.func 123) #[] #[]) strV l (fun s=>!fullB s) hO.row ⟨_,[],rfl,inferInstance,fun w' x _ _=>read1_leaf x w'⟩) rfl rfl ?_
 rintro _ w2 hS2 rfl
 cases o with
 | none =>
   rw [idxV_none ho]
   have hall:l.filter fullB=l:=by
    rw [List.filter_eq_self]
    intro x hx
    have:=List.findIdx?_eq_none_iff.1 ho x hx
    simpa using this
   (refine jJ (eI rfl) (jz (jjB (jjB (jjC (jI (eI rfl) ?_)))));refine jjh rfl rfl (by omega) (jz (jjJ rfl (jjB (jjC (jI (eS rfl) ?_)))));refine jJ (eS rfl) (jz (jjF ?_)))
   refine jB rfl rfl ⟨?_,.ofExt hS2.ext,?_⟩
   ·rw [hall,hll];exact rfl
   ·rw [hall,hll];exact hO.ext hS2.ext
 | some i =>
 rw [idxV_some ho]
 obtain ⟨hil,hpi,hbef⟩:=List.findIdx?_eq_some_iff_getElem.1 ho
 have hpi':fullB l[i]=false:=by simpa using hpi
 have hlt:=filter_len_lt hil hpi'
 have hpre:(l.take (i+1)).filter fullB=l.take i:=by
  rw [filter_take_snoc (List.getElem?_eq_getElem hil),hpi',if_neg (by simp),List.append_nil,List.filter_eq_self]
  intro x hx
  obtain ⟨j,hj,rfl⟩:=List.mem_iff_getElem.1 hx
  rw [List.length_take] at hj
  have:=hbef j (by omega)
  rw [List.getElem_take]
  simpa using this
 (refine jJ (eI rfl) (jz (jjB (jjB (jjC (jI (eI rfl) ?_)))));refine jji rfl rfl (by omega) (jz (jjK rfl (jjG (jjB (jjB ?_)))));refine jjC (jI (eI rfl) (jY rfl rfl (by omega) (jJ (eI rfl) (jz (jjD ?_))))))
 refine W.keep0 [(0,.slice (some ⟨g,0,none⟩) n c),(1,.func (.func 123) #[] #[]),(5,.int .i64 ((i:Nat):Int)),(6,.int .i64 ((i+1:Nat):Int))] ⟨eS rfl,eF rfl,eI rfl,eI rfl,trivial⟩ fun s0=>?_
 refine W.loopG (16::17::18::19::22::23::24::25::7::26::27::28::29::30::31::32::33::34::35::5::20::21::6::[]) (fun gg s' V=>∃ (j m:Nat) (ds:List Value),s' 6=.int .i64 ((j:Nat):Int)∧s' 5=.int .i64 ((m:Nat):Int)∧gg=n-j∧j≤n∧m=((l.take j).filter fullB).length∧m<j∧Only g w V∧Bk V g ds 9∧ds.length=c∧ds.take m=((l.take j).filter fullB).map strV∧∀ q,j≤q→ds[q]?=cs[q]?) (n-(i+1)) ⟨i+1,i,cs,rfl,rfl,rfl,by omega,by rw [hpre,List.length_take];omega,by omega,.ofExt hS2.ext,hB.ext hS2.ext,hcl,by rw [hpre,List.map_take,←htk,List.take_take,Nat.min_eq_left (by omega)],fun q _=>rfl⟩ ?_
 rintro _ sd V ⟨j,m,ds,h6,h5,rfl,hj,hm,hmj,hOn,hV,hdl,hdt,hdq⟩
 refine W.fix h6 (W.fix (d:=5) h5 ?_)
 clear h6 h5
 by_cases hjl:j<n
 rotate_left
 ·obtain rfl:j=n:=by omega
  have e9:l.take j=l:=List.take_of_length_le (by omega)
  rw [e9] at hm hdt
  (refine jjB (jjB (jjC (jI (eI rfl) (jI (eS rfl) (jh rfl ?_)))));refine jja rfl rfl (by omega) (jz (jjK rfl (jjE (jjB (jjC ?_)))));refine jI (eS rfl) (jI (eI rfl) ?_))
  refine Ops.sliceXL2 (lo:=m) rfl rfl rfl (by omega) (by omega) ?_
  skip
  refine Ops.clearB hV rfl (by omega) (by omega) rfl rfl ?_
  intro V3 hp3
  have hO3:Only g w V3:=hOn.trans (.ofPut hp3)
  have hB3:Bk V3 g _ 9:=⟨hp3.new⟩
  (refine jz (jjB (jjC (jI (eS rfl) (jI (eI rfl) ?_)))))
  refine Ops.sliceXH (hi:=m) rfl rfl rfl (by omega) ?_
  (refine jJ (eS rfl) (jz (jjF ?_)))
  refine jB rfl rfl ⟨?_,hO3,?_⟩
  ·rw [←hm];exact rfl
  ·rw [←hm]
   refine OwnL.ofCells hB3 ?_ (by omega) hcm ?_ (by omega) hBg hfit
   ·simp only [List.length_append,List.length_take,List.length_replicate,List.length_drop];omega
   ·rw [List.append_assoc,List.take_append_of_le_length (by rw [List.length_take];omega),List.take_take,Nat.zero_add,Nat.min_self];exact hdt
 have hjl':j<l.length:=by omega
 have hcell:V.cell? ⟨g,0+j,none⟩=some (strV l[j]):=by
  rw [Nat.zero_add]
  exact hV.cellO (by rw [hdq j (Nat.le_refl _)];exact hcs j _ (List.getElem?_eq_getElem hjl'))
 have hsn:=filter_take_snoc (f:=fullB) (List.getElem?_eq_getElem hjl')
 obtain ⟨F,hF⟩:∃ F,fullB l[j]=F:=⟨_,rfl⟩
 (refine jjB (jjB (jjC (jI (eI rfl) (jI (eS rfl) (jh rfl ?_)))));refine jjZ rfl rfl (by omega) (jz (jjJ rfl (jjG (jjB (jjD ?_)))));refine jjB (jjC (jI (eS rfl) (jI (eI rfl) (jG rfl rfl rfl (by omega) (jR (by assumption) rfl rfl ?_)))));refine jJ (eT rfl) (jz (jjB (jjC (jI (eF rfl) (jI (eT rfl) ?_))))))
 refine jjQ ((read1_leaf l[j] _).mono fun v _ _ h=>h.trans (by rw [hF])) rfl rfl ?_
 rintro _ V2 hS2' rfl
 rw [hF] at hsn
 cases F
 ·rw [if_neg (by simp),List.append_nil] at hsn
  (refine jp rfl (jz (jjK rfl (jjG (jjC (jI (eI rfl) ?_)))));refine jY rfl rfl (by omega) (jJ (eI rfl) (jz ?_)))
  exact ⟨rfl,by (((iterate 18 refine Same.upd rfl ?_);exact Same.ovN)),n-(j+1),by omega,j+1,m,ds,congrArg (Value.int .i64) (by omega),rfl,rfl,by omega,by rw [hsn];exact hm,by omega,hOn.trans (.ofExt hS2'.ext),hV.ext hS2'.ext,hdl,by rw [hsn];exact hdt,fun q hq=>hdq q (by omega)⟩
 ·rw [if_pos rfl] at hsn
  have hV2:=hV.ext hS2'.ext
  (refine jq rfl (jz (jjJ rfl (jjB (jjC (jI (eS rfl) ?_)))));refine jI (eI rfl) (jI (eT rfl) (jG rfl rfl rfl (by omega) ?_)))
  refine Ops.storeC (cs:=ds) (j:=m) (v:=strV l[j]) rfl rfl rfl rfl (by omega) ?_
  intro V3 hp3
  have hml:(ds.take m).length=m:=by rw [List.length_take];omega
  (refine jz (jjC (jI (eI rfl) (jY rfl rfl (by omega) (jJ (eI rfl) (jz ?_)))));refine jjC (jI (eI rfl) (jY rfl rfl (by omega) (jJ (eI rfl) (jz ?_)))))
  refine ⟨rfl,by (((iterate 25 refine Same.upd rfl ?_);exact Same.ovN)),n-(j+1),by omega,j+1,m+1,_,congrArg (Value.int .i64) (by omega),congrArg (Value.int .i64) (by omega),rfl,by omega,by rw [hsn,List.length_append,←hm];rfl,by omega,(hOn.trans (.ofExt hS2'.ext)).trans (.ofPut hp3),⟨hp3.new⟩,?_,?_,fun q hq=>?_⟩
  ·simp only [List.length_append,List.length_take,List.length_drop,List.length_cons,List.length_nil];omega
  ·rw [hsn,List.map_append,←hdt,List.take_append_of_le_length (by rw [List.length_append,hml];simp),List.take_of_length_le (by rw [List.length_append,hml];simp)];rfl
  ·rw [←hdq q (by omega),List.getElem?_append_right (by rw [List.length_append,hml];simp;omega),List.length_append,hml,List.getElem?_drop]
   congr 1
   simp;omega
theorem DeleteFunc_none (a:Option Addr) (n c:Nat) (w:World) (hrow:RowV w false 1 (.slice a n c) (([]:List ByteArray).map strV)) :
  Calls Tryz.prog 122 [.slice a n c,.func (.func 123) #[] #[]].toArray w fun e w'=>e=.returned (.slice a n c)∧Ext w w':=by
 refine Calls.ofW (by simp) ?_
 (refine jjB (jjC (jJ (eS rfl) (jz (jjB (jjC ?_)))));refine jI (eS rfl) (jI (eF rfl) ?_))
 refine jjQ (IndexFunc_string _ _ (.func (.func 123) #[] #[]) strV [] (fun s=>!fullB s) hrow ⟨_,[],rfl,inferInstance,fun w' x _ _=>read1_leaf x w'⟩) rfl rfl ?_
 rintro _ w2 hS2 rfl
 rw [idxV_none rfl]
 (refine jJ (eI rfl) (jz (jjB (jjB (jjC (jI (eI rfl) ?_)))));refine jjh rfl rfl (by omega) (jz (jjJ rfl (jjB (jjC (jI (eS rfl) ?_)))));refine jJ (eS rfl) (jz (jjF ?_)))
 exact jB rfl rfl ⟨rfl,hS2.ext⟩
theorem DeleteFunc_own (a:Option Addr) (n c:Nat) (l:List ByteArray) (w:World) {B:Nat} (hO:OwnL w B 9 false 1 (.slice a n c) (l.map strV)) (hn:l.length≤1000000) :
  Calls Tryz.prog 122 [.slice a n c,.func (.func 123) #[] #[]].toArray w fun e w'=>∃ v',e=.returned v'∧OwnL w' B 9 false 1 v' ((l.filter fullB).map strV)∧∀ w0,Ext w0 w→w0.heap.size≤B→Ext w0 w':=by
 cases l with
 | nil=>exact (DeleteFunc_none a n c w hO.row).mono fun e w' ⟨h1,h2⟩=>⟨_,h1,hO.ext h2,fun w0 h _=>h.trans h2⟩
 | cons x r =>
   obtain ⟨g,rfl,hg,_⟩:=hO.self (by simp)
   have hlen:=hO.row.len
   rw [List.length_map] at hlen
   obtain ⟨_,_,_,_,_,hll,_⟩:=hO.cells
   rw [List.length_map] at hll
   refine (DeleteFunc_string g n c (x::r) w hO (by omega)).mono fun e w' hp=>?_
   obtain ⟨h1,h2,h3⟩:=hp
   exact ⟨_,h1,h3,fun w0 h hB=>h2.ext h (by omega)⟩

structure OwnLn (w:World) (B:Nat) (v:Value) (ys:List Ln):Prop where
 out:OwnL w B 70 false 1 v (ys.map encLn)
 ins:∀ y∈ys,OwnL w B 9 false 1 (encLn y) (y.2.2.map strV)
theorem OwnLn.ext {w w':World} {B:Nat} {v:Value} {ys:List Ln} (h:OwnLn w B v ys) (hs:Ext w w'):OwnLn w' B v ys:=⟨h.out.ext hs,fun y hy=>(h.ins y hy).ext hs⟩
theorem OwnLn.put {w w':World} {B b:Nat} {o:Obj} {v:Value} {ys:List Ln} (h:OwnLn w B v ys) (p:PutO w w' b o) (hb:b<B):OwnLn w' B v ys :=
 ⟨h.out.put p fun e=>by have:=(h.out.block _ e).1;omega,fun y hy=>(h.ins y hy).put p fun e=>by have:=((h.ins y hy).block _ e).1;omega⟩
theorem OwnLn.mono {w:World} {B B':Nat} {v:Value} {ys:List Ln} (h:OwnLn w B v ys) (hB:B'≤B):OwnLn w B' v ys:=⟨h.out.mono hB,fun y hy=>(h.ins y hy).mono hB⟩
structure OwnCh (w:World) (B:Nat) (v:Value) (cs:List Ch):Prop where
 out:OwnL w B 99 true 2 v (cs.map encCh)
 ins:∀ x∈cs,OwnLn w B (.slice x.2.1 x.2.2.2.length x.2.2.1) x.2.2.2
theorem OwnCh.ext {w w':World} {B:Nat} {v:Value} {cs:List Ch} (h:OwnCh w B v cs) (hs:Ext w w'):OwnCh w' B v cs:=⟨h.out.ext hs,fun y hy=>(h.ins y hy).ext hs⟩
theorem OwnCh.put {w w':World} {B b:Nat} {o:Obj} {v:Value} {cs:List Ch} (h:OwnCh w B v cs) (p:PutO w w' b o) (hb:b<B):OwnCh w' B v cs :=
 ⟨h.out.put p fun e=>by have:=(h.out.block _ e).1;omega,fun y hy=>(h.ins y hy).put p hb⟩
theorem OwnCh.mono {w:World} {B B':Nat} {v:Value} {cs:List Ch} (h:OwnCh w B v cs) (hB:B'≤B):OwnCh w B' v cs:=⟨h.out.mono hB,fun y hy=>(h.ins y hy).mono hB⟩
theorem OwnCh.text {w:World} {B:Nat} {v:Value} {cs:List Ch} (h:OwnCh w B v cs):TextI w cs:=⟨fun x hx=>(h.ins x hx).out.row,fun x hx y hy=>((h.ins x hx).ins y hy).row⟩
theorem OwnL.neB {w:World} {B e e' k b:Nat} {agg:Bool} {v:Value} {xs:List Value} {cs:List Value} (h:OwnL w B e agg k v xs) (hb:Bk w b cs e') (he:e≠e'):v.ownBlock≠some b:=fun hv=>by
 rcases h.own.2 with ⟨rfl,_⟩|⟨g,cap,cur,rfl,_,hg,_⟩
 ·simp [Value.ownBlock] at hv
 ·simp only [Value.ownBlock,Option.some.injEq] at hv
  subst hv
  rw [hb.h] at hg
  cases hg
  exact he rfl
theorem OwnCh.only {kb:Nat} {w w':World} {B:Nat} {v:Value} {cs:List Ch} (h:OwnCh w B v cs) (o:Only kb w w') (hout:v.ownBlock≠some kb) (hb:∃ vs,Bk w kb vs 99):OwnCh w' B v cs:=by
 obtain ⟨vs,hb⟩:=hb
 exact ⟨o.own' h.out hout,fun x hx=>⟨o.own' (h.ins x hx).out ((h.ins x hx).out.neB hb (by decide)),fun y hy=>o.own' ((h.ins x hx).ins y hy) (((h.ins x hx).ins y hy).neB hb (by decide))⟩⟩
theorem OwnLn.appC {w w':World} {B B' B'':Nat} {v u:Value} {ys:List Ln} {us:List Value} (h:OwnLn w B v ys) (ho:OwnL w B' 99 true 2 u us) (a:App B'' w w' u):OwnLn w' B v ys :=
 ⟨h.out.app a (OwnL.ne h.out ho (by decide)),fun y hy=>(h.ins y hy).app a (OwnL.ne (h.ins y hy) ho (by decide))⟩
theorem one_ln (y:Ln):[encLn y].all (fun v=>v.cells.toList.all (·.oneCell'))=true:=rfl
theorem one_ch (y:Ch):[encCh y].all (fun v=>v.cells.toList.all (·.oneCell'))=true:=rfl
theorem all_strs (ws:List ByteArray):(ws.map strV).all (fun v=>v.cells.toList.all (·.oneCell'))=true:=by
 rw [List.all_eq_true]
 intro x hx
 obtain ⟨s,_,rfl⟩:=List.mem_map.1 hx
 rfl

section
variable (a:Option Addr) (c:Nat) (cs:List Ch) (w:World) [hrow:RowI w (.slice a cs.length c) true 2 (cs.map encCh)] [hT:TextI w cs]
end

abbrev nilV:Value:=.slice none 0 0
structure GoodR (rs:List Rd):Prop where
 len:rs.length≤100
 next:nextsB rs=true
 kind:∀ r∈rs,1≤r.2.1∧r.2.1≤3
 omit_:∀ r∈rs,r.2.1=1→r.2.2.size=0
 put:∀ r∈rs,r.2.1=2→r.2.2.size≠0
theorem here_snoc {rs:List Rd} {k:Nat} {r:Rd} (h:rs[k]?=some r) (p:Pl):hereR p (rs.take (k+1))=hereR p (rs.take k)++(if r.1=p then [r] else []):=by
 rw [hereR,filter_take_snoc h]
 congr 1
 by_cases e:r.1=p<;>simp [e]
theorem foldR_full {o:ByteArray} {l:List Rd} (h:∀ r∈l,r.2.1=2→r.2.2.size≠0):∀ s∈(foldR o l).1,fullB s=true:=by
 have:∀ (l:List Rd) (z:List ByteArray×ByteArray),(∀ r∈l,r.2.1=2→r.2.2.size≠0)→(∀ s∈z.1,fullB s=true)→∀ s∈(l.foldl stepR z).1,fullB s=true:=by
  intro l
  induction l with
  | nil=>intro z _ h;exact h
  | cons r l ih =>
    intro z h hz
    rw [List.foldl_cons]
    refine ih _ (fun x hx=>h x (List.mem_cons_of_mem _ hx)) fun s hs=>?_
    unfold stepR at hs
    split at hs
    ·rcases List.mem_append.1 hs with hs|hs
     ·exact hz s hs
     ·obtain rfl:=List.mem_singleton.1 hs
      exact decide_eq_true (h r List.mem_cons_self ‹_›)
    ·exact hz s hs
 exact this l ([],o) h (by simp)
theorem filter_full {l:List ByteArray} (h:∀ s∈l,fullB s=true):l.filter fullB=l:=List.filter_eq_self.2 h
theorem filter_own (s:ByteArray):[s].filter fullB=if s.size=0 then [] else [s]:=by
 by_cases h:s.size=0
 ·rw [if_pos h,List.filter_cons_of_neg (by simp [fullB,h]),List.filter_nil]
 ·rw [if_neg h,List.filter_cons_of_pos (by simp [fullB,h]),List.filter_nil]
theorem filter_fold {o:ByteArray} {l:List Rd} {so:List ByteArray} (h:∀ r∈l,r.2.1=2→r.2.2.size≠0) (hso:so=(foldR o l).1++[(foldR o l).2]∨(so=(foldR o l).1∧(foldR o l).2.size=0)) :
  so.filter fullB=(foldR o l).1++if (foldR o l).2.size=0 then [] else [(foldR o l).2]:=by
 rcases hso with rfl|⟨rfl,h0⟩
 ·rw [List.filter_append,filter_full (foldR_full h),filter_own]
 ·rw [filter_full (foldR_full h),if_pos h0,List.append_nil]
theorem range_snoc (n:Nat) (f:Nat→List ByteArray):(List.range (n+1)).flatMap f=(List.range n).flatMap f++f n:=by
 rw [List.range_succ,List.flatMap_append];simp
theorem step_some {H:List Rd} {o:ByteArray} {q:Nat} {r:Rd} (hr:H[q]?=some r) (hk:r.2.1=1∨r.2.1=2∨r.2.1=3) (hom:r.2.1=1→r.2.2.size=0) (hlast:r.2.1≠2→q+1=H.length) :
  let z:=foldR o (H.take q);let z':=foldR o (H.take (q+1));let so:=z.1++mkL r.2.1 z.2 r.2.2
  so=z'.1++[z'.2]∨(so=z'.1∧z'.2.size=0∧q+1=H.length):=by
 intro z z' so
 have e:z'=stepR z r:=foldR_snoc hr
 rcases hk with h|h|h
 ·right
  have e1:z'=(z.1,r.2.2):=by rw [e,stepR,if_neg (by omega)]
  refine ⟨?_,by rw [e1];exact hom h,hlast (by omega)⟩
  show z.1++mkL r.2.1 z.2 r.2.2=z'.1
  rw [e1,h,mkL,if_pos rfl,List.append_nil]
 ·left
  have e1:z'=(z.1++[r.2.2],z.2):=by rw [e,stepR,if_pos h]
  show z.1++mkL r.2.1 z.2 r.2.2=z'.1++[z'.2]
  rw [e1,h,mkL,if_neg (by decide),if_pos rfl];simp
 ·left
  have e1:z'=(z.1,r.2.2):=by rw [e,stepR,if_neg (by omega)]
  show z.1++mkL r.2.1 z.2 r.2.2=z'.1++[z'.2]
  rw [e1,h,mkL,if_neg (by decide),if_neg (by decide)]
theorem one_rd (x:Rd):[encRd x].all (fun v=>v.cells.toList.all (·.oneCell'))=true:=rfl
set_option maxHeartbeats 16000000 in
theorem read_leaf (a:Option Addr) (c:Nat) (cs:List Ch) (w:World) [hrow:RowI w (.slice a cs.length c) true 2 (cs.map encCh)] [hT:TextI w cs] [hg:At w 2 0 kindsC] (bb:Nat) (id:Int) (ra:Option Addr) (rc:Nat) (rs:List Rd) (hs:SmallT cs) (hrs:GoodR rs) [hb:At w bb 0 [.slice a cs.length c]] [hrd:RowI w (.slice ra rs.length rc) true 5 (rs.map encRd)] :
  Ct Tryz.prog 89 [.pointer (some ⟨bb,0,none⟩),.agg #[.int .i64 id,.slice ra rs.length rc]] w fun v w'=>∃ a' c' ds,v=.agg #[.slice a' (ds.map encCh).length c']∧txF ds=readT (txF cs) rs∧OwnCh w' w.heap.size (.slice a' (ds.map encCh).length c') ds:=by
 have hs1:=hs.1
 have hrl:=hrs.len
 refine Ct.ofW (by simp) ?_
 (refine jjB (jjC ?_))
 (refine jy rfl ?_;intro b3 w_b3 hb_b3 hs_b3 hS_b3 hk_b3;have hA_b3:=At.ofBlock hk_b3)
 ((skip);refine jjY ?_;intro b4 w_b4 hb_b4 hs_b4 hS_b4 hk_b4;have hA_b4:=Bk.of hk_b4)
 (refine jz (jjB (jjC ?_)))
 refine Ops.makeMap encPl ?_
 intro mb w5 hmb hs5 hS5 hM5
 (refine jJ (eM rfl) (jz (jjB (jjB (jjC (jm ?_)))));refine jn rfl (jN rfl rfl rfl (jh rfl (jI (eI rfl) (jz (jjD ?_))))))
 have hE5:Ext w w5:=inferInstance
 have zE5:=hE5.size
 have hmlt:=hmb
 have hb4s:=hs_b4
 refine W.keep0 [(0,.pointer (some ⟨bb,0,none⟩)),(3,.pointer (some ⟨b3,0,none⟩)),(4,.pointer (some ⟨b4,0,none⟩)),(5,.map (some mb)),(22,.slice ra rs.length rc),(23,.int .i64 ((rs.length:Nat):Int)),(24,.int .i64 ((0:Nat):Int))] ⟨eP rfl,eP rfl,eP rfl,eM rfl,eS rfl,eI rfl,eI rfl,trivial⟩ fun s0=>?_
 have hB4:Bk w5 b4 [nilV] 24:=inferInstance
 refine W.loopG (25::26::27::7::28::29::30::32::33::34::31::35::36::37::24::[]) (fun gg s' V=>∃ (k:Nat) (m:List (Pl×Value)),s' 24=.int .i64 ((k:Nat):Int)∧gg=rs.length-k∧k≤rs.length∧Only mb w5 V∧MapE encPl V mb m∧(∀ p:Pl,OwnL V w5.heap.size 186 true 5 ((mget m p).getD nilV) ((hereR p (rs.take k)).map encRd))∧∀ (p q:Pl) (g:Nat),p≠q→((mget m p).getD nilV).ownBlock=some g→((mget m q).getD nilV).ownBlock≠some g) rs.length ⟨0,[],rfl,rfl,Nat.zero_le _,.ofExt (.refl _),hM5,fun p=>by simpa [mget,hereR] using OwnL.nil _ _ _ _ _,fun p q g _ h=>by simp [mget,Value.ownBlock] at h⟩ ?_
 rintro _ sd V ⟨k,m,h24,rfl,hk,hOn,hM,hval,hdis⟩
 refine W.fix h24 ?_
 clear h24
 have zOn:=hOn.size
 have hEV:Ext w V:=hOn.ext hE5 (by omega)
 have hrV:RowI V (.slice ra rs.length rc) true 5 (rs.map encRd):=⟨hrd.h.ext hEV⟩
 have hbV:At V bb 0 [.slice a cs.length c]:=hb.ext hEV
 by_cases hkr:k<rs.length
 ·have hgk:=List.getElem?_eq_getElem hkr
  (refine jjB (jjC (jjZ rfl rfl (by omega) (jz (jjB (jjJ rfl ?_)))));refine jjG (jjB (jjD (jjB (jjC ?_))));refine jF rfl rfl rfl (map_get (by omega)) ?_;intro _ _ _;refine jQ rfl rfl ?_)
  (apply jjR rfl;(intro _;first|exact eI rfl|exact eB rfl|exact eP rfl|exact eS rfl|exact eT rfl|exact eA rfl|exact eU rfl|exact eF rfl|exact eM rfl|exact eN rfl|exact rfl);exact rfl;exact rfl;exact rfl;exact rfl;intro b7 w_b7 hb_b7 hs_b7 hS_b7 hk_b7;have hA_b7:=Bk.of hk_b7)
  (refine jz (jjC (jI (eM rfl) (jm (jn rfl (jO rfl rfl rfl rfl ?_)))));refine jO rfl rfl rfl rfl ?_)
  (refine jjP (v:=.agg _) rfl (by exact rfl) (by exact rfl) (by exact rfl) (by exact rfl) ?_;intro b33 w_b33 hb_b33 hs_b33 hS_b33 hk_b33;have hR_b33:=RowV.one (agg:=true) (k:=5) rfl hk_b33)
  have e7:=hS_b7.ext.trans hS_b33.ext
  have hR33:RowV w_b33 true 5 (.slice (some ⟨b33,0,none⟩) 1 1) [encRd rs[k]]:=hR_b33
  refine Ops.mapEntry (k:=rs[k].1) (encK:=encPl) (hM.ext e7) rfl rfl ?_
  intro w6 o6 st hp6 hN6
  have hz:∃ v0,(mget m rs[k].1).getD nilV=v0:=⟨_,rfl⟩
  obtain ⟨v0,hv0⟩:=hz
  have hO0:=hval rs[k].1
  have hne0:∀ p:Pl,((mget m p).getD nilV).ownBlock≠some mb:=fun p e=>by have:=((hval p).block _ e).1;omega
  rw [show (mget m rs[k].1).getD (Value.slice none 0 0)=v0 from hv0] at hN6 ⊢
  rw [hv0] at hO0
  have hO6:=(hO0.ext e7).put hp6 (by rw [←hv0];exact hne0 _)
  have hR6:RowV w6 true 5 (.slice (some ⟨b33,0,none⟩) 1 1) [encRd rs[k]]:=hp6.row hR33 (by intro e;simp only [Value.ownBlock,Option.some.injEq] at e;omega)
  have z6:=hp6.size
  have z7:=e7.size
  (refine ju rfl rfl ?_)
  refine Ops.appendL hO6 (by omega) hR6 rfl rfl rfl rfl (one_rd _) ?_ ?_ ?_
  ·rw [List.length_map];have:=here_len rs[k].1 (rs.take k);have:=List.length_take_le k rs;simp only [List.length_cons,List.length_nil];omega
  ·rw [List.length_map];have:=here_len rs[k].1 (rs.take k);have:=List.length_take_le k rs;simp only [List.length_cons,List.length_nil];omega
  intro v2 V4 hA hO4 _ hown2
  have hne0':v0.ownBlock≠some mb:=by rw [←hv0];exact hne0 _
  (refine ju rfl rfl ?_)
  refine Ops.entryStore (v:=v2) (hN6.app hA hne0') rfl rfl rfl ?_
  intro V5 o5 hp5 hM5'
  have hOn6:Only mb w5 V5:=(((hOn.trans (.ofExt e7)).trans (.ofPut hp6)).app hA (Nat.le_refl _)).trans (.ofPut hp5)
  have hO5:=hO4.put hp5 (by rcases hown2 with h|h<;>rw [h];exact hne0';intro e;cases e;omega)
  have hmg:∀ p:Pl,p≠rs[k].1→mget (mset (mset m rs[k].1 v0) rs[k].1 v2) p=mget m p:=fun p hp=>by rw [mget_set_other _ _ hp,mget_set_other _ _ hp]
  have hmg0:mget (mset (mset m rs[k].1 v0) rs[k].1 v2) rs[k].1=some v2:=mget_set_same _ _ _
  (refine jz (jjC (jY rfl rfl (by omega) (jI (eI rfl) (jz ?_)))))
  refine ⟨rfl,by (((iterate 16 refine Same.upd rfl ?_);exact Same.ovN)),rs.length-(k+1),by omega,k+1,_,congrArg (Value.int .i64) (by omega),rfl,by omega,hOn6,hM5',fun p=>?_,fun p q g hpq=>?_⟩
  ·rw [here_snoc hgk]
   by_cases hp:p=rs[k].1
   ·subst hp
    rw [hmg0,if_pos rfl,List.map_append]
    exact hO5
   ·rw [hmg p hp,if_neg (fun e=>hp e.symm),List.append_nil]
    have h1:=((hval p).ext e7).put hp6 (hne0 p)
    have h2:=h1.app hA fun g hg=>by rw [←hv0];exact hdis p _ g hp hg
    exact h2.put hp5 (hne0 p)
  ·by_cases hp:p=rs[k].1
   ·have hq:q≠rs[k].1:=fun e=>hpq (hp.trans e.symm)
    subst hp
    rw [hmg0,hmg q hq]
    intro h hq2
    rcases hown2 with h3|h3
    ·rw [Option.getD_some,h3,←hv0] at h
     exact hdis _ q g hpq h hq2
    ·rw [Option.getD_some,h3] at h
     have:=((hval q).block g hq2).2
     cases h
     omega
   ·rw [hmg p hp]
    by_cases hq:q=rs[k].1
    ·subst hq
     rw [hmg0]
     intro h hq2
     rcases hown2 with h3|h3
     ·rw [Option.getD_some,h3,←hv0] at hq2
      exact hdis p _ g hpq h hq2
     ·rw [Option.getD_some,h3] at hq2
      have:=((hval p).block g h).2
      cases hq2
      omega
    ·rw [hmg q hq]
     exact hdis p q g hpq
 obtain rfl:k=rs.length:=by omega
 rw [List.take_length] at hval
 have hrows:∀ p:Pl,∃ a' c',(mget m p).getD nilV=.slice a' (hereR p rs).length c'∧RowV V true 5 (.slice a' (hereR p rs).length c') ((hereR p rs).map encRd):=fun p=>by
  obtain ⟨a',c',e⟩:=(hval p).slice
  rw [List.length_map] at e
  exact ⟨a',c',e,e ▸ (hval p).row⟩
 have hB4V:Bk V b4 [nilV] 24:=hOn.bk hB4 (by omega)
 clear hval hdis hM5
 (refine jjB (jjC (jja rfl rfl (by omega) (jz (jjB (jjK rfl ?_)))));refine jjE (jjB (jjC ?_)))
 ((skip);refine jjY ?_;intro b8 w_b8 hb_b8 hs_b8 hS_b8 hk_b8;have hA_b8:=Bk.of hk_b8)
 (refine jz (jjB (jjB (jjC (jI (eP rfl) (jw rfl ?_)))));refine jm (jn rfl (jm (jn rfl (jN rfl rfl rfl (jh rfl ?_)))));refine jI (eI rfl) (jz (jjD ?_)))
 have hE8:=hS_b8.ext
 have z8:=hE8.size
 have hw8:Ext w w_b8:=hEV.trans hE8
 have hB4':Bk w_b8 b4 [nilV] 24:=hB4V.ext hE8
 refine W.keep0 [(0,.pointer (some ⟨bb,0,none⟩)),(4,.pointer (some ⟨b4,0,none⟩)),(5,.map (some mb)),(8,.pointer (some ⟨b8,0,none⟩)),(42,.slice a cs.length c),(43,.int .i64 ((cs.length:Nat):Int)),(44,.int .i64 ((0:Nat):Int))] ⟨eP rfl,eP rfl,eM rfl,eP rfl,eS rfl,eI rfl,eI rfl,trivial⟩ fun s1=>?_
 refine W.loopG (45::46::47::48::10::9::49::50::51::11::52::53::54::55::56::57::58::59::12::13::14::60::61::62::63::64::65::15::66::67::68::69::16::70::71::72::73::74::75::76::77::78::79::80::18::81::82::83::19::84::85::86::87::88::89::90::91::92::93::94::95::96::97::98::99::100::101::102::103::104::105::106::107::108::109::110::111::112::113::114::115::116::117::118::119::44::[]) (fun gg s' V2=>∃ (k:Nat) (cv:Value) (ds:List Ch),s' 44=.int .i64 ((k:Nat):Int)∧gg=cs.length-k∧k≤cs.length∧Only b8 w_b8 V2∧Bk V2 b8 [cv] 24∧OwnCh V2 w_b8.heap.size cv ds∧txF ds=(readT (txF cs) rs).take k) cs.length ⟨0,_,[],rfl,rfl,Nat.zero_le _,.ofExt (.refl _),hA_b8,⟨OwnL.nil _ _ _ _ _,by simp⟩,rfl⟩ ?_
 rintro _ sd2 V2 ⟨k,cv,ds,h44,rfl,hk2,hOn2,hV28,hOd,htx⟩
 refine W.fix h44 ?_
 clear h44
 have zOn2:=hOn2.size
 have hE2:Ext w V2:=hOn2.ext hw8 (by have:=hEV.size;omega)
 have hEV2:Ext V V2:=hOn2.ext hE8 (by omega)
 have hrl2:(readT (txF cs) rs).length=cs.length:=by rw [readT,List.length_mapIdx,txF_len]
 have hdl:ds.length≤1000:=by have:=congrArg List.length htx;rw [txF_len,List.length_take] at this;omega
 by_cases hkc:k<cs.length
 rotate_left
 ·have hke:k=cs.length:=by omega
  rw [hke,←hrl2,List.take_length] at htx
  obtain ⟨ca,cc,rfl⟩:=hOd.out.slice
  have:=Bk.toAt (h:=hV28)
  have hB42:Bk V2 b4 [nilV] 24:=hOn2.bk hB4' (by have:=hB4V.lt;omega)
  (refine jjB (jjC (jja rfl rfl (by omega) (jz (jjB (jjK rfl ?_)))));refine jjE (jjB (jjC (jO rfl rfl rfl rfl ?_))))
  refine Ops.store rfl rfl rfl rfl rfl ?_
  intro V3 hp3
  have hA3:At V3 b4 0 [.slice ca (ds.map encCh).length cc]:=Bk.toAt (h:=⟨hp3.new⟩)
  (refine jz (jjF ?_))
  exact fin1C rfl rfl rfl rfl rfl ⟨hp3.ext hE2 (by omega),ca,cc,ds,rfl,htx,(hOd.put hp3 (by have:=hB4V.lt;omega)).mono (by have:=hEV.size;omega)⟩
 have hgk:=List.getElem?_eq_getElem hkc
 have hsk:=hs.2 _ (List.getElem_mem hkc)
 have hT2:TextI V2 cs:=hT.ext hE2
 have hbV2:At V2 bb 0 [.slice a cs.length c]:=hb.ext hE2
 have hr2:RowI V2 (.slice a cs.length c) true 2 (cs.map encCh):=⟨hrow.h.ext hE2⟩
 (refine jjB (jjC (jjZ rfl rfl (by omega) (jz (jjB (jjJ rfl ?_)))));refine jjG (jjB (jjD (jjB (jjC (jI (eI rfl) ?_)))));refine jF rfl rfl rfl (map_get (by omega)) ?_;intro _ _ _;refine jQ rfl rfl ?_)
 ((skip);refine jjY ?_;intro b10 w_b10 hb_b10 hs_b10 hS_b10 hk_b10;have hA_b10:=Bk.of hk_b10)
 (apply jJ;exact eI rfl)
 refine Ops.store rfl rfl rfl rfl rfl ?_
 intro w10 hp10
 have e10a:Ext V2 w10:=hp10.ext hS_b10.ext (by omega)
 have s10:Step V2 w10:=e10a.toStep
 have hB10':Bk w10 b10 [.int .i64 cs[k].1,.slice cs[k].2.1 cs[k].2.2.2.length cs[k].2.2.1] 99:=⟨hp10.new⟩
 (refine jz (jjB (jjC (jm (jn rfl (jN rfl rfl rfl ?_))))))
 (refine jjS (cells:=[.int .i64 cs[k].1,.slice none 0 0]) ?_ ?_;exact rfl)
 (apply jjR rfl;(intro _;first|exact eI rfl|exact eB rfl|exact eP rfl|exact eS rfl|exact eT rfl|exact eA rfl|exact eU rfl|exact eF rfl|exact eM rfl|exact eN rfl|exact rfl);exact rfl;exact rfl;exact rfl;exact rfl;intro b11 w_b11 hb_b11 hs_b11 hS_b11 hk_b11;have hA_b11:=Bk.of hk_b11)
 (refine jz (jjB (jjB (jjC (jm (jn rfl ?_)))));refine jN rfl rfl rfl (jh rfl (jI (eI rfl) (jz (jjD ?_)))))
 have e10:=e10a.trans hS_b11.ext
 have z11:=e10.size
 have ze10a:=e10a.size
 have hb11e:=hb_b11
 have hw11:Ext w w_b11:=hE2.trans e10
 have hV11:Ext V w_b11:=hEV2.trans e10
 have hB10:At w_b11 b10 0 [.int .i64 cs[k].1,.slice cs[k].2.1 cs[k].2.2.2.length cs[k].2.2.1]:=inferInstance
 have hz:∃ lns,(readC rs k (txC cs[k])).2=lns:=⟨_,rfl⟩
 obtain ⟨lns,hlns⟩:=hz
 have hlnl:lns.length=cs[k].2.2.2.length:=by rw [←hlns,readC,List.length_mapIdx,List.length_map]
 refine W.keep [(0,.pointer (some ⟨bb,0,none⟩)),(4,.pointer (some ⟨b4,0,none⟩)),(5,.map (some mb)),(8,.pointer (some ⟨b8,0,none⟩)),(42,.slice a cs.length c),(43,.int .i64 ((cs.length:Nat):Int)),(44,.int .i64 ((k:Nat):Int)),(9,.int .i64 ((k:Nat):Int)),(11,.pointer (some ⟨b11,0,none⟩)),(53,.slice cs[k].2.1 cs[k].2.2.2.length cs[k].2.2.1),(54,.int .i64 ((cs[k].2.2.2.length:Nat):Int)),(55,.int .i64 ((0:Nat):Int))] (D:=(45::46::47::48::10::9::49::50::51::11::52::53::54::55::56::57::58::59::12::13::14::60::61::62::63::64::65::15::66::67::68::69::16::70::71::72::73::74::75::76::77::78::79::80::18::81::82::83::19::84::85::86::87::88::89::90::91::92::93::94::95::96::97::98::99::100::101::102::103::104::105::106::107::108::109::110::111::112::113::114::115::116::117::118::119::44::[])) (sO:=upds s1 _) (by (((iterate 15 refine Same.upd rfl ?_);exact Same.ovN))) ⟨eP rfl,eP rfl,eM rfl,eP rfl,eS rfl,eI rfl,eI rfl,eI rfl,eP rfl,eS rfl,eI rfl,eI rfl,trivial⟩ fun s2 hs2'=>?_
 refine W.loopG (56::57::58::59::12::13::14::60::61::62::63::64::65::15::66::67::68::69::16::70::71::72::73::74::75::76::77::78::79::80::18::81::82::83::19::84::85::86::87::88::89::90::91::92::93::94::95::96::97::98::99::100::101::102::103::104::105::106::107::108::109::110::111::112::55::[]) (fun gg s' V3=>∃ (n:Nat) (lv:Value) (ys:List Ln),s' 55=.int .i64 ((n:Nat):Int)∧gg=cs[k].2.2.2.length-n∧n≤cs[k].2.2.2.length∧Only b11 w_b11 V3∧Bk V3 b11 [.int .i64 cs[k].1,lv] 99∧OwnLn V3 w_b11.heap.size lv ys∧ys.map (·.2.2)=lns.take n) cs[k].2.2.2.length ⟨0,_,[],rfl,rfl,Nat.zero_le _,.ofExt (.refl _),hA_b11,⟨OwnL.nil _ _ _ _ _,by simp⟩,rfl⟩ ?_
 rintro _ sd3 V3 ⟨n,lv,ys,h55,rfl,hn,hOn3,hV3b,hOy,hyw⟩
 refine W.fix h55 ?_
 clear h55
 have zOn3:=hOn3.size
 have z11w:=hw11.size
 have zE2:=hE2.size
 have hE3:Ext w V3:=hOn3.ext hw11 (by omega)
 have hEV3:Ext V V3:=hOn3.ext hV11 (by have:=hEV2.size;omega)
 have hyl:ys.length≤1000:=by have:=congrArg List.length hyw;rw [List.length_map,List.length_take] at this;omega
 obtain ⟨la,lc,hlv⟩:=hOy.out.slice
 rw [List.length_map] at hlv
 subst hlv
 by_cases hnl:n<cs[k].2.2.2.length
 rotate_left
 ·have hne:n=lns.length:=by omega
  rw [hne,List.take_length] at hyw
  have hcvb:cv.ownBlock≠some b11:=fun e=>by have:=(hOd.out.block _ e).2;omega
  have hOd2:OwnCh V3 w_b8.heap.size cv ds:=(hOd.ext e10).only hOn3 hcvb ⟨_,hA_b11⟩
  have hV38:Bk V3 b8 [cv] 24:=hOn3.bk (hV28.ext e10) (by have:=hV28.lt;omega)
  obtain ⟨ca,cc,hcv⟩:=hOd2.out.slice
  rw [List.length_map] at hcv
  subst hcv
  have:=Bk.toAt (h:=hV38)
  have:=Bk.toAt (h:=hV3b)
  (refine jjB (jjC (jja rfl rfl (by omega) (jz (jjB (jjK rfl ?_)))));refine jjE (jjC (jm (jn rfl (jN rfl rfl rfl (jO rfl rfl rfl rfl ?_))))))
  (refine jjP (v:=.agg _) rfl (by exact rfl) (by exact rfl) (by exact rfl) (by exact rfl) ?_;intro b51 w_b51 hb_b51 hs_b51 hS_b51 hk_b51;have hR_b51:=RowV.one (agg:=true) (k:=2) rfl hk_b51)
  have hR1:RowV w_b51 true 2 (.slice (some ⟨b51,0,none⟩) 1 1) [encCh (cs[k].1,la,lc,ys)]:=hR_b51
  have e51:=hS_b51.ext
  have z51:=e51.size
  refine Ops.appendL (hOd2.out.ext e51) (by omega) hR1 rfl rfl rfl rfl (one_ch _) ?_ ?_ ?_
  ·rw [List.length_map];simp only [List.length_cons,List.length_nil];omega
  ·rw [List.length_map];simp only [List.length_cons,List.length_nil];omega
  intro cv2 V4 hA hO _ hown2
  have zA:=hA.g.size
  have hV34:Bk V4 b8 [.slice ca ds.length cc] 24:=hA.bk (hV38.ext e51) (hOd2.out.neB hV38 (by decide))
  rw [←List.map_singleton,←List.map_append] at hO
  obtain ⟨ca2,cl2,cc2,rfl⟩:=hO.slice3
  (refine jm (jn rfl ?_))
  refine Ops.store rfl rfl rfl rfl rfl ?_
  intro V6 hp6
  (refine jz (jjC (jY rfl rfl (by omega) (jI (eI rfl) (jz ?_)))))
  have hOnF:Only b8 w_b8 V6:=(((hOn2.trans (.ofExt (hOn3.ext e10 (by omega)))).trans (.ofExt e51)).app hA (Nat.le_refl _)).trans (.ofPut hp6)
  have hOdF:OwnCh V4 w_b8.heap.size (.slice ca2 cl2 cc2) (ds++[(cs[k].1,la,lc,ys)]):=⟨hO,fun x hx=>by
   rcases List.mem_append.1 hx with hx|hx
   ·exact ((hOd2.ins x hx).ext e51).appC (hOd2.out.ext e51) hA
   ·obtain rfl:=List.mem_singleton.1 hx
    exact ((hOy.ext e51).appC (hOd2.out.ext e51) hA).mono (by omega)⟩
  have hb8lt:=hV28.lt
  have hb8lt':=hA_b8.lt
  refine ⟨rfl,by (((iterate 10 refine Same.upd rfl ?_);refine Same.ovN' rfl ?_;assumption)),cs.length-(k+1),by omega,k+1,_,ds++[(cs[k].1,la,lc,ys)],congrArg (Value.int .i64) (by omega),rfl,by omega,hOnF,⟨hp6.new⟩,hOdF.put hp6 (by omega),?_⟩
  have hg:(readT (txF cs) rs)[k]?=some (readC rs k (txC cs[k])):=by
   rw [readT,List.getElem?_mapIdx]
   simp [txF,hkc]
  rw [take_snoc_get hg,←htx,txF,List.map_append]
  show _++[(cs[k].1,ys.map (·.2.2))]=_
  rw [hyw,←hlns];rfl
 have hsn:=hsk.2 _ (List.getElem_mem hnl)
 have hT3:TextI V3 cs:=hT.ext hE3
 have i3:=hT3.line hkc
 have i3w:=hT3.word hkc hnl
 have hz:∃ l,cs[k].2.2.2[n].2.2=l:=⟨_,rfl⟩
 obtain ⟨l,hl⟩:=hz
 have hll:=hsn.1
 rw [hl] at hll
 have hln:lns[n]?=some (lineS l rs k n):=by
  rw [←hlns,readC,List.getElem?_mapIdx]
  simp [hnl,hl]
 have hLR:RowV V3 false 1 (.slice cs[k].2.2.2[n].1 l.length cs[k].2.2.2[n].2.1) (l.map strV):=by have:=i3w.h;rw [hl] at this;exact this
 (refine jjB (jjC (jjZ rfl rfl (by omega) (jz (jjB (jjJ rfl ?_)))));refine jjG (jjB (jjD (jjB (jjC (jI (eI rfl) ?_)))));refine jF rfl rfl rfl (map_get (by omega)) ?_;intro _ _ _;refine jQ rfl rfl (jJ (eI rfl) (jJ (eS rfl) (jz (jjB (jjC ?_)))));refine jJ (eS rfl) (jz (jjB (jjB (jjC (jI (eS rfl) ?_)))));refine jh rfl (jY rfl rfl (by omega) (jI (eI rfl) (jz (jjD ?_)))))
 refine W.keep [(0,.pointer (some ⟨bb,0,none⟩)),(4,.pointer (some ⟨b4,0,none⟩)),(5,.map (some mb)),(8,.pointer (some ⟨b8,0,none⟩)),(42,.slice a cs.length c),(43,.int .i64 ((cs.length:Nat):Int)),(44,.int .i64 ((k:Nat):Int)),(9,.int .i64 ((k:Nat):Int)),(11,.pointer (some ⟨b11,0,none⟩)),(53,.slice cs[k].2.1 cs[k].2.2.2.length cs[k].2.2.1),(54,.int .i64 ((cs[k].2.2.2.length:Nat):Int)),(55,.int .i64 ((n:Nat):Int)),(12,.int .i64 ((n:Nat):Int)),(13,.slice cs[k].2.2.2[n].1 l.length cs[k].2.2.2[n].2.1),(14,.slice none 0 0),(62,.int .i64 ((l.length:Nat)+1:Int)),(63,.int .i64 ((0:Nat):Int))] (D:=(56::57::58::59::12::13::14::60::61::62::63::64::65::15::66::67::68::69::16::70::71::72::73::74::75::76::77::78::79::80::18::81::82::83::19::84::85::86::87::88::89::90::91::92::93::94::95::96::97::98::99::100::101::102::103::104::105::106::107::108::109::110::111::112::55::[])) (sO:=upds s2 _) (by (((iterate 12 refine Same.upd rfl ?_);exact Same.ovN))) ⟨eP rfl,eP rfl,eM rfl,eP rfl,eS rfl,eI rfl,eI rfl,eI rfl,eP rfl,eS rfl,eI rfl,eI rfl,eI rfl,(by rw [←hl];exact rfl),eS rfl,(by rw [←hl];exact rfl),eI rfl,trivial⟩ fun s3 hs3'=>?_
 refine W.loopG (64::65::15::66::67::68::69::16::70::71::72::73::74::75::76::77::78::79::80::18::81::82::83::19::84::85::86::87::88::89::90::91::92::93::94::95::96::97::98::99::100::101::102::103::14::104::63::[]) (fun gg s' V4=>∃ (q:Nat) (wa:Option Addr) (wn wc:Nat) (ws:List ByteArray),s' 63=.int .i64 ((q:Nat):Int)∧s' 14=.slice wa wn wc∧gg=l.length+1-q∧q≤l.length+1∧Ext V3 V4∧OwnL V4 V3.heap.size 9 false 1 (.slice wa wn wc) (ws.map strV)∧ws.filter fullB=(List.range q).flatMap (wrdS l rs k n)∧ws.length≤q * 101) (l.length+1) ⟨0,none,0,0,[],rfl,rfl,rfl,Nat.zero_le _,.refl _,OwnL.nil _ _ _ _ _,rfl,Nat.zero_le _⟩ ?_
 rintro _ sd4 V4 ⟨q,wa,wn,wc,ws,h63,h14,rfl,hq,hE4,hOw,hwf,hwl⟩
 refine W.fix h63 (W.fix (d:=14) h14 ?_)
 clear h63 h14
 have zE4:=hE4.size
 have hz:=hOw.slice
 obtain ⟨_,_,ewn⟩:=hz
 simp only [Value.slice.injEq,List.length_map] at ewn
 obtain ⟨-,hwn,-⟩:=ewn
 by_cases hql:q<l.length+1
 rotate_left
 ·have hqe:q=l.length+1:=by omega
  have hws:ws.filter fullB=lineS l rs k n:=by rw [hwf,hqe];rfl
  (refine jjB (jjC (jja rfl rfl (by omega) (jz (jjB (jjK rfl ?_)))));refine jjE ?_)
  refine W.drawX 7 (fun w'=>At w' b11 0 [.int .i64 cs[k].1,.slice la ys.length lc]) ?_
  intro w1 hS1
  have x1:=hS1.ext
  have aB:=Bk.toAt (h:=hV3b)
  have s1:=aB.ext (hE4.trans x1)
  (refine AnyX.take [0,1,2] ?_ ?_ ?_;(decide +kernel);(exact s1);(((apply jjT;exact rfl;rintro w' q0;refine jm (jn rfl (jz ?_));exact ⟨rfl,rfl⟩;apply jjT;exact rfl;rintro w' q0;refine jN rfl rfl rfl (jz ?_);exact ⟨rfl,rfl⟩;apply jjT;exact rfl;rintro w' q0;refine jI (eS rfl) (jz ?_);exact ⟨rfl,rfl⟩;refine jjU ?_))))
  (apply AnyX.one 3;(decide +kernel);exact rfl;(exact s1))
  refine Ops.callR (cap:=[]) rfl (inferInstance:Enters Tryz.prog 122).h rfl (DeleteFunc_own wa wn wc ws _ (hOw.ext x1) (by omega)) ?_
  rintro e w5' ⟨v',rfl,hOd5,hext5⟩
  refine ⟨v',rfl,?_⟩
  refine jz ?_
  have x5:Ext V3 w5':=hext5 V3 (hE4.trans x1) (Nat.le_refl _)
  have z5:=x5.size
  have hz:=hOd5.slice
  obtain ⟨a6,c6,hv6⟩:=hz
  rw [List.length_map,hws] at hv6
  subst hv6
  rw [hws] at hOd5
  have s5:=aB.ext x5
  (apply AnyX.one 4;(decide +kernel);exact rfl;(exact s5))
  (refine jjP (v:=.slice _ _ _) rfl (by exact rfl) (by exact rfl) (by exact rfl) (by exact rfl) ?_;intro b45 w_b45 hb_b45 hs_b45 hS_b45 hk_b45;have hR_b45:=RowV.one (agg:=false) (k:=1) rfl hk_b45)
  refine jz ?_
  have hR45:RowV w_b45 false 1 (.slice (some ⟨b45,0,none⟩) 1 1) [encLn (a6,c6,lineS l rs k n)]:=hR_b45
  have x45:=x5.trans hS_b45.ext
  have z45:=x45.size
  have s45:=aB.ext x45
  (apply AnyX.one 5;(decide +kernel);exact rfl;(exact s45))
  refine Ops.appendL (hOy.out.ext x45) (by omega) hR45 rfl rfl rfl rfl (one_ln _) ?_ ?_ ?_
  ·rw [List.length_map];simp only [List.length_cons,List.length_nil];omega
  ·rw [List.length_map];simp only [List.length_cons,List.length_nil];omega
  intro lv2 w9 hA9 hO9 _ hown9
  refine jz ?_
  have hnb:∀ b,b<w_b11.heap.size→(Value.slice la ys.length lc).ownBlock≠some b:=fun b h e=>by have:=(hOy.out.block _ e).1;omega
  have lt11:=hA_b11.lt
  have s9:=hA9.at_ s45 (hnb _ (by omega))
  (refine AnyX.take [6] ?_ ?_ ?_;(decide +kernel);(exact s9);(((apply jjT;exact rfl;rintro w' q0;refine jm (jn rfl (jz ?_));exact ⟨rfl,rfl⟩;refine jjU ?_))))
  (apply AnyX.one 7;(decide +kernel);exact rfl;(exact s9))
  have hB9:Bk w9 b11 [.int .i64 cs[k].1,.slice la ys.length lc] 99:=hA9.bk (hV3b.ext x45) (hnb _ (by omega))
  rw [←List.map_singleton,←List.map_append] at hO9
  have hz:=hO9.slice3
  obtain ⟨la2,ll2,lc2,rfl⟩:=hz
  refine Ops.storeC (cs:=[.int .i64 cs[k].1,.slice la ys.length lc]) (j:=1) (v:=.slice la2 ll2 lc2) rfl rfl rfl rfl (show 1<2 by omega) ?_
  intro wF hpF
  refine jz ?_
  refine AnyX.done (by decide +kernel) ?_
  have hOnF:Only b11 w_b11 wF:=((hOn3.trans (.ofExt x45)).app hA9 (Nat.le_refl _)).trans (.ofPut hpF)
  have hOyF:OwnLn w9 w_b11.heap.size (.slice la2 ll2 lc2) (ys++[(a6,c6,lineS l rs k n)]):=⟨hO9,fun y hy=>by
   rcases List.mem_append.1 hy with hy|hy
   ·exact ((hOy.ins y hy).ext x45).app hA9 (OwnL.ne ((hOy.ins y hy).ext x45) (hOy.out.ext x45) (by decide))
   ·obtain rfl:=List.mem_singleton.1 hy
    exact ((hOd5.ext hS_b45.ext).app hA9 (OwnL.ne (hOd5.ext hS_b45.ext) (hOy.out.ext x45) (by decide))).mono (by omega)⟩
  (refine jjC (jY rfl rfl (by omega) (jI (eI rfl) (jz ?_))))
  refine ⟨rfl,by (((iterate 12 refine Same.upd rfl ?_);refine Same.ovN' rfl ?_;assumption)),cs[k].2.2.2.length-(n+1),by omega,n+1,_,ys++[(a6,c6,lineS l rs k n)],congrArg (Value.int .i64) (by omega),rfl,by omega,hOnF,⟨hpF.new⟩,hOyF.put hpF (by omega),?_⟩
  rw [take_snoc_get hln,←hyw,List.map_append];rfl
 have hz:∃ o,l.getD q ⟨#[]⟩=o:=⟨_,rfl⟩
 obtain ⟨o,ho⟩:=hz
 (refine jjB (jjC (jjZ rfl rfl (by omega) (jz (jjB (jjJ rfl ?_)))));refine jjG (jjB (jjD (jjB (jjC (jI (eI rfl) ?_)))));refine jJ (eI rfl) (jz (jjB (jjC (jI (eS rfl) (jI (eI rfl) ?_))))))
 refine jjQ ((own_leaf cs[k].2.2.2[n].1 cs[k].2.2.2[n].2.1 l.length l q _ rfl (by omega) (by omega) (hLR.ext hE4)).mono fun v _ _ e=>e.trans (by rw [ho])) rfl rfl ?_
 rintro _ w5' hS5' rfl
 have x5:=hE4.trans hS5'.ext
 have z5:=x5.size
 skip
 (refine jjP (v:=.string _) rfl (by exact rfl) (by exact rfl) (by exact rfl) (by exact rfl) ?_;intro b69 w_b69 hb_b69 hs_b69 hS_b69 hk_b69;have hR_b69:=RowV.one (agg:=false) (k:=1) rfl hk_b69)
 have x69:=hS_b69.ext
 have z69:=x69.size
 have hO69:OwnL w_b69 w5'.heap.size 9 false 1 (.slice (some ⟨b69,0,none⟩) 1 1) ([o].map strV):=OwnL.one rfl (by omega) hk_b69
 (refine jJ (eS rfl) (jz (jjB (jjB (jjC (jI (eM rfl) ?_)))));refine jI (eI rfl) (jI (eI rfl) (jI (eI rfl) ?_)))
 (refine jjS (cells:=[.int .i64 (k:Int),.int .i64 (n:Int),.int .i64 (q:Int)]) ?_ ?_;exact rfl)
 skip
 have hz:∃ H,hereR ((k:Int),(n:Int),(q:Int)) rs=H:=⟨_,rfl⟩
 obtain ⟨H,hH⟩:=hz
 have hz:=hrows ((k:Int),(n:Int),(q:Int))
 obtain ⟨ha,hc,hv,hHR⟩:=hz
 rw [hH] at hv hHR
 have hHl:H.length≤100:=by rw [←hH];have:=here_len ((k:Int),(n:Int),(q:Int)) rs;omega
 have hHm:∀ r∈H,r∈rs:=fun r hr=>by rw [←hH] at hr;exact (here_mem hr).1
 have hHlast:∀ (i:Nat) (hi:i<H.length),H[i].2.1≠2→i+1=H.length:=fun i hi h=>by
  by_cases e:i+1=H.length
  ·exact e
  ·exfalso
   subst hH
   exact h (here_put hrs.next (by omega))
 have hX69:Ext V w_b69:=hEV3.trans (x5.trans x69)
 refine Ops.lookupV (k:=((k:Int),(n:Int),(q:Int))) (encK:=encPl) hv (hM.ext hX69) rfl rfl ?_
 (refine jh rfl (jI (eI rfl) (jz (jjD ?_))))
 refine W.keep [(0,.pointer (some ⟨bb,0,none⟩)),(4,.pointer (some ⟨b4,0,none⟩)),(5,.map (some mb)),(8,.pointer (some ⟨b8,0,none⟩)),(42,.slice a cs.length c),(43,.int .i64 ((cs.length:Nat):Int)),(44,.int .i64 ((k:Nat):Int)),(9,.int .i64 ((k:Nat):Int)),(11,.pointer (some ⟨b11,0,none⟩)),(53,.slice cs[k].2.1 cs[k].2.2.2.length cs[k].2.2.1),(54,.int .i64 ((cs[k].2.2.2.length:Nat):Int)),(55,.int .i64 ((n:Nat):Int)),(12,.int .i64 ((n:Nat):Int)),(13,.slice cs[k].2.2.2[n].1 l.length cs[k].2.2.2[n].2.1),(14,.slice wa wn wc),(62,.int .i64 ((l.length:Nat)+1:Int)),(63,.int .i64 ((q:Nat):Int)),(15,.int .i64 ((q:Nat):Int)),(16,.slice (some ⟨b69,0,none⟩) 1 1),(75,.slice ha H.length hc),(76,.int .i64 ((H.length:Nat):Int)),(77,.int .i64 ((0:Nat):Int))] (D:=(64::65::15::66::67::68::69::16::70::71::72::73::74::75::76::77::78::79::80::18::81::82::83::19::84::85::86::87::88::89::90::91::92::93::94::95::96::97::98::99::100::101::102::103::14::104::63::[])) (sO:=upds s3 _) (by (((iterate 18 refine Same.upd rfl ?_);exact Same.ovN))) ⟨eP rfl,eP rfl,eM rfl,eP rfl,eS rfl,eI rfl,eI rfl,eI rfl,eP rfl,eS rfl,eI rfl,eI rfl,eI rfl,eS rfl,eS rfl,eI rfl,eI rfl,eI rfl,eS rfl,eS rfl,eI rfl,eI rfl,trivial⟩ fun s4 hs4'=>?_
 refine W.loopG (78::79::80::18::81::82::83::19::84::85::86::87::88::89::90::91::92::93::94::95::96::97::98::99::16::100::77::[]) (fun gg s' V6=>∃ (i:Nat) (sa:Option Addr) (sn sc:Nat) (so:List ByteArray),s' 77=.int .i64 ((i:Nat):Int)∧s' 16=.slice sa sn sc∧gg=H.length-i∧i≤H.length∧Ext w5' V6∧OwnL V6 w5'.heap.size 9 false 1 (.slice sa sn sc) (so.map strV)∧(so=(foldR o (H.take i)).1++[(foldR o (H.take i)).2]∨(so=(foldR o (H.take i)).1∧(foldR o (H.take i)).2.size=0∧i=H.length))) H.length ⟨0,some ⟨b69,0,none⟩,1,1,[o],rfl,rfl,rfl,Nat.zero_le _,x69,hO69,.inl rfl⟩ ?_
 rintro _ sd5 V6 ⟨i,sa,sn,sc,so,h77,h16,rfl,hi,hE6,hOs,hso⟩
 refine W.fix h77 (W.fix (d:=16) h16 ?_)
 clear h77 h16
 have zE6:=hE6.size
 have hz:=hOs.slice
 obtain ⟨_,_,esn⟩:=hz
 simp only [Value.slice.injEq,List.length_map] at esn
 obtain ⟨-,hsn',-⟩:=esn
 have hfl:=foldR_len o (H.take i)
 have hti:=List.length_take_le i H
 by_cases hiH:i<H.length
 rotate_left
 ·have hz:i=H.length:=by omega
  subst hz
  rw [List.take_length] at hso hfl
  have hff:=filter_fold (fun r hr=>hrs.put r (hHm r hr)) (hso.imp_right fun h=>⟨h.1,h.2.1⟩)
  have hsl:so.length≤H.length+1:=by
   rcases hso with h|⟨h,_⟩
   ·rw [h,List.length_append];simp only [List.length_cons,List.length_nil];omega
   ·rw [h];omega
  (refine jjB (jjC (jja rfl rfl (by omega) (jz (jjB (jjK rfl ?_)))));refine jjE (jjC (jI (eS rfl) (jI (eS rfl) ?_))))
  refine Ops.appendL (hOw.ext (hS5'.ext.trans hE6)) (by omega) hOs.row rfl rfl rfl rfl (all_strs _) ?_ ?_ ?_
  ·simp only [List.length_map];omega
  ·simp only [List.length_map];omega
  intro v2 V7 hA hO7 _ _
  rw [←List.map_append] at hO7
  have hz:=hO7.slice3
  obtain ⟨a7,n7,c7,rfl⟩:=hz
  (refine jJ (eS rfl) (jz (jjC (jY rfl rfl (by omega) (jI (eI rfl) (jz ?_))))))
  refine ⟨rfl,by (((iterate 9 refine Same.upd rfl ?_);refine Same.ovN' rfl ?_;assumption)),l.length+1-(q+1),by omega,q+1,a7,n7,c7,ws++so,congrArg (Value.int .i64) (by omega),rfl,rfl,by omega,hA.ext (x5.trans hE6) (Nat.le_refl _),hO7,?_,?_⟩
  ·rw [List.filter_append,hwf,hff,range_snoc]
   congr 1
   unfold wrdS
   rw [hH,ho]
  ·rw [List.length_append];omega
 have hgi:=List.getElem?_eq_getElem hiH
 have hso':so=(foldR o (H.take i)).1++[(foldR o (H.take i)).2]:=by
  rcases hso with h|⟨_,_,h⟩
  ·exact h
  ·omega
 have hrm:=hHm _ (List.getElem_mem hiH)
 have hz:=kindAt H[i].2.1 (hrs.kind _ hrm)
 obtain ⟨kj,fr,fm,hkd,hk4,hn1,hn2,hK,-,hmk⟩:=hz
 have hst:((foldR o (H.take i)).1++mkL H[i].2.1 (foldR o (H.take i)).2 H[i].2.2=(foldR o (H.take (i+1))).1++[(foldR o (H.take (i+1))).2])∨((foldR o (H.take i)).1++mkL H[i].2.1 (foldR o (H.take i)).2 H[i].2.2=(foldR o (H.take (i+1))).1∧(foldR o (H.take (i+1))).2.size=0∧i+1=H.length):=step_some (o:=o) hgi (by have:=hrs.kind _ hrm;omega) (hrs.omit_ _ hrm) (hHlast i hiH)
 have hslen:sn=(foldR o (H.take i)).1.length+1:=by rw [hsn',hso',List.length_append];rfl
 have hz:=hOs.self (by rw [List.length_map];omega)
 obtain ⟨gs,rfl,hgs,_⟩:=hz
 have hz:=hOs.cells
 obtain ⟨cds,hBs,hcl,hnc,hcm,hll',htk,hBg⟩:=hz
 have hcell:cds[sn-1]?=some (strV (foldR o (H.take i)).2):=by
  have h2:(cds.take sn)[sn-1]?=some (strV (foldR o (H.take i)).2):=by
   rw [htk,List.getElem?_map,hso',List.getElem?_append_right (by omega),show sn-1-(foldR o (H.take i)).1.length=0 by omega];rfl
  rwa [List.getElem?_take,if_pos (by omega)] at h2
 have hlast:((sn:Nat):Int)-1=((sn-1:Nat):Int):=by omega
 have i6:RowI V6 (.slice ha H.length hc) true 5 (H.map encRd):=⟨hHR.ext ((hEV3.trans x5).trans hE6)⟩
 have hg6:At V6 2 0 kindsC:=hg.ext ((hE3.trans x5).trans hE6)
 (refine jjB (jjC (jjZ rfl rfl (by omega) (jz (jjB (jjJ rfl ?_)))));refine jjG (jjB (jjD (jjB (jjC ?_))));refine jF rfl rfl rfl (map_get (by omega)) ?_;intro _ _ _;refine jQ rfl rfl ?_)
 (apply jjR rfl;(intro _;first|exact eI rfl|exact eB rfl|exact eP rfl|exact eS rfl|exact eT rfl|exact eA rfl|exact eU rfl|exact eF rfl|exact eM rfl|exact eN rfl|exact rfl);exact rfl;exact rfl;exact rfl;exact rfl;intro b18 w_b18 hb_b18 hs_b18 hS_b18 hk_b18;have hA_b18:=Bk.of hk_b18)
 (refine jz (jjB (jjC (jI (eS rfl) (jh rfl (jZ rfl rfl (by omega) ?_)))));refine jJ (eI rfl) (jz ?_))
 refine W.draw (fun w'=>Ext w5' w'∧At w' b18 0 [.int .i64 H[i].1.1,.int .i64 H[i].1.2.1,.int .i64 H[i].1.2.2,.int .u8 H[i].2.1,.string H[i].2.2]) ?_
 intro w1 hS1
 have y1:Ext V6 w1:=hS_b18.ext.trans hS1.ext
 have hb18:At w_b18 b18 0 [.int .i64 H[i].1.1,.int .i64 H[i].1.2.1,.int .i64 H[i].1.2.2,.int .u8 H[i].2.1,.string H[i].2.2]:=Bk.toAt (h:=hA_b18)
 have s1:=And.intro (hE6.trans y1) (hb18.ext hS1.ext)
 (refine jjV [0,1] ?_ ?_ ?_;(decide +kernel);(exact s1);(((refine jjT rfl (fun _ _=>jI (eS rfl) (jz ⟨rfl,rfl⟩)) (jjT rfl (fun _ _=>jI (eI rfl) (jz ⟨rfl,rfl⟩)) (jjU ?_))))))
 refine jjV [2] (by decide +kernel) s1 (jjT (v:=.slice (some ⟨gs,0,none⟩) (sn-1) sc) rfl (fun w' q1=>?_) (jjU ?_));(refine Ops.sliceXHv (hi:=sn-1) rfl rfl hlast (by omega) (by omega) ?_;refine jz ?_;exact ⟨rfl,rfl⟩)
 (refine jjV [3,4] ?_ ?_ ?_;(decide +kernel);(exact s1);(((apply jjT;exact rfl;rintro w' ⟨q0,q1⟩;refine jm (jn rfl (jz ?_));exact ⟨rfl,rfl⟩;apply jjT;exact rfl;rintro w' ⟨q0,q1⟩;refine jN rfl rfl rfl (jz ?_);exact ⟨rfl,rfl⟩;refine jjU ?_))))
 refine jjV [5] (by decide +kernel) s1 (jjT (v:=.pointer (some ⟨2,0+kj * 3,none⟩)) rfl (fun w' q1=>?_) (jjU ?_));(refine Ops.indexAP (j:=kj) rfl rfl hkd (by simpa using hk4) ?_;refine jz ?_;exact ⟨rfl,rfl⟩)
 (refine jjV [6,7] ?_ ?_ ?_;(decide +kernel);(exact s1);(((apply jjT;exact rfl;rintro w' ⟨q0,q1⟩;have:=hK w' (hg.ext ((hE3.trans x5).trans q0));refine jm (jn rfl (jz ?_));exact ⟨rfl,rfl⟩;apply jjT;exact rfl;rintro w' ⟨q0,q1⟩;have:=hK w' (hg.ext ((hE3.trans x5).trans q0));refine jP rfl rfl rfl (jz ?_);exact ⟨rfl,rfl⟩;refine jjU ?_))))
 (refine jjV [8,9,10,12,13] ?_ ?_ ?_;(decide +kernel);(exact s1);(((refine jjT rfl (fun _ _=>jI (eS rfl) (jz ⟨rfl,rfl⟩)) (jjT rfl (fun _ _=>jI (eI rfl) (jz ⟨rfl,rfl⟩)) ?_);apply jjT;exact rfl;rintro w' ⟨q0,q1⟩;refine jG rfl rfl (by assumption) (by omega) (jz ?_);exact ⟨rfl,rfl⟩;apply jjT;exact rfl;rintro w' ⟨q0,q1⟩;refine jm (jn rfl (jz ?_));exact ⟨rfl,rfl⟩;apply jjT;exact rfl;rintro w' ⟨q0,q1⟩;refine jN rfl rfl rfl (jz ?_);exact ⟨rfl,rfl⟩;refine jjU ?_))))
 (apply jjW 11;(decide +kernel);exact rfl;(exact s1))
 refine jR ((hBs.ext y1).cellO (o:=0+(sn-1)) (by rw [Nat.zero_add];exact hcell)) rfl rfl ?_
 refine jz ?_
 (apply jjW 14;(decide +kernel);exact rfl;(exact s1))
 refine jjQ (hmk (foldR o (H.take i)).2 H[i].2.2 _) rfl rfl ?_
 intro vm w14 hS14 hOm
 refine jz ?_
 have y14:=y1.trans hS14.ext
 have z14:=y14.size
 have s14:=And.intro (hE6.trans y14) ((hb18.ext hS1.ext).ext hS14.ext)
 have hcut:=(hOs.ext y14).cut (m:=sn-1) (by rw [List.length_map];omega) (by omega)
 have hct:(so.map strV).take (sn-1)=((foldR o (H.take i)).1).map strV:=by
  rw [←List.map_take,hso',List.take_append_of_le_length (by omega),List.take_of_length_le (by omega)]
 rw [hct] at hcut
 have hz:=hOm.slice
 obtain ⟨am,cm',hvm⟩:=hz
 rw [List.length_map] at hvm
 subst hvm
 (apply jjW 15;(decide +kernel);exact rfl;(exact s14))
 have hmkl:(mkL H[i].2.1 (foldR o (H.take i)).2 H[i].2.2).length≤2:=by unfold mkL;split;simp;split<;>simp
 refine Ops.appendL hcut (by omega) hOm.row rfl rfl rfl rfl (all_strs _) ?_ ?_ ?_
 ·simp only [List.length_map];omega
 ·simp only [List.length_map];omega
 intro v2 w15 hA15 hO15 _ _
 refine jz ?_
 rw [←List.map_append] at hO15
 have hz:=hO15.slice3
 obtain ⟨a7,n7,c7,rfl⟩:=hz
 have x15:Ext w5' w15:=hA15.ext (hE6.trans y14) (Nat.le_refl _)
 have hlt18:=hA_b18.lt
 have aa15:=(hA15.at_ ((hb18.ext hS1.ext).ext hS14.ext) (fun e=>by
  simp only [Value.ownBlock,Option.some.injEq] at e
  have:=hBs.lt
  omega))
 have s15:=And.intro x15 aa15
 (refine jjV [16] ?_ ?_ ?_;(decide +kernel);(exact s15);(((refine jjT rfl (fun _ _=>jJ (eS rfl) (jz ⟨rfl,rfl⟩)) (jjU ?_)))))
 refine jjX (by decide +kernel) s15 ?_
 (refine jjC (jY rfl rfl (by omega) (jI (eI rfl) (jz ?_))))
 exact ⟨rfl,by (((iterate 29 refine Same.upd rfl ?_);exact Same.ovN)),H.length-(i+1),by omega,i+1,a7,n7,c7,(foldR o (H.take i)).1++mkL H[i].2.1 (foldR o (H.take i)).2 H[i].2.2,congrArg (Value.int .i64) (by omega),rfl,rfl,by omega,x15,hO15,hst⟩

theorem next_cases (x y:Rd):(cmpP x.1 y.1=1∧nextB x y=false)∨(cmpP x.1 y.1=0∧x.2.1≠2∧nextB x y=false)∨(cmpP x.1 y.1=0∧x.2.1=2∧nextB x y=true)∨(cmpP x.1 y.1=-1∧nextB x y=true):=by
 rcases befP_tri x.1 y.1 with h|h|h
 ·have h2:befP y.1 x.1=false:=by
   cases hb:befP y.1 x.1 with
   | false=>rfl
   | true=>have:=befP_trans h hb;rw [befP_irr] at this;cases this
  have h3:¬ y.1=x.1:=fun e=>by rw [e,befP_irr] at h;cases h
  exact .inr (.inr (.inr ⟨cmpP_lt h,by simp [nextB,h2,h3]⟩))
 ·have h2:cmpP x.1 y.1=0:=by rw [h];exact cmpP_self _
  by_cases h3:x.2.1=2
  ·exact .inr (.inr (.inl ⟨h2,h3,by simp [nextB,h,h3,befP_irr]⟩))
  ·exact .inr (.inl ⟨h2,h3,by simp [nextB,h,h3]⟩)
 ·have h2:befP x.1 y.1=false:=by
   cases hb:befP x.1 y.1 with
   | false=>rfl
   | true=>have:=befP_trans h hb;rw [befP_irr] at this;cases this
  have h3:x.1≠y.1:=fun e=>by rw [e,befP_irr] at h;cases h
  exact .inl ⟨cmpP_gt h2 h3,by simp [nextB,h]⟩
theorem fitR_eq {l:List ByteArray} {q kd:Int} {s:ByteArray} (h:1≤kd∧kd≤3):fitR l q kd s=(inB 0 ((l.length:Int)-1+behN kd) q && rgtB kd (l.getD q.toNat ⟨#[]⟩) s):=by
 have hsd:kd=1∨kd=2∨kd=3:=by omega
 rcases hsd with rfl|rfl|rfl
 ·simp [fitR,rgtB,behN]
 ·simp [fitR,rgtB,behN]
 ·simp [fitR,rgtB,behN]
theorem fitR_no {l:List ByteArray} {q kd:Int} {s:ByteArray} (h:¬ (1≤kd∧kd≤3)):fitR l q kd s=false:=by
 rw [fitR,if_neg (by omega),if_neg (by omega),if_neg (by omega)]
structure SmallR (rs:List Rd):Prop where
 len:rs.length≤1000
 word:∀ r∈rs,r.2.2.size≤1000
 byte:∀ r∈rs,0≤r.2.1∧r.2.1≤255
theorem fitR_kind {l:List ByteArray} {q kd:Int} {s:ByteArray} (h:fitR l q kd s=true):(1≤kd∧kd≤3)∧(kd=1→s.size=0)∧(kd=2→s.size≠0):=by
 by_cases hk:1≤kd∧kd≤3
 ·refine ⟨hk,fun e=>?_,fun e=>?_⟩
  ·subst e
   simp [fitR] at h
   rw [h.2];rfl
  ·subst e
   simp [fitR,wordB] at h
   omega
 ·rw [fitR_no hk] at h;cases h
theorem readB_kind {t:Tx} {r:Rd} (h:readB t r=true):(1≤r.2.1∧r.2.1≤3)∧(r.2.1=1→r.2.2.size=0)∧(r.2.1=2→r.2.2.size≠0):=by
 unfold readB at h
 split at h
 ·cases h
 ·exact fitR_kind h
theorem good_of {t:Tx} {rs:List Rd} (hl:rs.length≤20) (h1:∀ (j:Nat) (hj:j<rs.length),readB t rs[j]=true) (h2:∀ (j:Nat) (hj:j+1<rs.length),nextB rs[j] rs[j+1]=true):GoodR rs:=by
 have h3:∀ r∈rs,readB t r=true:=fun r hr=>by
  obtain ⟨j,hj,rfl⟩:=List.mem_iff_getElem.1 hr
  exact h1 j hj
 exact ⟨by omega,nextsB_yes h2,fun r hr=>(readB_kind (h3 r hr)).1,fun r hr=>(readB_kind (h3 r hr)).2.1,fun r hr=>(readB_kind (h3 r hr)).2.2⟩
theorem copyB_id {t:Tx} {id:Int} {rs:List Rd} (h:inB 0 9999 id=false):copyB t id rs=false:=by simp [copyB,h]
theorem copyB_len {t:Tx} {id:Int} {rs:List Rd} (h:¬ rs.length≤20):copyB t id rs=false:=by simp [copyB,h]
theorem copyB_read {t:Tx} {id:Int} {rs:List Rd} {j:Nat} (hj:j<rs.length) (h:readB t rs[j]=false):copyB t id rs=false:=by
 have:rs.all (readB t)=false:=all_no hj h
 simp only [copyB,this,Bool.false_and,Bool.and_false]
theorem copyB_next {t:Tx} {id:Int} {rs:List Rd} {j:Nat} (hj:j+1<rs.length) (h:nextB rs[j] rs[j+1]=false):copyB t id rs=false:=by
 have:nextsB rs=false:=nextsB_no j hj h
 simp only [copyB,this,Bool.false_and,Bool.and_false]
theorem copyB_yes {t:Tx} {id:Int} {rs:List Rd} (h0:inB 0 9999 id=true) (hl:rs.length≤20) (h1:∀ (j:Nat) (hj:j<rs.length),readB t rs[j]=true) (h2:∀ (j:Nat) (hj:j+1<rs.length),nextB rs[j] rs[j+1]=true):copyB t id rs=lensB (readT t rs):=by
 have e1:rs.all (readB t)=true:=all_yes h1
 have e2:nextsB rs=true:=nextsB_yes h2
 simp only [copyB,h0,e1,e2,decide_eq_true hl,Bool.and_true,Bool.true_and]
theorem lensB_no {t:Tx} {k:Nat} (hk:k<t.length) (h:t[k].2.any (fun l=>!inB 1 10 (l.length:Int))=true):lensB t=false:=by
 refine all_no hk ?_
 rw [any_not] at h
 simpa using h
theorem lensB_yes {t:Tx} (h:∀ (k:Nat) (hk:k<t.length),t[k].2.any (fun l=>!inB 1 10 (l.length:Int))=false):lensB t=true:=by
 refine all_yes fun k hk=>?_
 have:=h k hk
 rw [any_not] at this
 simpa using this
theorem text_line {t:Tx} {p:Pl} {l:List ByteArray} (h:textB t=true) (hl:lineT t p=some l):1≤l.length∧l.length≤10:=by
 unfold lineT at hl
 split at hl
 ·obtain ⟨x,hx,hxy⟩:=Option.bind_eq_some_iff.1 hl
  simp only [textB,Bool.and_eq_true] at h
  have h1:=List.all_eq_true.1 h.1.2 x (List.mem_of_getElem? hx)
  simp only [chapB,Bool.and_eq_true] at h1
  have h2:=List.all_eq_true.1 h1.2 l (List.mem_of_getElem? hxy)
  simp [lineB,inB] at h2
  omega
 ·cases hl
theorem right1_leaf (y:Ln) (w:World):Ct Tryz.prog 139 [encLn y] w fun v _=>v=.bool (!inB 1 10 (y.2.2.length:Int)):=by
 obtain ⟨B,hB⟩:∃ B,inB 1 10 (y.2.2.length:Int)=B:=⟨_,rfl⟩
 refine Ct.ofW (by simp) ?_
 (refine jjB (jjC (jJ (eB rfl) (jz (jjB (jjC ?_)))));refine jI (eS rfl) (jh rfl ?_))
 (refine jjP (v:=.int _ _) rfl (by exact rfl) (by exact rfl) (by exact rfl) (by exact rfl) ?_;intro b5 w_b5 hb_b5 hs_b5 hS_b5 hk_b5;have hR_b5:=RowV.one (agg:=false) (k:=1) rfl hk_b5)
 skip
 refine jjQ (inOne_leaf 1 10 (y.2.2.length:Int) b5 B _ hB hR_b5) rfl rfl ?_
 rintro _ w2 hS2 rfl
 (refine js rfl (jJ (eB rfl) (jz (jjF ?_)));refine jB rfl rfl ⟨inferInstance,?_⟩)
 rw [hB];exact rfl
theorem any_map' {α β:Type} (f:α→β) (p:β→Bool) (l:List α):(l.map f).any p=l.any (fun x=>p (f x)):=by rw [List.any_map];rfl

set_option maxHeartbeats 16000000 in
theorem right_leaf (a:Option Addr) (c:Nat) (cs:List Ch) (w:World) [hrow:RowI w (.slice a cs.length c) true 2 (cs.map encCh)] [hT:TextI w cs] [hg:At w 2 0 kindsC] (bb:Nat) (id:Int) (ra:Option Addr) (rc:Nat) (rs:List Rd) (hs:SmallT cs) (hrs:SmallR rs) (ht:textB (txF cs)=true)
  [hb:At w bb 0 [.slice a cs.length c]] [hrd:RowI w (.slice ra rs.length rc) true 5 (rs.map encRd)] :
  Ct Tryz.prog 120 [.pointer (some ⟨bb,0,none⟩),.agg #[.int .i64 id,.slice ra rs.length rc]] w fun v _=>v=.bool (copyB (txF cs) id rs):=by
 have hs1:=hs.1
 have hrl:=hrs.len
 refine Ct.ofW (by simp) ?_
 (refine jjB (jjC ?_))
 (refine jy rfl ?_;intro b3 w_b3 hb_b3 hs_b3 hS_b3 hk_b3;have hA_b3:=At.ofBlock hk_b3)
 (refine jJ (eB rfl) (jz (jjB (jjB (jjC (jm ?_)))));refine jn rfl (jN rfl rfl rfl ?_))
 (refine jjP (v:=.int _ _) rfl (by exact rfl) (by exact rfl) (by exact rfl) (by exact rfl) ?_;intro b15 w_b15 hb_b15 hs_b15 hS_b15 hk_b15;have hR_b15:=RowV.one (agg:=false) (k:=1) rfl hk_b15)
 obtain ⟨B1,h1⟩:∃ B,inB 0 9999 id=B:=⟨_,rfl⟩
 skip
 refine jjQ (inOne_leaf 0 9999 id b15 B1 _ h1 hR_b15) rfl rfl ?_
 rintro _ w2 hS2 rfl
 cases B1
 ·(refine jq rfl (jI (eB rfl) (jU rfl rfl rfl rfl (jU rfl rfl rfl rfl (jU rfl rfl rfl rfl (jU rfl rfl rfl rfl ?_)))));refine jK rfl (eB rfl) (jz (jjJ rfl (jjB (jjC (jJ (eB rfl) ?_)))));refine jz (jjF ?_);refine jB rfl rfl ⟨inferInstance,?_⟩)
  rw [copyB_id h1];exact rfl
 by_cases h20:rs.length≤20
 rotate_left
 ·(refine jp rfl (jI (eB rfl) (jT rfl rfl rfl (jm (jn rfl (jT rfl rfl rfl ?_)))));refine jN rfl rfl rfl (jT rfl rfl rfl (jh rfl (jT rfl rfl rfl (jjd rfl rfl (by omega) (jL rfl (eB rfl) ?_)))));refine jz (jjJ rfl (jjB (jjC (jJ (eB rfl) (jz ?_)))));refine jjF ?_;refine jB rfl rfl ⟨inferInstance,?_⟩)
  rw [copyB_len h20];exact rfl
 (refine jp rfl (jI (eB rfl) (jT rfl rfl rfl (jm (jn rfl (jT rfl rfl rfl ?_)))));refine jN rfl rfl rfl (jT rfl rfl rfl (jh rfl (jT rfl rfl rfl (jje rfl rfl (by omega) (jL rfl (eB rfl) ?_)))));refine jz (jjK rfl (jjG (jjB (jjB (jjC ?_)))));refine jm (jn rfl (jN rfl rfl rfl (jh rfl (jI (eI rfl) (jz ?_)))));refine jjD ?_)
 have hE2:Ext w w2:=inferInstance
 refine W.keep0 [(0,.pointer (some ⟨bb,0,none⟩)),(3,.pointer (some ⟨b3,0,none⟩)),(25,.slice ra rs.length rc),(26,.int .i64 ((rs.length:Nat):Int)),(27,.int .i64 ((0:Nat):Int))] ⟨eP rfl,eP rfl,eS rfl,eI rfl,eI rfl,trivial⟩ fun s0=>?_
 have hb32:At w2 b3 0 [.int .i64 id,.slice ra rs.length rc]:=inferInstance
 refine W.loop (28::29::30::31::6::5::32::33::34::35::7::36::37::38::39::40::41::42::43::44::45::46::4::47::48::49::50::8::51::52::53::54::55::56::57::58::59::60::61::62::63::64::65::66::67::68::69::70::71::72::73::74::75::76::77::78::79::80::81::82::83::9::84::85::86::87::88::10::89::90::91::92::93::94::95::96::97::98::99::100::27::[]) (fun gg s' V=>∃ (i:Nat),s' 27=.int .i64 ((i:Nat):Int)∧gg=rs.length-i∧i≤rs.length∧(∀ (q:Nat) (hq:q<rs.length),q<i→readB (txF cs) rs[q]=true)∧∀ (q:Nat) (hq:q+1<rs.length),q+1<i→nextB rs[q] rs[q+1]=true) rs.length ⟨0,rfl,rfl,Nat.zero_le _,by intros;omega,by intros;omega⟩ ?_
 rintro _ sd V hSV ⟨i,h27,rfl,hi,hpre,hnx⟩
 refine W.fix h27 ?_
 clear h27
 have hEV:Ext w V:=hE2.trans hSV.ext
 have i7:At V 2 0 kindsC:=hg.ext hEV
 by_cases hir:i<rs.length
 rotate_left
 ·have hgood:GoodR rs:=good_of h20 (fun q hq=>hpre q hq (by omega)) (fun q hq=>hnx q hq (by omega))
  have hyes:=copyB_yes h1 h20 (fun q hq=>hpre q hq (by omega)) (fun q hq=>hnx q hq (by omega)) (t:=txF cs)
  (refine jjB (jjC (jja rfl rfl (by omega) (jz (jjB (jjK rfl ?_)))));refine jjE (jjB (jjB (jjC (jI (eP rfl) (jO rfl rfl rfl rfl ?_))))))
  refine jjQ (read_leaf a c cs _ bb id ra rc rs hs hgood) rfl rfl ?_
  rintro _ w5 hS5 ⟨a',c',ds,rfl,htx,hO⟩
  have hdl:ds.length=(readT (txF cs) rs).length:=by rw [←htx,txF_len]
  have hdl2:ds.length≤1000:=by rw [hdl,readT,List.length_mapIdx,txF_len];omega
  have e0:(ds.map encCh).length=ds.length:=List.length_map _
  rw [e0] at hO
  skip
  refine Ops.field rfl rfl ?_
  (refine jh rfl (jI (eI rfl) (jz (jjD ?_))))
  refine W.keep0 [(104,.slice a' ds.length c'),(105,.int .i64 ((ds.length:Nat):Int)),(106,.int .i64 ((0:Nat):Int))] ⟨(by rw [←e0];exact rfl),(by rw [←e0];exact rfl),eI rfl,trivial⟩ fun s1=>?_
  refine W.loop (107::108::109::12::110::111::112::4::113::106::[]) (fun gg s' V=>∃ (k:Nat),s' 106=.int .i64 ((k:Nat):Int)∧gg=ds.length-k∧k≤ds.length∧(∀ (q:Nat) (hq:q<ds.length),q<k→(txC ds[q]).2.any (fun l=>!inB 1 10 (l.length:Int))=false)) ds.length ⟨0,rfl,rfl,Nat.zero_le _,by intros;omega⟩ ?_
  rintro _ sd2 V2 hSV2 ⟨k,h106,rfl,hk,hpre2⟩
  refine W.fix h106 ?_
  clear h106
  have hEw:Ext w V2:=(hEV.trans hS5.ext).trans hSV2.ext
  have hst:Step w V2:=hEw.toStep
  by_cases hkd:k<ds.length
  rotate_left
  ·have hl:lensB (readT (txF cs) rs)=true:=by
    rw [←htx]
    refine lensB_yes fun q hq=>?_
    rw [txF_len] at hq
    have:=hpre2 q hq (by omega)
    simpa [txF] using this
   (refine jjB (jjC (jja rfl rfl (by omega) (jz (jjB (jjK rfl ?_)))));refine jjE (jjB (jjC (jJ (eB rfl) (jz (jjF ?_)))));refine jB rfl rfl ⟨inferInstance,?_⟩)
   rw [hyes,hl];exact rfl
  have hOx:=hO.ins _ (List.getElem_mem hkd)
  have hOout:=hO.out.ext hSV2.ext
  have i2:RowI V2 (.slice a' ds.length c') true 2 (ds.map encCh):=⟨hOout.row⟩
  (refine jjB (jjC (jjZ rfl rfl (by omega) (jz (jjB (jjJ rfl ?_)))));refine jjG (jjB (jjD (jjB (jjC ?_))));refine jF rfl rfl rfl (map_get (by omega)) ?_;intro _ _ _;refine jQ rfl rfl ?_)
  (apply jjR rfl;(intro _;first|exact eI rfl|exact eB rfl|exact eP rfl|exact eS rfl|exact eT rfl|exact eA rfl|exact eU rfl|exact eF rfl|exact eM rfl|exact eN rfl|exact rfl);exact rfl;exact rfl;exact rfl;exact rfl;intro b12 w_b12 hb_b12 hs_b12 hS_b12 hk_b12;have hA_b12:=Bk.of hk_b12)
  (refine jz (jjB (jjC (jm (jn rfl (jN rfl rfl rfl ?_))))))
  obtain ⟨P,hP⟩:∃ P,(txC ds[k]).2.any (fun l=>!inB 1 10 (l.length:Int))=P:=⟨_,rfl⟩
  have hP':ds[k].2.2.2.any (fun y=>!inB 1 10 (y.2.2.length:Int))=P:=by rw [←hP,any_map']
  refine jjQ ((ContainsFunc_Slstring _ _ (.func (.func 139) #[] #[]) encLn ds[k].2.2.2 (fun y=>!inB 1 10 (y.2.2.length:Int)) ((hOx.out.ext hSV2.ext).ext hS_b12.ext).row ⟨_,[],rfl,inferInstance,fun w' y _ _=>right1_leaf y w'⟩).mono fun v _ _ h=>h.trans (by rw [hP'])) rfl rfl ?_
  rintro _ w6 hS6 rfl
  cases P
  ·(refine jz (jjK rfl (jjG (jjC (jY rfl rfl (by omega) (jI (eI rfl) ?_)))));refine jz ?_)
   refine ⟨rfl,by (((iterate 10 refine Same.upd rfl ?_);exact Same.ovN)),ds.length-(k+1),by omega,inferInstance,k+1,congrArg (Value.int .i64) (by omega),rfl,by omega,fun q hq hqk=>?_⟩
   by_cases e:q=k
   ·subst e;exact hP
   ·exact hpre2 q hq (by omega)
  ·have hl:lensB (readT (txF cs) rs)=false:=by
    rw [←htx]
    refine lensB_no (k:=k) (by rw [txF_len];exact hkd) ?_
    simpa [txF] using hP
   (refine jz (jjJ rfl (jjB (jjC (jJ (eB rfl) (jz ?_)))));refine jjF ?_;refine jB rfl rfl ⟨inferInstance,?_⟩)
   rw [hyes,hl];exact rfl
 have hrm:=List.getElem_mem hir
 have hby:=hrs.byte _ hrm
 have hwd:=hrs.word _ hrm
 (refine jjB (jjC (jjZ rfl rfl (by omega) (jz (jjB (jjJ rfl ?_)))));refine jjG (jjB (jjD (jjB (jjC (jI (eI rfl) ?_)))));refine jF rfl rfl rfl (map_get (by omega)) ?_;intro _ _ _;refine jQ rfl rfl ?_)
 ((skip);refine jjY ?_;intro b6 w_b6 hb_b6 hs_b6 hS_b6 hk_b6;have hA_b6:=Bk.of hk_b6)
 (apply jJ;exact eI rfl)
 refine Ops.store rfl rfl rfl rfl rfl ?_
 intro w6 hp6
 have e6:Ext V w6:=hp6.ext hS_b6.ext (by omega)
 have s6:Step V w6:=e6.toStep
 have hB6:Bk w6 b6 [.int .i64 rs[i].1.1,.int .i64 rs[i].1.2.1,.int .i64 rs[i].1.2.2,.int .u8 rs[i].2.1,.string rs[i].2.2] 186:=⟨hp6.new⟩
 have hA6:At w6 b6 0 [.int .i64 rs[i].1.1,.int .i64 rs[i].1.2.1,.int .i64 rs[i].1.2.2,.int .u8 rs[i].2.1,.string rs[i].2.2]:=Bk.toAt (h:=hB6)
 (refine jz (jjB (jjC (jI (eP rfl) (jm (jn rfl ?_)))));refine jO rfl rfl rfl rfl ?_)
 have hz:∃ o,lineC cs rs[i].1=o:=⟨_,rfl⟩
 obtain ⟨o,ho⟩:=hz
 refine jjQ ((line_leaf a c cs _ bb rs[i].1 hs).mono fun v _ _ h=>h.trans (by rw [ho])) rfl rfl ?_
 rintro _ w7 hS7 rfl
 cases o with
 | none =>
   have hno:readB (txF cs) rs[i]=false:=by rw [readB,lineC_T,ho];rfl
   (refine jJ (eS rfl) (jz (jjB (jjB (jjC (jI (eS rfl) ?_)))));refine jh rfl (jjh rfl rfl (by omega) (jI (eB rfl) (jU rfl rfl rfl rfl (jU rfl rfl rfl rfl (jU rfl rfl rfl rfl ?_)))));refine jU rfl rfl rfl rfl (jU rfl rfl rfl rfl (jU rfl rfl rfl rfl (jK rfl (eB rfl) (jz (jjJ rfl ?_)))));refine jjB (jjC (jJ (eB rfl) (jz (jjF ?_))));refine jB rfl rfl ⟨inferInstance,?_⟩)
   rw [copyB_read hir hno];exact rfl
 | some y =>
 have hln:lineT (txF cs) rs[i].1=some y.2.2:=by rw [lineC_T,ho];rfl
 have hyl:=text_line ht hln
 have hrb:readB (txF cs) rs[i]=fitR y.2.2 rs[i].1.2.2 rs[i].2.1 rs[i].2.2:=by rw [readB,hln]
 have hyrow:RowV V false 1 (.slice y.1 y.2.2.length y.2.1) (y.2.2.map strV):=by
  have hz:=lineC_mem ho
  obtain ⟨x,hx,hy⟩:=hz
  exact (hT.words x hx y hy).ext hEV
 (refine jJ (eS rfl) (jz (jjB (jjB (jjC (jI (eS rfl) ?_)))));refine jh rfl (jji rfl rfl (by omega) (jI (eB rfl) (jT rfl rfl rfl (jm (jn rfl ?_)))));refine jT rfl rfl rfl (jN rfl rfl rfl (jT rfl rfl rfl ?_)))
 refine Ops.convI rfl rfl (wrapi (by omega) (by omega)) ?_
 (refine jT rfl rfl rfl ?_)
 (refine jjP (v:=.int _ _) rfl (by exact rfl) (by exact rfl) (by exact rfl) (by exact rfl) ?_;intro b43 w_b43 hb_b43 hs_b43 hS_b43 hk_b43;have hR_b43:=RowV.one (agg:=false) (k:=1) rfl hk_b43)
 have hz:∃ B,inB 1 3 rs[i].2.1=B:=⟨_,rfl⟩
 obtain ⟨B2,h2⟩:=hz
 (refine jT rfl rfl rfl ?_)
 refine jjQ (inOne_leaf 1 3 rs[i].2.1 b43 B2 _ h2 hR_b43) rfl rfl ?_
 rintro _ w8 hS8 rfl
 cases B2
 ·have hno:readB (txF cs) rs[i]=false:=by rw [hrb];exact fitR_no (by simp [inB] at h2;omega)
  (refine jT rfl rfl rfl (jq rfl (jL rfl (eB rfl) (jz (jjJ rfl (jjB ?_)))));refine jjC (jJ (eB rfl) (jz (jjF ?_)));refine jB rfl rfl ⟨inferInstance,?_⟩)
  rw [copyB_read hir hno];exact rfl
 have hk13:1≤rs[i].2.1∧rs[i].2.1≤3:=by simpa [inB] using h2
 have hz:=kindAt rs[i].2.1 hk13
 obtain ⟨kj,fr,fm,hkd,hk4,hn1,hn2,hK,hrgt,-⟩:=hz
 rw [fitR_eq hk13] at hrb
 have hbeh:0≤behN rs[i].2.1∧behN rs[i].2.1≤1:=by unfold behN;split<;>omega
 (refine jT rfl rfl rfl (jp rfl (jL rfl (eB rfl) (jz (jjK rfl (jjG ?_)))));refine jjB (jjC (jm (jn rfl (jN rfl rfl rfl ?_)))))
 refine Ops.indexAP (j:=kj) rfl rfl hkd (by simpa using hk4) ?_
 refine Ops.loadA (hK _ inferInstance) rfl rfl rfl ?_
 (apply jjR rfl;(intro _;first|exact eI rfl|exact eB rfl|exact eP rfl|exact eS rfl|exact eT rfl|exact eA rfl|exact eU rfl|exact eF rfl|exact eM rfl|exact eN rfl|exact rfl);exact rfl;exact rfl;exact rfl;exact rfl;intro b8 w_b8 hb_b8 hs_b8 hS_b8 hk_b8;have hA_b8:=Bk.of hk_b8)
 (refine jz (jjB (jjB ?_)))
 have hA8:At w_b8 b8 0 [.int .i64 (behN rs[i].2.1),.func (.func fr) #[] ([]:List Value).toArray,.func (.func fm) #[] ([]:List Value).toArray]:=Bk.toAt (h:=hA_b8)
 have hE8:Ext V w_b8:=inferInstance
 have hz:∃ B,inB 0 ((y.2.2.length:Int)-1+behN rs[i].2.1) rs[i].1.2.2=B:=⟨_,rfl⟩
 obtain ⟨B3,h3⟩:=hz
 refine W.draw (fun w'=>Ext w_b8 w') ?_
 intro w1 hS1
 have x1:=hS1.ext
 (refine jjV [0,1,2,3,4,5,6,7,8] ?_ ?_ ?_;(decide +kernel);(exact x1);(((refine jjT rfl (fun _ _=>jI (eS rfl) (jz ⟨rfl,rfl⟩)) (jjT rfl (fun _ _=>jh rfl (jz ⟨rfl,rfl⟩)) (jjT rfl (fun _ _=>jZ rfl rfl (by omega) (jz ⟨rfl,rfl⟩)) ?_));apply jjT;exact rfl;rintro w' hq;have:=hq.toStep;refine jm (jn rfl (jz ?_));exact ⟨rfl,rfl⟩;apply jjT;exact rfl;rintro w' hq;have:=hq.toStep;refine jN rfl rfl rfl (jz ?_);exact ⟨rfl,rfl⟩;refine jjT rfl (fun _ _=>jY rfl rfl (by omega) (jz ⟨rfl,rfl⟩)) ?_;apply jjT;exact rfl;rintro w' hq;have:=hq.toStep;refine jm (jn rfl (jz ?_));exact ⟨rfl,rfl⟩;apply jjT;exact rfl;rintro w' hq;have:=hq.toStep;refine jm (jn rfl (jz ?_));exact ⟨rfl,rfl⟩;apply jjT;exact rfl;rintro w' hq;have:=hq.toStep;refine jN rfl rfl rfl (jz ?_);exact ⟨rfl,rfl⟩;refine jjU ?_))))
 (apply jjW 9;(decide +kernel);exact rfl;(exact x1))
 (refine jjP (v:=.int _ _) rfl (by exact rfl) (by exact rfl) (by exact rfl) (by exact rfl) ?_;intro b60 w_b60 hb_b60 hs_b60 hS_b60 hk_b60;have hR_b60:=RowV.one (agg:=false) (k:=1) rfl hk_b60)
 refine jz ?_
 have x2:=x1.trans hS_b60.ext
 (apply jjW 10;(decide +kernel);exact rfl;(exact x2))
 refine jjQ (inOne_leaf 0 ((y.2.2.length:Int)-1+behN rs[i].2.1) rs[i].1.2.2 b60 B3 _ h3 hR_b60) rfl rfl ?_
 rintro _ w9 hS9 rfl
 refine jz ?_
 have x3:=x2.trans hS9.ext
 rw [h3] at hrb
 cases B3
 ·(refine jjV [11,12,13,14,15,16,17,18,19,20,21,22,23,24] ?_ ?_ ?_;(decide +kernel);(exact x3);(((refine jjT rfl (fun _ _=>jq rfl (jz ⟨rfl,rfl⟩)) (jjT rfl (fun _ _=>jI (eB rfl) (jz ⟨rfl,rfl⟩)) (jjT rfl (fun _ _=>jU rfl rfl rfl rfl (jz ⟨rfl,rfl⟩)) (jjT rfl (fun _ _=>jU rfl rfl rfl rfl (jz ⟨rfl,rfl⟩)) (jjT rfl (fun _ _=>jU rfl rfl rfl rfl (jz ⟨rfl,rfl⟩)) (jjT rfl (fun _ _=>jU rfl rfl rfl rfl (jz ⟨rfl,rfl⟩)) ?_)))));refine jjT rfl (fun _ _=>jU rfl rfl rfl rfl (jz ⟨rfl,rfl⟩)) (jjT rfl (fun _ _=>jU rfl rfl rfl rfl (jz ⟨rfl,rfl⟩)) (jjT rfl (fun _ _=>jU rfl rfl rfl rfl (jz ⟨rfl,rfl⟩)) (jjT rfl (fun _ _=>jU rfl rfl rfl rfl (jz ⟨rfl,rfl⟩)) (jjT rfl (fun _ _=>jU rfl rfl rfl rfl (jz ⟨rfl,rfl⟩)) (jjT rfl (fun _ _=>jU rfl rfl rfl rfl (jz ⟨rfl,rfl⟩)) ?_)))));refine jjT rfl (fun _ _=>jU rfl rfl rfl rfl (jz ⟨rfl,rfl⟩)) (jjT rfl (fun _ _=>jK rfl (eB rfl) (jz ⟨rfl,rfl⟩)) (jjU ?_))))))
  refine jjX (by decide +kernel) x3 ?_
  (refine jjJ rfl (jjB (jjC (jJ (eB rfl) (jz (jjF ?_)))));refine jB rfl rfl ⟨inferInstance,?_⟩)
  have:=x3.toStep
  skip
  rw [copyB_read hir (by rw [hrb];rfl)];exact rfl
 have hq:∃ q:Nat,q≤y.2.2.length∧rs[i].1.2.2=(q:Int):=⟨rs[i].1.2.2.toNat,by simp [inB] at h3;omega,by simp [inB] at h3;omega⟩
 obtain ⟨q,hql,hqe⟩:=hq
 have hz:∃ B,rgtB rs[i].2.1 (y.2.2.getD q ⟨#[]⟩) rs[i].2.2=B:=⟨_,rfl⟩
 obtain ⟨B4,h4⟩:=hz
 rw [hqe,Int.toNat_natCast,h4,Bool.true_and] at hrb
 (refine jjV [11,12,13,14,15,16,17,18,20,21] ?_ ?_ ?_;(decide +kernel);(exact x3);(((refine jjT rfl (fun _ _=>jp rfl (jz ⟨rfl,rfl⟩)) (jjT rfl (fun _ _=>jI (eB rfl) (jz ⟨rfl,rfl⟩)) ?_);apply jjT;exact rfl;rintro w' hq;have:=hq.toStep;refine jT rfl rfl rfl (jm (jn rfl (jz ?_)));exact ⟨rfl,rfl⟩;apply jjT;exact rfl;rintro w' hq;have:=hq.toStep;refine jT rfl rfl rfl (jN rfl rfl rfl (jz ?_));exact ⟨rfl,rfl⟩;refine jjT rfl (fun _ _=>jT rfl rfl rfl (jI (eS rfl) (jz ⟨rfl,rfl⟩))) ?_;apply jjT;exact rfl;rintro w' hq;have:=hq.toStep;refine jT rfl rfl rfl (jm (jn rfl (jz ?_)));exact ⟨rfl,rfl⟩;apply jjT;exact rfl;rintro w' hq;have:=hq.toStep;refine jT rfl rfl rfl (jm (jn rfl (jz ?_)));exact ⟨rfl,rfl⟩;apply jjT;exact rfl;rintro w' hq;have:=hq.toStep;refine jT rfl rfl rfl (jN rfl rfl rfl (jz ?_));exact ⟨rfl,rfl⟩;apply jjT;exact rfl;rintro w' hq;have:=hq.toStep;refine jT rfl rfl rfl (jm (jn rfl (jz ?_)));exact ⟨rfl,rfl⟩;apply jjT;exact rfl;rintro w' hq;have:=hq.toStep;refine jT rfl rfl rfl (jN rfl rfl rfl (jz ?_));exact ⟨rfl,rfl⟩;refine jjU ?_))))
 (apply jjW 19;(decide +kernel);exact rfl;(exact x3))
 (refine jT rfl rfl rfl ?_)
 have hown:Ct Tryz.prog 121 [.slice y.1 y.2.2.length y.2.1,.int .i64 rs[i].1.2.2] w9 fun v _=>v=.string (y.2.2.getD q ⟨#[]⟩):=by
  rw [hqe]
  exact own_leaf y.1 y.2.1 y.2.2.length y.2.2 q w9 rfl (by omega) hql (hyrow.ext (hE8.trans x3))
 refine jjQ hown rfl rfl ?_
 rintro _ wA hSA rfl
 refine jz ?_
 have x4:=x3.trans hSA.ext
 (apply jjW 22;(decide +kernel);exact rfl;(exact x4))
 (refine jT rfl rfl rfl ?_)
 refine jjQ ((hrgt (y.2.2.getD q ⟨#[]⟩) rs[i].2.2 _ hwd).mono fun v _ _ h=>h.trans (by rw [h4])) rfl rfl ?_
 rintro _ wB hSB rfl
 refine jz ?_
 have x5:=x4.trans hSB.ext
 (refine jjV [23,24] ?_ ?_ ?_;(decide +kernel);(exact x5);(((refine jjT rfl (fun _ _=>jT rfl rfl rfl (js rfl (jz ⟨rfl,rfl⟩))) (jjT rfl (fun _ _=>jL rfl (eB rfl) (jz ⟨rfl,rfl⟩)) (jjU ?_))))))
 refine jjX (by decide +kernel) x5 ?_
 have s5:=x5.toStep
 cases B4
 ·(refine jjJ rfl (jjB (jjC (jJ (eB rfl) (jz (jjF ?_)))));refine jB rfl rfl ⟨inferInstance,?_⟩)
  rw [copyB_read hir hrb];exact rfl
 have hpre':∀ (q:Nat) (hq:q<rs.length),q<i+1→readB (txF cs) rs[q]=true:=fun q hq hqi=>by
  by_cases e:q=i
  ·subst e;exact hrb
  ·exact hpre q hq (by omega)
 by_cases hi0:i=0
 ·(refine jjK rfl (jjG (jjB (jjB (jjC (jI (eI rfl) ?_)))));refine jjh rfl rfl (by omega) (jz (jjJ rfl (jjE (jjC (jY rfl rfl (by omega) ?_)))));refine jI (eI rfl) (jz ?_))
  exact ⟨rfl,by (((iterate 57 refine Same.upd rfl ?_);exact Same.ovN)),rs.length-(i+1),by omega,inferInstance,i+1,congrArg (Value.int .i64) (by omega),rfl,by omega,hpre',fun q hq hqi=>by omega⟩
 have hi1:((i:Nat):Int)-1=((i-1:Nat):Int):=by omega
 have hii:i-1<rs.length:=by omega
 (refine jjK rfl (jjG (jjB (jjB (jjC (jI (eI rfl) ?_)))));refine jji rfl rfl (by omega) (jz (jjK rfl (jjG (jjB (jjC ?_)))));refine jm (jn rfl (jN rfl rfl rfl (jI (eI rfl) (jZ rfl rfl (by omega) ?_)))))
 refine jF rfl rfl hi1 (map_get hii) ?_
 intro ba oa hAl
 (refine jQ rfl rfl ?_)
 (apply jjR rfl;(intro _;first|exact eI rfl|exact eB rfl|exact eP rfl|exact eS rfl|exact eT rfl|exact eA rfl|exact eU rfl|exact eF rfl|exact eM rfl|exact eN rfl|exact rfl);exact rfl;exact rfl;exact rfl;exact rfl;intro b9 w_b9 hb_b9 hs_b9 hS_b9 hk_b9;have hA_b9:=Bk.of hk_b9)
 (refine jz (jjB (jjC (jm (jn rfl (jO rfl rfl rfl rfl ?_)))));refine jm (jn rfl (jO rfl rfl rfl rfl ?_)))
 refine jjQ (order_leaf rs[i-1].1 rs[i].1 _) rfl rfl ?_
 rintro _ wC hSC rfl
 have hnc:=next_cases rs[i-1] rs[i]
 have hii2:i-1+1<rs.length:=by omega
 have hnx0:∀ b,nextB rs[i-1] rs[i]=b→nextB rs[i-1] rs[i-1+1]=b:=fun b h=>by
  have e:i-1+1=i:=by omega
  simpa only [e] using h
 have hnx':nextB rs[i-1] rs[i]=true→∀ (q:Nat) (hq:q+1<rs.length),q+1<i+1→nextB rs[q] rs[q+1]=true:=fun h q hq hqi=>by
  by_cases e:q=i-1
  ·subst e;exact hnx0 _ h
  ·exact hnx q hq (by omega)
 rcases hnc with ⟨ho1,hn⟩|⟨ho1,hk2,hn⟩|⟨ho1,hk2,hn⟩|⟨ho1,hn⟩
 ·(refine jJ (eI rfl) (jz (jjB (jjC (jI (eI rfl) (jjd rfl rfl (by omega) ?_)))));refine jI (eB rfl) (jU rfl rfl rfl rfl (jU rfl rfl rfl rfl (jU rfl rfl rfl rfl (jV rfl rfl (jV rfl rfl ?_)))));refine jV rfl rfl (jU rfl rfl rfl rfl (jK rfl (eB rfl) (jz (jjJ rfl (jjB ?_)))));refine jjC (jJ (eB rfl) (jz (jjF ?_)));refine jB rfl rfl ⟨inferInstance,?_⟩)
  rw [copyB_next hii2 (hnx0 _ hn)];exact rfl
 ·(refine jJ (eI rfl) (jz (jjB (jjC (jI (eI rfl) (jje rfl rfl (by omega) ?_)))));refine jI (eB rfl) (jT rfl rfl rfl (jI (eI rfl) (jT rfl rfl rfl (jjh rfl rfl (by omega) (jT rfl rfl rfl ?_)))));refine jI (eB rfl) (jT rfl rfl rfl (jm (jn rfl (jT rfl rfl rfl (jN rfl rfl rfl ?_)))));refine jT rfl rfl rfl (jjj rfl rfl (by omega) (jT rfl rfl rfl (jK rfl (eB rfl) (jL rfl (eB rfl) (jz ?_)))));refine jjJ rfl (jjB (jjC (jJ (eB rfl) (jz (jjF ?_)))));refine jB rfl rfl ⟨inferInstance,?_⟩)
  rw [copyB_next hii2 (hnx0 _ hn)];exact rfl
 ·(refine jJ (eI rfl) (jz (jjB (jjC (jI (eI rfl) (jje rfl rfl (by omega) ?_)))));refine jI (eB rfl) (jT rfl rfl rfl (jI (eI rfl) (jT rfl rfl rfl (jjh rfl rfl (by omega) (jT rfl rfl rfl ?_)))));refine jI (eB rfl) (jT rfl rfl rfl (jm (jn rfl (jT rfl rfl rfl (jN rfl rfl rfl ?_)))));refine jT rfl rfl rfl (jjk rfl rfl (by omega) (jT rfl rfl rfl (jK rfl (eB rfl) (jL rfl (eB rfl) (jz ?_)))));refine jjK rfl (jjG (jjC (jY rfl rfl (by omega) (jI (eI rfl) (jz ?_))))))
  exact ⟨rfl,by (((iterate 81 refine Same.upd rfl ?_);exact Same.ovN)),rs.length-(i+1),by omega,inferInstance,i+1,congrArg (Value.int .i64) (by omega),rfl,by omega,hpre',hnx' hn⟩
 ·(refine jJ (eI rfl) (jz (jjB (jjC (jI (eI rfl) (jje rfl rfl (by omega) ?_)))));refine jI (eB rfl) (jT rfl rfl rfl (jI (eI rfl) (jT rfl rfl rfl (jji rfl rfl (by omega) (jT rfl rfl rfl ?_)))));refine jI (eB rfl) (jU rfl rfl rfl rfl (jU rfl rfl rfl rfl (jU rfl rfl rfl rfl (jT rfl rfl rfl (jL rfl (eB rfl) ?_)))));refine jL rfl (eB rfl) (jz (jjK rfl (jjG (jjC (jY rfl rfl (by omega) ?_)))));refine jI (eI rfl) (jz ?_))
  exact ⟨rfl,by (((iterate 81 refine Same.upd rfl ?_);exact Same.ovN)),rs.length-(i+1),by omega,inferInstance,i+1,congrArg (Value.int .i64) (by omega),rfl,by omega,hpre',hnx' hn⟩

theorem cpE_text {t:Tx} {id:Int} {rs:List Rd} (h:textB t=false):cpE t id rs=10:=by rw [cpE,h];rfl
theorem cpE_copy {t:Tx} {id:Int} {rs:List Rd} (h:textB t=true) (h2:copyB t id rs=false):cpE t id rs=11:=by rw [cpE,h,h2];rfl
theorem cpE_yes {t:Tx} {id:Int} {rs:List Rd} (h:textB t=true) (h2:copyB t id rs=true):cpE t id rs=0:=by rw [cpE,h,h2];rfl
theorem cpE_zero {t:Tx} {id:Int} {rs:List Rd} (h:cpE t id rs=0):textB t=true∧copyB t id rs=true:=by
 unfold cpE at h
 split at h
 ·split at h
  ·exact ⟨‹_›,‹_›⟩
  ·cases h
 ·cases h
theorem cpE_in (t:Tx) (id:Int) (rs:List Rd):0≤cpE t id rs∧cpE t id rs≤11:=by
 unfold cpE
 split
 ·split<;>omega
 ·omega
set_option maxHeartbeats 2000000 in
theorem copied_leaf (a:Option Addr) (c:Nat) (cs:List Ch) (w:World) [hrow:RowI w (.slice a cs.length c) true 2 (cs.map encCh)] [hT:TextI w cs] [hg:At w 2 0 kindsC] (id:Int) (ra:Option Addr) (rc:Nat) (rs:List Rd) (hs:SmallT cs) (hrs:SmallR rs)
  [hrd:RowI w (.slice ra rs.length rc) true 5 (rs.map encRd)] :
  Ct Tryz.prog 88 [.agg #[.slice a cs.length c],.agg #[.int .i64 id,.slice ra rs.length rc]] w fun v w'=>∃ o,v=.tuple #[.pointer o,.int .i64 (cpE (txF cs) id rs)]∧(cpE (txF cs) id rs=0→∃ b,o=some ⟨b,0,none⟩∧At w' b 0 [.slice a cs.length c]):=by
 refine Ct.ofW (by simp) ?_
 (refine jjB (jjC ?_))
 (refine jy rfl ?_;intro b2 w_b2 hb_b2 hs_b2 hS_b2 hk_b2;have hA_b2:=At.ofBlock hk_b2)
 skip
 (refine jy rfl ?_;intro b3 w_b3 hb_b3 hs_b3 hS_b3 hk_b3;have hA_b3:=At.ofBlock hk_b3)
 (refine jJ (eN rfl) (jJ (eI rfl) (jz (jjB (jjC (jO rfl rfl rfl rfl ?_))))))
 have hz:∃ B,textB (txF cs)=B:=⟨_,rfl⟩
 obtain ⟨B,hB⟩:=hz
 refine jjQ ((open_leaf a c cs _ hs).mono fun v _ _ h=>by rw [hB] at h;exact h) rfl rfl ?_
 rintro _ w2 hS2 ⟨o,rfl,ho⟩
 cases B
 ·(refine jI (eU rfl) (ju rfl rfl (ju rfl rfl (jJ rfl (jJ (eI rfl) (jz ?_)))));refine jjB (jjB (jjC (jI (eI rfl) (jc rfl rfl (jz ?_)))));refine jjJ rfl (jjB (jjC (jI (eI rfl) (jJ (eN rfl) (jJ (eI rfl) ?_)))));refine jz (jjF ?_);refine jC rfl rfl rfl ⟨inferInstance,?_⟩)
  rw [cpE_text hB]
  exact ⟨_,rfl,fun h=>by cases h⟩
 have hz:=ho rfl
 obtain ⟨b,-,rfl,hAb⟩:=hz
 have hz:∃ B,copyB (txF cs) id rs=B:=⟨_,rfl⟩
 obtain ⟨B2,h2⟩:=hz
 (refine jI (eU rfl) (ju rfl rfl (ju rfl rfl (jJ (eP rfl) (jJ (eI rfl) (jz ?_)))));refine jjB (jjB (jjC (jI (eI rfl) (jc rfl rfl (jz ?_)))));refine jjK rfl (jjG (jjB (jjB (jjC (jI (eP rfl) ?_)))));refine jO rfl rfl rfl rfl ?_)
 refine jjQ ((right_leaf a c cs _ b id ra rc rs hs hrs hB).mono fun v _ _ h=>h.trans (by rw [h2])) rfl rfl ?_
 rintro _ w3 hS3 rfl
 cases B2
 ·(refine jq rfl (jz (jjJ rfl (jjB (jjC (jJ (eN rfl) ?_)))));refine jJ (eI rfl) (jz (jjF ?_));refine jC rfl rfl rfl ⟨inferInstance,?_⟩)
  rw [cpE_copy hB h2]
  exact ⟨_,rfl,fun h=>by cases h⟩
 ·(refine jp rfl (jz (jjK rfl (jjG (jjB (jjC ?_)))));refine jI (eP rfl) (jJ (eP rfl) (jJ (eI rfl) (jz (jjF ?_))));refine jC rfl rfl rfl ⟨inferInstance,?_⟩)
  rw [cpE_yes hB h2]
  exact ⟨_,rfl,fun _=>⟨b,rfl,inferInstance⟩⟩
theorem find_drop {α:Type} {f:α→Bool} {l:List α} {i:Nat} (h:∀ (j:Nat) (hj:j<l.length),j<i→f l[j]=false):l.find? f=(l.drop i).find? f:=by
 induction i with
 | zero=>rfl
 | succ i ih =>
   rw [ih fun j hj hji=>h j hj (by omega)]
   by_cases hi:i<l.length
   ·rw [List.drop_eq_getElem_cons hi,List.find?_cons,h i hi (by omega)]
   ·rw [List.drop_of_length_le (by omega),List.drop_of_length_le (by omega)]
theorem placeB_line {t:Tx} {p:Pl} (h:placeB t p=true):∃ l,lineT t p=some l∧∃ q:Nat,q<l.length∧p.2.2=(q:Int):=by
 unfold placeB at h
 split at h
 ·cases h
 ·refine ⟨_,‹_›,p.2.2.toNat,?_,?_⟩<;>(simp [inB] at h;omega)
abbrev stF (p:Pl) (r:Rd):Bool:=decide (r.1=p) && decide (r.2.1≠2)
theorem standsB_hit {t:Tx} {rs:List Rd} {p:Pl} {i:Nat} (hi:i<rs.length) (hb:∀ (j:Nat) (hj:j<rs.length),j<i→stF p rs[j]=false) (h:stF p rs[i]=true):standsB t rs p=rs[i].2.2:=by
 have e:rs.find? (stF p)=some rs[i]:=by rw [find_drop hb,List.drop_eq_getElem_cons hi,List.find?_cons,h]
 unfold standsB
 rw [show (rs.find? fun r=>decide (r.1=p) && decide (r.2.1≠2))=some rs[i] from e]
theorem standsB_miss {t:Tx} {rs:List Rd} {p:Pl} (hb:∀ (j:Nat) (hj:j<rs.length),stF p rs[j]=false):standsB t rs p=wordT t p:=by
 have e:rs.find? (stF p)=none:=by rw [find_drop (i:=rs.length) (fun j hj _=>hb j hj),List.drop_length];rfl
 unfold standsB
 rw [show (rs.find? fun r=>decide (r.1=p) && decide (r.2.1≠2))=none from e]
set_option maxHeartbeats 4000000 in
theorem stands_leaf (a:Option Addr) (c:Nat) (cs:List Ch) (w:World) [hrow:RowI w (.slice a cs.length c) true 2 (cs.map encCh)] [hT:TextI w cs] (bb:Nat) (id:Int) (ra:Option Addr) (rc:Nat) (rs:List Rd) (p:Pl) (hs:SmallT cs) (hrs:SmallR rs) (hp:placeB (txF cs) p=true)
  [hb:At w bb 0 [.slice a cs.length c]] [hrd:RowI w (.slice ra rs.length rc) true 5 (rs.map encRd)] :
  Ct Tryz.prog 119 [.pointer (some ⟨bb,0,none⟩),.agg #[.int .i64 id,.slice ra rs.length rc],encPl p] w fun v _=>v=.string (standsB (txF cs) rs p):=by
 have hrl:=hrs.len
 refine Ct.ofW (by simp) ?_
 (refine jjB (jjC ?_))
 (refine jy rfl ?_;intro b4 w_b4 hb_b4 hs_b4 hS_b4 hk_b4;have hA_b4:=At.ofBlock hk_b4)
 skip
 (refine jy rfl ?_;intro b5 w_b5 hb_b5 hs_b5 hS_b5 hk_b5;have hA_b5:=At.ofBlock hk_b5)
 (refine jJ (eT rfl) (jz (jjB (jjB (jjC (jm ?_)))));refine jn rfl (jN rfl rfl rfl (jh rfl (jI (eI rfl) (jz (jjD ?_))))))
 have hE5:Ext w w_b5:=inferInstance
 refine W.keep0 [(0,.pointer (some ⟨bb,0,none⟩)),(5,.pointer (some ⟨b5,0,none⟩)),(10,.slice ra rs.length rc),(11,.int .i64 ((rs.length:Nat):Int)),(12,.int .i64 ((0:Nat):Int))] ⟨eP rfl,eP rfl,eS rfl,eI rfl,eI rfl,trivial⟩ fun s0=>?_
 refine W.loop (13::14::15::8::16::17::18::19::20::21::22::23::24::25::26::6::27::12::[]) (fun gg s' V=>∃ (i:Nat),s' 12=.int .i64 ((i:Nat):Int)∧gg=rs.length-i∧i≤rs.length∧(∀ (q:Nat) (hq:q<rs.length),q<i→stF p rs[q]=false)) rs.length ⟨0,rfl,rfl,Nat.zero_le _,by intros;omega⟩ ?_
 rintro _ sd V hSV ⟨i,h12,rfl,hi,hpre⟩
 refine W.fix h12 ?_
 clear h12
 have hEV:Ext w V:=hE5.trans hSV.ext
 by_cases hir:i<rs.length
 rotate_left
 ·have hmiss:=standsB_miss (t:=txF cs) (fun q hq=>hpre q hq (by omega))
  have hz:=placeB_line hp
  obtain ⟨l,hl,q,hq,hqe⟩:=hz
  rw [lineC_T] at hl
  have hz:=Option.map_eq_some_iff.1 hl
  obtain ⟨y,hy,rfl⟩:=hz
  have hyrow:RowV V false 1 (.slice y.1 y.2.2.length y.2.1) (y.2.2.map strV):=by
   have hz:=lineC_mem hy
   obtain ⟨x,hx,hy⟩:=hz
   exact (hT.words x hx _ hy).ext hEV
  have hz:=hyrow.place' (map_get hq)
  obtain ⟨ba,oa,ea,hAy⟩:=hz
  have hwt:wordT (txF cs) p=y.2.2[q]:=by
   rw [wordT,lineC_T,hy,hqe,Int.toNat_natCast,Option.map_some,Option.getD_some,List.getD_eq_getElem?_getD,List.getElem?_eq_getElem hq];rfl
  have hAy':At V ba (oa+q) [.string y.2.2[q]]:=by rw [Nat.mul_one] at hAy;exact hAy
  (refine jjB (jjC (jja rfl rfl (by omega) (jz (jjB (jjK rfl ?_)))));refine jjE (jjB ?_))
  refine W.draw (fun w'=>Ext V w') ?_
  intro w1 hS1
  have x1:=hS1.ext
  (refine jjV [0,1,3,4] ?_ ?_ ?_;(decide +kernel);(exact x1);(((refine jjT rfl (fun _ _=>jI (eP rfl) (jz ⟨rfl,rfl⟩)) ?_;apply jjT;exact rfl;rintro w' hq;have:=hq.toStep;refine jO rfl rfl rfl rfl (jz ?_);exact ⟨rfl,rfl⟩;apply jjT;exact rfl;rintro w' hq;have:=hq.toStep;refine jm (jn rfl (jz ?_));exact ⟨rfl,rfl⟩;apply jjT;exact rfl;rintro w' hq;have:=hq.toStep;refine jN rfl rfl rfl (jz ?_);exact ⟨rfl,rfl⟩;refine jjU ?_))))
  (apply jjW 2;(decide +kernel);exact rfl;(exact x1))
  refine jjQ ((line_leaf a c cs _ bb p hs).mono fun v _ _ h=>h.trans (by rw [hy])) rfl rfl ?_
  rintro _ w2 hS2 rfl
  refine jz ?_
  have x2:=x1.trans hS2.ext
  rw [show lnV (some y)=.slice (some ⟨ba,oa,none⟩) y.2.2.length y.2.1 from by show Value.slice y.1 _ _=_;rw [ea]]
  refine jjV [5] (by decide +kernel) x2 (jjT (v:=.pointer (some ⟨ba,oa+q,none⟩)) rfl (fun w' q1=>?_) (jjU ?_));(refine jG (j:=q) rfl rfl hqe (by omega) ?_;refine jz ?_;exact ⟨rfl,rfl⟩)
  refine jjV [6] (by decide +kernel) x2 (jjT (v:=.string y.2.2[q]) rfl (fun w' q1=>?_) (jjU ?_));(refine jR ((hAy'.ext q1).get (i:=0) rfl) rfl rfl ?_;refine jz ?_;exact ⟨rfl,rfl⟩)
  (refine jjV [7] ?_ ?_ ?_;(decide +kernel);(exact x2);(((refine jjT rfl (fun _ _=>jJ (eT rfl) (jz ⟨rfl,rfl⟩)) (jjU ?_)))))
  refine jjX (by decide +kernel) x2 ?_
  have:=x2.toStep
  (refine jjF ?_;refine jB rfl rfl ⟨inferInstance,?_⟩)
  rw [hmiss,hwt];exact rfl
 (refine jjB (jjC (jjZ rfl rfl (by omega) (jz (jjB (jjJ rfl ?_)))));refine jjG (jjB (jjD (jjB (jjC ?_))));refine jF rfl rfl rfl (map_get (by omega)) ?_;intro _ _ _;refine jQ rfl rfl ?_)
 (apply jjR rfl;(intro _;first|exact eI rfl|exact eB rfl|exact eP rfl|exact eS rfl|exact eT rfl|exact eA rfl|exact eU rfl|exact eF rfl|exact eM rfl|exact eN rfl|exact rfl);exact rfl;exact rfl;exact rfl;exact rfl;intro b8 w_b8 hb_b8 hs_b8 hS_b8 hk_b8;have hA_b8:=Bk.of hk_b8)
 (refine jz (jjB (jjC (jm (jn rfl (jO rfl rfl rfl rfl ?_)))));refine jO rfl rfl rfl rfl ?_)
 refine Ops.eqlT (enc:=encPl) rs[i].1 p rfl rfl ?_
 by_cases h1:rs[i].1=p
 rotate_left
 ·rw [decide_eq_false h1]
  (refine jI (eB rfl) (jU rfl rfl rfl rfl (jU rfl rfl rfl rfl (jU rfl rfl rfl rfl (jL rfl (eB rfl) (jz ?_)))));refine jjK rfl (jjG (jjC (jY rfl rfl (by omega) (jI (eI rfl) (jz ?_))))))
  refine ⟨rfl,by (((iterate 16 refine Same.upd rfl ?_);exact Same.ovN)),rs.length-(i+1),by omega,inferInstance,i+1,congrArg (Value.int .i64) (by omega),rfl,by omega,fun q hq hqi=>?_⟩
  by_cases e:q=i
  ·subst e;simp [stF,h1]
  ·exact hpre q hq (by omega)
 rw [decide_eq_true h1]
 by_cases h2:rs[i].2.1=2
 ·(refine jI (eB rfl) (jT rfl rfl rfl (jm (jn rfl (jT rfl rfl rfl (jN rfl rfl rfl ?_)))));refine jT rfl rfl rfl (jjk rfl rfl (by omega) (jK rfl (eB rfl) (jz (jjK rfl (jjG ?_)))));refine jjC (jY rfl rfl (by omega) (jI (eI rfl) (jz ?_))))
  refine ⟨rfl,by (((iterate 16 refine Same.upd rfl ?_);exact Same.ovN)),rs.length-(i+1),by omega,inferInstance,i+1,congrArg (Value.int .i64) (by omega),rfl,by omega,fun q hq hqi=>?_⟩
  by_cases e:q=i
  ·subst e;simp [stF,h2]
  ·exact hpre q hq (by omega)
 ·have hhit:=standsB_hit (t:=txF cs) hir hpre (by simp [stF,h1,h2])
  (refine jI (eB rfl) (jT rfl rfl rfl (jm (jn rfl (jT rfl rfl rfl (jN rfl rfl rfl ?_)))));refine jT rfl rfl rfl (jjj rfl rfl (by omega) (jK rfl (eB rfl) (jz (jjJ rfl (jjB ?_)))));refine jjC (jm (jn rfl (jN rfl rfl rfl (jJ (eT rfl) (jz ?_)))));refine jjF ?_;refine jB rfl rfl ⟨inferInstance,?_⟩)
  rw [hhit];exact rfl
set_option maxHeartbeats 4000000 in
theorem Stands_leaf (a:Option Addr) (c:Nat) (cs:List Ch) (w:World) [hrow:RowI w (.slice a cs.length c) true 2 (cs.map encCh)] [hT:TextI w cs] [hg:At w 2 0 kindsC] (id:Int) (ra:Option Addr) (rc:Nat) (rs:List Rd) (p:Pl) (hs:SmallT cs) (hrs:SmallR rs)
  [hrd:RowI w (.slice ra rs.length rc) true 5 (rs.map encRd)] :
  Ct Tryz.prog 87 [.agg #[.slice a cs.length c],.agg #[.int .i64 id,.slice ra rs.length rc],encPl p] w fun v _=>v=if cpE (txF cs) id rs≠0 then .tuple #[.string ⟨#[]⟩,.int .i64 (cpE (txF cs) id rs)] else if placeB (txF cs) p=false then .tuple #[.string ⟨#[]⟩,.int .i64 12] else .tuple #[.string (standsB (txF cs) rs p),.int .i64 0]:=by
 refine Ct.ofW (by simp) ?_
 (refine jjB (jjC ?_))
 (refine jy rfl ?_;intro b3 w_b3 hb_b3 hs_b3 hS_b3 hk_b3;have hA_b3:=At.ofBlock hk_b3)
 skip
 (refine jy rfl ?_;intro b4 w_b4 hb_b4 hs_b4 hS_b4 hk_b4;have hA_b4:=At.ofBlock hk_b4)
 skip
 (refine jy rfl ?_;intro b5 w_b5 hb_b5 hs_b5 hS_b5 hk_b5;have hA_b5:=At.ofBlock hk_b5)
 (refine jJ (eT rfl) (jJ (eI rfl) (jz (jjB (jjC (jO rfl rfl rfl rfl ?_)))));refine jO rfl rfl rfl rfl ?_)
 have hz:∃ e,cpE (txF cs) id rs=e:=⟨_,rfl⟩
 obtain ⟨e,he⟩:=hz
 have hin:=cpE_in (txF cs) id rs
 rw [he] at hin ⊢
 refine jjQ ((copied_leaf a c cs _ id ra rc rs hs hrs).mono fun v _ _ h=>by rw [he] at h;exact h) rfl rfl ?_
 rintro _ w2 hS2 ⟨o,rfl,ho⟩
 by_cases h0:e=0
 rotate_left
 ·(refine jI (eU rfl) (ju rfl rfl (ju rfl rfl (jJ rfl (jJ (eI rfl) (jz ?_)))));refine jjB (jjB (jjC (jI (eI rfl) (jjj rfl rfl (by omega) (jz ?_)))));refine jjJ rfl (jjB (jjC (jI (eI rfl) (jJ (eT rfl) (jJ (eI rfl) ?_)))));refine jz (jjF ?_);refine jC rfl rfl rfl ⟨inferInstance,?_⟩)
  rw [if_pos h0];exact rfl
 have hz:=ho h0
 obtain ⟨b,rfl,hAb⟩:=hz
 subst h0
 rw [if_neg (by simp)]
 have hz:∃ B,placeB (txF cs) p=B:=⟨_,rfl⟩
 obtain ⟨B,hB⟩:=hz
 (refine jI (eU rfl) (ju rfl rfl (ju rfl rfl (jJ (eP rfl) (jJ (eI rfl) (jz ?_)))));refine jjB (jjB (jjC (jI (eI rfl) (jjk rfl rfl (by omega) (jz ?_)))));refine jjK rfl (jjG (jjB (jjB (jjC (jI (eP rfl) ?_)))));refine jO rfl rfl rfl rfl ?_)
 refine jjQ ((has_leaf a c cs _ b p hs).mono fun v _ _ h=>h.trans (by rw [placeC_B,hB])) rfl rfl ?_
 rintro _ w3 hS3 rfl
 rw [hB]
 cases B
 ·(refine jq rfl (jz (jjJ rfl (jjB (jjC (jJ (eT rfl) ?_)))));refine jJ (eI rfl) (jz (jjF ?_));refine jC rfl rfl rfl ⟨inferInstance,?_⟩)
  exact rfl
 rw [if_neg (by simp)]
 (refine jp rfl (jz (jjK rfl (jjG (jjB (jjC ?_)))));refine jI (eP rfl) (jO rfl rfl rfl rfl (jO rfl rfl rfl rfl ?_)))
 refine jjQ (stands_leaf a c cs _ b id ra rc rs p hs hrs hB) rfl rfl ?_
 rintro _ w4 hS4 rfl
 (refine jJ (eT rfl) (jJ (eI rfl) (jz (jjF ?_)));refine jC rfl rfl rfl ⟨inferInstance,?_⟩)
 exact rfl

theorem wsT_at {t:Tx} {k:Nat} (hk:k<t.length):wsT t k=t[k].2:=by rw [wsT,List.getD_eq_getElem?_getD,List.getElem?_eq_getElem hk,Option.getD_some]
theorem lineT_at {t:Tx} {k n:Nat} {q:Int} (hk:k<t.length) (hn:n<t[k].2.length):lineT t ((k:Int),(n:Int),q)=some t[k].2[n]:=by
 rw [lineT,if_pos ⟨by simp,by simp⟩]
 simp only [Int.toNat_natCast]
 rw [List.getElem?_eq_getElem hk,Option.bind_some,List.getElem?_eq_getElem hn]
theorem placeB_get {t:Tx} {p:Pl} (h:placeB t p=true):∃ (k n w:Nat) (hk:k<t.length) (hn:n<t[k].2.length) (hw:w<t[k].2[n].length),p=((k:Int),(n:Int),(w:Int)):=by
 obtain ⟨l,hl,q,hq,hp⟩:=placeB_line h
 rw [lineT] at hl
 split at hl
 ·rename_i hc
  obtain ⟨x,hx,hl⟩:=Option.bind_eq_some_iff.1 hl
  obtain ⟨hk,rfl⟩:=List.getElem?_eq_some_iff.1 hx
  obtain ⟨hn,rfl⟩:=List.getElem?_eq_some_iff.1 hl
  exact ⟨_,_,q,hk,hn,hq,by ext<;>simp<;>omega⟩
 ·cases hl
theorem placeB_yes {t:Tx} {k n w:Nat} (hk:k<t.length) (hn:n<t[k].2.length) (hw:w<t[k].2[n].length):placeB t ((k:Int),(n:Int),(w:Int))=true:=by
 rw [placeB,lineT_at hk hn]
 simp only [inB,Bool.and_eq_true,decide_eq_true_eq]
 omega
theorem wordT_at {t:Tx} {k n w:Nat} (hk:k<t.length) (hn:n<t[k].2.length) (hw:w<t[k].2[n].length):wordT t ((k:Int),(n:Int),(w:Int))=t[k].2[n][w]:=by
 rw [wordT,lineT_at hk hn,Option.getD_some,Int.toNat_natCast,List.getD_eq_getElem?_getD,List.getElem?_eq_getElem hw,Option.getD_some]
theorem placeB_mem {t:Tx} {p:Pl}:placeB t p=true↔p∈allP t t.length:=by
 constructor
 ·intro h
  obtain ⟨k,n,w,hk,hn,hw,rfl⟩:=placeB_get h
  refine mem_allP.2 ⟨k,hk,mem_runA.2 ⟨n,w,?_,?_,rfl⟩⟩
  ·rw [wsT_at hk];exact hn
  ·simp only [wsT_at hk];exact hw
 ·intro h
  obtain ⟨k,hk,hm⟩:=mem_allP.1 h
  obtain ⟨n,w,hn,hw,rfl⟩:=mem_runA.1 hm
  simp only [wsT_at hk] at hn hw
  exact placeB_yes hk hn hw
theorem askE_yes {t:Tx} {wd side:Int} (h1:textB t=true) (h2:cutB wd side=true):askE t wd side=0:=by rw [askE,h1,h2];rfl

theorem allP_pos {t:Tx} (h:textB t=true):0<(allP t t.length).length:=by
 simp only [textB,Bool.and_eq_true,List.all_eq_true] at h
 obtain ⟨⟨h1,h2⟩,_⟩:=h
 have ht:0<t.length:=by simp only [inB,Bool.and_eq_true,decide_eq_true_eq] at h1;omega
 have hc:=h2 t[0] (List.getElem_mem ht)
 simp only [chapB,Bool.and_eq_true,List.all_eq_true] at hc
 obtain ⟨⟨_,h3⟩,h4⟩:=hc
 have hl:0<t[0].2.length:=by simp only [inB,Bool.and_eq_true,decide_eq_true_eq] at h3;omega
 have hy:=h4 t[0].2[0] (List.getElem_mem hl)
 simp only [lineB,Bool.and_eq_true] at hy
 have hw:0<t[0].2[0].length:=by have:=hy.1;simp only [inB,Bool.and_eq_true,decide_eq_true_eq] at this;omega
 exact List.length_pos_of_mem (placeB_mem.1 (placeB_yes ht hl hw))
theorem allS_lenP (t:Tx) (side wd:Int):(allS t side wd).length=(allP t t.length).length:=by rw [allS,List.length_map]

theorem make_word {t:Tx} {side W:Int} {p:Pl} {s:Slp} (h:makeF t side W p=some s):wordT t p=s.2.1:=by
 obtain ⟨k,i,hk,hi,rfl⟩:=makeF_some h
 have hil:i<(wsT t k).flatten.length:=by
  have:=(List.getElem?_eq_some_iff.1 hi).1
  rwa [runA_len] at this
 have hz:((runA k (wsT t k)).zip (wsT t k).flatten)[i]?=some (p,(wsT t k).flatten[i]):=by
  rw [List.getElem?_zip_eq_some]
  exact ⟨hi,List.getElem?_eq_getElem hil⟩
 have hm:(p,(wsT t k).flatten[i])∈allW t t.length:=List.mem_flatMap.2 ⟨k,List.mem_range.2 hk,List.mem_of_getElem? hz⟩
 obtain ⟨j,hj⟩:=List.mem_iff_getElem?.1 hm
 obtain ⟨k',n,w,hk',hn,hw,hp,hs⟩:=allW_word hj
 show wordT t p=(wsT t k).flatten.getD i ⟨#[]⟩
 rw [hp,wordT_at hk' hn hw,List.getD_eq_getElem?_getD,List.getElem?_eq_getElem hil,Option.getD_some,hs]
structure AllF (t:Tx) (wd side:Int) (l:List Slp):Prop where
 eq:allS t side wd=l
 len:l.length≤600
 pos:0<l.length
 nd:l.Nodup
 at_:∀ (i:Nat) (hi:i<l.length),(allP t t.length)[i]?=some l[i].1
 wd_:∀ (i:Nat) (hi:i<l.length),placeB t l[i].1=true∧wordT t l[i].1=l[i].2.1
 mk_:∀ (i:Nat) (hi:i<l.length),makeF t side wd l[i].1=some l[i]
 rt:∀ x∈l,slipB x=true
theorem allF {t:Tx} {wd side:Int} (ht:textB t=true) (hc:cutB wd side=true):AllF t wd side (allS t side wd) where
 eq:=rfl
 len:=allS_len ht
 pos:=by rw [allS_lenP];exact allP_pos ht
 nd:=allS_nodup
 at_ i hi:=by
  have hi':i<(allP t t.length).length:=by rwa [allS_lenP] at hi
  rw [List.getElem?_eq_getElem hi',allS_get hi]
 wd_ i hi:=by
  have h:=allS_mem (List.getElem_mem hi)
  exact ⟨placeB_mem.2 h.2,make_word h.1⟩
 mk_ i hi:=(allS_mem (List.getElem_mem hi)).1
 rt x hx:=allS_right ht hc hx

def prL (t:Tx) (n:Nat):List (Nat×Nat):=(List.range n).flatMap fun k=>(List.range (wsT t k).length).map fun j=>(k,j)
theorem prL_succ (t:Tx) (n:Nat):prL t (n+1)=prL t n++(List.range (wsT t n).length).map fun j=>(n,j):=by simp [prL,List.range_succ]
theorem prL_mem {t:Tx} {n:Nat} {p:Nat×Nat}:p∈prL t n↔p.1<n∧p.2<(wsT t p.1).length:=by
 obtain ⟨k,j⟩:=p
 simp only [prL,List.mem_flatMap,List.mem_range,List.mem_map,Prod.mk.injEq]
 constructor
 ·rintro ⟨k',h1,j',h2,rfl,rfl⟩;exact ⟨h1,h2⟩
 ·rintro ⟨h1,h2⟩;exact ⟨k,h1,j,h2,rfl,rfl⟩
theorem prL_nodup (t:Tx):∀ n,(prL t n).Nodup
 | 0=>by simp [prL]
 | n+1=>by
   rw [prL_succ,List.nodup_append]
   refine ⟨prL_nodup t n,?_,?_⟩
   ·refine List.Pairwise.map _ (fun a b h e=>h ?_) (List.nodup_range (n:=(wsT t n).length))
    simpa using e
   ·intro a ha b hb e
    subst e
    have h1:=prL_mem.1 ha
    obtain ⟨j,_,rfl⟩:=List.mem_map.1 hb
    have:=h1.1
    simp only at this
    omega
noncomputable def lnS (t:Tx) (side W:Int) (p:Nat×Nat):List Slp:=(lnP p.1 p.2 ((wsT t p.1).getD p.2 []).length).map (slP t side W)
theorem allP_pairs (t:Tx) (n:Nat):allP t n=(prL t n).flatMap fun p=>lnP p.1 p.2 ((wsT t p.1).getD p.2 []).length:=by
 rw [allP,prL,List.flatMap_assoc]
 congr 1
 funext k
 rw [List.flatMap_map]
 rfl
noncomputable def doubtL (t:Tx) (side W:Int) (D:Nat→Bool) (m:Nat):List Slp:=(List.range m).flatMap fun n=>if D n then lnS t side W ((prL t t.length).getD n (0,0)) else []
theorem doubtL_succ (t:Tx) (side W:Int) (D:Nat→Bool) (m:Nat):doubtL t side W D (m+1)=doubtL t side W D m++if D m then lnS t side W ((prL t t.length).getD m (0,0)) else []:=by simp [doubtL,List.range_succ]
def lineN (t:Tx) (p:Pl):Nat:=(prL t t.length).idxOf (p.1.toNat,p.2.1.toNat)
theorem range_get {α:Type} (l:List α) (d:α):(List.range l.length).map (fun n=>l.getD n d)=l:=by
 refine List.ext_getElem (by simp) fun i h1 h2=>?_
 simp [h2]
theorem allS_lines (t:Tx) (side W:Int):allS t side W=(List.range (prL t t.length).length).flatMap fun n=>lnS t side W ((prL t t.length).getD n (0,0)):=by
 have h:(prL t t.length).flatMap (lnS t side W)=((List.range (prL t t.length).length).map fun n=>(prL t t.length).getD n (0,0)).flatMap (lnS t side W):=by rw [range_get]
 rw [List.flatMap_map] at h
 rw [←h,allS,allP_pairs,List.map_flatMap]
 rfl
theorem lnS_line {t:Tx} {side W:Int} {n:Nat} (hn:n<(prL t t.length).length) {s:Slp} (hs:s∈lnS t side W ((prL t t.length).getD n (0,0))):lineN t s.1=n:=by
 rw [List.getD_eq_getElem?_getD,List.getElem?_eq_getElem hn,Option.getD_some] at hs
 obtain ⟨p,hp,rfl⟩:=List.mem_map.1 hs
 rw [slP_at]
 simp only [lnP,List.mem_map,List.mem_range] at hp
 obtain ⟨w,-,rfl⟩:=hp
 rw [lineN]
 simp only [Int.toNat_natCast]
 exact List.Nodup.idxOf_getElem (prL_nodup t t.length) n hn
theorem doubt_filter (t:Tx) (side W:Int) (D:Nat→Bool):doubtL t side W D (prL t t.length).length=(allS t side W).filter fun s=>D (lineN t s.1):=by
 rw [allS_lines,List.filter_flatMap,doubtL,List.flatMap_def,List.flatMap_def]
 congr 1
 refine List.map_congr_left fun n hn=>?_
 rw [List.mem_range] at hn
 by_cases h:D n=true
 ·rw [if_pos h,List.filter_eq_self.2 fun s hs=>by rw [lnS_line hn hs,h]]
 ·rw [if_neg h,List.filter_eq_nil_iff.2 fun s hs=>by rw [lnS_line hn hs];exact h]

theorem RowV.takeV {w:World} {agg:Bool} {k l c:Nat} {a:Option Addr} {xs:List Value} (h:RowV w agg k (.slice a l c) xs) {hi:Nat} (h2:hi≤xs.length):RowV w agg k (.slice a hi c) (xs.take hi):=by
 obtain ⟨rfl,hlc⟩:=h.cap
 have:=h.part 0 hi (Nat.zero_le _) h2 c (by omega) a (fun _=>by cases a<;>simp [Addr.add])
 simpa using this
theorem RowV.dropV {w:World} {agg:Bool} {k l c:Nat} {a:Option Addr} {xs:List Value} (h:RowV w agg k (.slice a l c) xs) {lo:Nat} (h2:lo≤xs.length):RowV w agg k (cutV a c k lo l) (xs.drop lo):=by
 obtain ⟨rfl,hlc⟩:=h.cap
 have:=h.cut (lo:=lo) (hi:=xs.length) h2 (Nat.le_refl _)
 rwa [List.take_length] at this
section rules
variable {P:Program} {ro:Option Nat} {n:Nat} {all rest:List Oper} {K:Sl→World→Prop} {s:Sl} {w:World} {d t e ty:Nat} {pos:String} {af:Array Edge} {x:Operand}
theorem Ops.sliceXLv {k bytes l c lo:Nat} {z:Value} {a:Option Addr} {i:Int} {k1:IntKind} {xl:Operand} (hx:ev n s x=.slice a l c) (hl:ev n s xl=.int k1 i)
  (hi':i=(lo:Int)) (h1:lo≤l) [ht:TSl P t e] [hz:TS P e z k bytes]
  (h:Ops P ro n all rest K (upd s d (cutV a c k lo l)) w):Ops P ro n all (⟨some d,.slice t x (some xl) none none,ty,pos,af,none⟩::rest) K s w:=by
 subst hi'
 refine Ops.ofRun (v:=cutV a c k lo l) (w':=w) rfl ?_ h
 simp [cutV,execOp,Instr.sliceAt,Instr.slice,Instr.sliceBounds,Instr.sliceBound,hx,hl,run_underlying ht.h,asIntOf,h1,run_sizeOf' w hz]
end rules

theorem map_snoc2 {α β:Type} (f:α→β) (A B:List α) (x:α):(A++B).map f++[f x]=(A++(B++[x])).map f:=by simp
def lnK (cs:List Ch) (k:Nat):List Ln:=(cs.take k).flatMap (·.2.2.2)
def plP (p:Nat×Nat):Pl:=((p.1:Int),(p.2:Int),0)
def atK (cs:List Ch) (k:Nat):List Pl:=(prL (txF cs) k).map plP
theorem lnK_succ {cs:List Ch} {k:Nat} (hk:k<cs.length):lnK cs (k+1)=lnK cs k++cs[k].2.2.2:=by
 rw [lnK,take_snoc_get (List.getElem?_eq_getElem hk),List.flatMap_append,lnK];simp
theorem wsT_len {cs:List Ch} {k:Nat} (hk:k<cs.length):(wsT (txF cs) k).length=cs[k].2.2.2.length:=by
 rw [wsT_at (by rw [txF_len];exact hk)];simp [txF]
theorem atK_succ {cs:List Ch} {k:Nat} (hk:k<cs.length):atK cs (k+1)=atK cs k++(List.range cs[k].2.2.2.length).map fun j=>plP (k,j):=by
 rw [atK,prL_succ,List.map_append,wsT_len hk,List.map_map];rfl
theorem lnK_len {cs:List Ch}:∀ {k:Nat},k≤cs.length→(lnK cs k).length=(prL (txF cs) k).length
 | 0,_=>by simp [lnK,prL]
 | k+1,h=>by
   rw [lnK_succ (by omega),prL_succ,List.length_append,List.length_append,lnK_len (by omega),List.length_map,List.length_range,wsT_len (by omega)]
structure DeskR (bd:Nat) (a:Option Addr) (c:Nat) (cs:List Ch) (ha:Option Addr) (hc:Nat) (hs:List Hp) (sa:Option Addr) (sc:Nat) (ss:List Shr) (xa:Option Addr) (xc:Nat) (xs:List Sht) (w:World):Prop where
 h:∃ la lc pa pc,At w bd 0 [.slice a cs.length c,.slice ha hs.length hc,.slice sa ss.length sc,.slice xa xs.length xc,.slice la (lnK cs cs.length).length lc,.slice pa (lnK cs cs.length).length pc] ∧
  RowV w false 1 (.slice la (lnK cs cs.length).length lc) ((lnK cs cs.length).map encLn)∧RowV w true 3 (.slice pa (lnK cs cs.length).length pc) ((atK cs cs.length).map encPl)
section
variable (a:Option Addr) (c:Nat) (cs:List Ch) (ha:Option Addr) (hc:Nat) (hs:List Hp) (sa:Option Addr) (sc:Nat) (ss:List Shr) (xa:Option Addr) (xc:Nat) (xs:List Sht) (w:World) [hrow:RowI w (.slice a cs.length c) true 2 (cs.map encCh)] [hT:TextI w cs]
set_option maxHeartbeats 8000000 in
theorem laid_hand (hsm:SmallT cs):Ct Tryz.prog 60 [.agg #[.slice a cs.length c,.slice ha hs.length hc,.slice sa ss.length sc,.slice xa xs.length xc]] w fun v w'=>∃ bd,v=.pointer (some ⟨bd,0,none⟩)∧w.heap.size≤bd∧DeskR bd a c cs ha hc hs sa sc ss xa xc xs w':=by
 have hs1:=hsm.1
 refine Ct.ofW (by simp) ?_
 (refine jjB (jjC ?_))
 (refine jy rfl ?_;intro b1 w_b1 hb_b1 hs_b1 hS_b1 hk_b1;have hA_b1:=At.ofBlock hk_b1)
 (refine jJ (eN rfl) (jz (jjB (jjC (jO rfl rfl rfl rfl ?_)))))
 (refine jjS (cells:=[.slice a cs.length c,.slice ha hs.length hc,.slice sa ss.length sc,.slice xa xs.length xc,.slice none 0 0,.slice none 0 0]) ?_ ?_;exact rfl)
 (refine jy rfl ?_;intro bd w_bd hb_bd hs_bd hS_bd hk_bd;have hA_bd:=At.ofBlock hk_bd)
 have hB0:=Bk.of (cs:=[.slice a cs.length c,.slice ha hs.length hc,.slice sa ss.length sc,.slice xa xs.length xc,.slice none 0 0,.slice none 0 0]) hk_bd
 have zb1:=hS_b1.size
 have hE0:Ext w w_bd:=inferInstance
 have hbw:w.heap.size≤bd:=by omega
 (refine jJ (eP rfl) (jz (jjB (jjB (jjC (jm ?_)))));refine jn rfl (jm (jn rfl (jN rfl rfl rfl (jh rfl (jI (eI rfl) ?_)))));refine jz (jjD ?_))
 refine W.keep0 [(3,.pointer (some ⟨bd,0,none⟩)),(13,.slice a cs.length c),(14,.int .i64 (cs.length:Int)),(15,.int .i64 ((0:Nat):Int))] ⟨eP rfl,eS rfl,eI rfl,eI rfl,trivial⟩ fun s0=>?_
 refine W.loopG (16::17::18::19::5::4::20::21::22::23::24::25::26::27::6::7::28::29::30::31::32::33::34::35::36::37::38::39::40::41::42::43::44::45::46::47::48::49::50::51::15::[]) (fun g s' V=>∃ (k:Nat) (lv pv:Value),s' 15=.int .i64 (k:Int)∧g=cs.length-k∧k≤cs.length∧Ext w V∧Bk V bd [.slice a cs.length c,.slice ha hs.length hc,.slice sa ss.length sc,.slice xa xs.length xc,lv,pv] 85∧OwnL V (bd+1) 70 false 1 lv ((lnK cs k).map encLn)∧OwnL V (bd+1) 48 true 3 pv ((atK cs k).map encPl)) cs.length ⟨0,_,_,rfl,rfl,Nat.zero_le _,hE0,hB0,OwnL.nil _ _ _ _ _,OwnL.nil _ _ _ _ _⟩ ?_
 rintro _ sd V ⟨k,lv,pv,h15,rfl,hk,hEV,hBd,hOl,hOp⟩
 refine W.fix h15 ?_
 clear h15
 have hEV':=hEV.toStep
 by_cases hk1:k<cs.length
 rotate_left
 ·obtain rfl:k=cs.length:=by omega
  have hll:=lnK_len (cs:=cs) (Nat.le_refl _)
  obtain ⟨la,lc,rfl⟩:=hOl.slice
  obtain ⟨pa,pc,rfl⟩:=hOp.slice
  rw [List.length_map] at hOl hOp hBd
  have epl:(atK cs cs.length).length=(lnK cs cs.length).length:=by rw [hll,atK,List.length_map]
  rw [epl] at hOp
  rw [List.length_map,epl] at hBd
  (refine jjB (jjC (jja rfl rfl (by omega) (jz (jjB (jjK rfl ?_)))));refine jjE (jjB (jjC (jI (eP rfl) (jJ (eP rfl) (jz ?_)))));refine jjF ?_;refine jB rfl rfl ⟨inferInstance,?_⟩)
  exact ⟨bd,rfl,hbw,la,lc,pa,pc,Bk.toAt,hOl.row,hOp.row⟩
 have hx:=hsm.2 cs[k] (List.getElem_mem hk1)
 have hrl:=hT.line hk1
 (refine jjB (jjC (jjZ rfl rfl (by omega) (jz (jjB (jjJ rfl ?_)))));refine jjG (jjB (jjD (jjB (jjC (jI (eI rfl) ?_)))));refine jF rfl rfl rfl (map_get (by omega)) ?_;intro _ _ _;refine jQ rfl rfl ?_)
 ((skip);refine jjY ?_;intro b5 w_b5 hb_b5 hs_b5 hS_b5 hk_b5;have hA_b5:=Bk.of hk_b5)
 (apply jJ;exact eI rfl)
 refine Ops.store rfl rfl rfl rfl rfl ?_
 intro V1 hp1
 have hA5:At V1 b5 0 [.int .i64 cs[k].1,.slice cs[k].2.1 cs[k].2.2.2.length cs[k].2.2.1]:=Bk.toAt (h:=⟨hp1.new⟩)
 have hE1:Ext V V1:=hp1.ext hS_b5.ext (by omega)
 have hE1':=hE1.toStep
 have hEw1:Ext w V1:=hEV.trans hE1
 have hnb5:bd≠b5:=by have:=(Bk.lt (h:=hBd));omega
 have hB1:Bk V1 bd [.slice a cs.length c,.slice ha hs.length hc,.slice sa ss.length sc,.slice xa xs.length xc,lv,pv] 85:=hBd.ext hE1
 (refine jz (jjB (jjC (jm (jn rfl (jN rfl rfl rfl ?_)))));refine jh rfl (jI (eI rfl) (jz (jjD ?_))))
 refine W.keep [(3,.pointer (some ⟨bd,0,none⟩)),(4,.int .i64 (k:Int)),(13,.slice a cs.length c),(14,.int .i64 (cs.length:Int)),(15,.int .i64 (k:Int)),(21,.slice cs[k].2.1 cs[k].2.2.2.length cs[k].2.2.1),(22,.int .i64 (cs[k].2.2.2.length:Int)),(23,.int .i64 ((0:Nat):Int))] (D:=(16::17::18::19::5::4::20::21::22::23::24::25::26::27::6::7::28::29::30::31::32::33::34::35::36::37::38::39::40::41::42::43::44::45::46::47::48::49::50::51::15::[])) (sO:=upds s0 _) (by (((iterate 11 refine Same.upd rfl ?_);exact Same.ovN))) ⟨eP rfl,eI rfl,eS rfl,eI rfl,eI rfl,eS rfl,eI rfl,eI rfl,trivial⟩ fun s1 hs1'=>?_
 refine W.loopG (24::25::26::27::6::7::28::29::30::31::32::33::34::35::36::37::38::39::40::41::42::43::44::45::46::47::48::49::50::23::[]) (fun g s' V=>∃ (n:Nat) (lv pv:Value),s' 23=.int .i64 (n:Int)∧g=cs[k].2.2.2.length-n∧n≤cs[k].2.2.2.length∧Ext w V∧Bk V bd [.slice a cs.length c,.slice ha hs.length hc,.slice sa ss.length sc,.slice xa xs.length xc,lv,pv] 85∧OwnL V (bd+1) 70 false 1 lv ((lnK cs k++cs[k].2.2.2.take n).map encLn)∧OwnL V (bd+1) 48 true 3 pv ((atK cs k++(List.range n).map fun j=>plP (k,j)).map encPl)) cs[k].2.2.2.length ⟨0,lv,pv,rfl,rfl,Nat.zero_le _,hEw1,hB1,by simpa using hOl.ext hE1,by simpa using hOp.ext hE1⟩ ?_
 clear hOl hOp hB1 hBd
 rintro _ sd2 V2 ⟨n,lv,pv,h23,rfl,hn,hE2,hB2,hOl,hOp⟩
 refine W.fix h23 ?_
 clear h23
 have hE2':=hE2.toStep
 have z2:=hE2.size
 have hzb:bd<V2.heap.size:=Bk.lt (h:=hB2)
 by_cases hn1:n<cs[k].2.2.2.length
 rotate_left
 ·obtain rfl:n=cs[k].2.2.2.length:=by omega
  rw [List.take_length,←lnK_succ hk1] at hOl
  rw [←atK_succ hk1] at hOp
  (refine jjB (jjC (jja rfl rfl (by omega) (jz (jjB (jjK rfl ?_)))));refine jjE (jjC (jY rfl rfl (by omega) (jI (eI rfl) (jz ?_)))))
  exact ⟨rfl,by (((iterate 4 refine Same.upd rfl ?_);refine Same.ovN' rfl ?_;assumption)),cs.length-(k+1),by omega,k+1,lv,pv,congrArg (Value.int .i64) (by omega),rfl,by omega,hE2,hB2,hOl,hOp⟩
 have gl:(cs[k].2.2.2.map encLn)[n]?=some (encLn cs[k].2.2.2[n]):=by rw [List.getElem?_map,List.getElem?_eq_getElem hn1];rfl
 have hll:(lnK cs k).length≤k * 1000:=by
  clear hOl hOp
  have:∀ j,j≤cs.length→(lnK cs j).length≤j * 1000:=fun j=>by
   induction j with
   | zero=>intro _;simp [lnK]
   | succ j ih =>
     intro hj
     rw [lnK_succ (by omega),List.length_append]
     have:=(hsm.2 cs[j] (List.getElem_mem (by omega))).1
     have:=ih (by omega)
     omega
  exact this k hk
 have hal:(atK cs k).length=(lnK cs k).length:=by rw [lnK_len hk,atK,List.length_map]
 (refine jjB (jjC (jjZ rfl rfl (by omega) (jz (jjB (jjJ rfl ?_)))));refine jjG (jjB (jjD (jjB (jjC (jI (eI rfl) ?_)))));refine jF rfl rfl rfl (map_get (by omega)) ?_;intro _ _ _;refine jQ rfl rfl (jJ (eI rfl) (jJ (eS rfl) (jz (jjB (jjC ?_)))));refine jI (eP rfl) (jI (eP rfl) (jw rfl (jm (jn rfl (jN rfl rfl rfl ?_)))));refine jI (eS rfl) ?_)
 (refine jjP (v:=.slice _ _ _) rfl (by exact rfl) (by exact rfl) (by exact rfl) (by exact rfl) ?_;intro b34 w_b34 hb_b34 hs_b34 hS_b34 hk_b34;have hR_b34:=RowV.one (agg:=false) (k:=1) rfl hk_b34)
 have hE34:Ext V2 w_b34:=hS_b34.ext
 have hR34:RowV w_b34 false 1 (.slice (some ⟨b34,0,none⟩) 1 1) [encLn cs[k].2.2.2[n]]:=hR_b34
 have z34:=hE34.size
 refine Ops.appendL (hOl.ext hE34) (by omega) hR34 rfl rfl rfl rfl rfl ?_ ?_ ?_
 ·rw [List.length_map,List.length_append,List.length_take];simp only [List.length_cons,List.length_nil];omega
 ·rw [List.length_map,List.length_append,List.length_take];simp only [List.length_cons,List.length_nil];omega
 intro l3 V3 hA3 hO3 _ hown3
 obtain ⟨la3,lc3,rfl⟩:=hO3.slice
 have hbl:∀ g,lv.ownBlock=some g→bd+1≤g:=fun g hg=>(hOl.block g hg).1
 have hbp:∀ g,pv.ownBlock=some g→bd+1≤g:=fun g hg=>(hOp.block g hg).1
 have hnl:lv.ownBlock≠some bd:=fun e=>by have:=hbl bd e;omega
 have hnp:pv.ownBlock≠some bd:=fun e=>by have:=hbp bd e;omega
 have hB3:=hA3.bk (hB2.ext hE34) hnl
 have hE3:Ext w V3:=hA3.ext (hE2.trans hE34) (by omega)
 have hOp3:=(hOp.ext hE34).app hA3 (OwnL.ne (hOp.ext hE34) (hOl.ext hE34) (by decide))
 have hE3':=hE3.toStep
 (refine jw rfl (jm (jn rfl ?_)))
 refine Ops.store rfl rfl rfl rfl rfl ?_
 intro V4 hp4
 have hn3:(Value.slice la3 ((lnK cs k++cs[k].2.2.2.take n).map encLn++[encLn cs[k].2.2.2[n]]).length lc3).ownBlock≠some bd:=fun e=>by have:=(hO3.block bd e).1;omega
 have hB4:Bk V4 bd [.slice a cs.length c,.slice ha hs.length hc,.slice sa ss.length sc,.slice xa xs.length xc,.slice la3 ((lnK cs k++cs[k].2.2.2.take n).map encLn++[encLn cs[k].2.2.2[n]]).length lc3,pv] 85:=⟨hp4.new⟩
 have hO4:=hO3.put hp4 hn3
 have hOp4:=hOp3.put hp4 hnp
 have hE4:Ext w V4:=hp4.ext hE3 hbw
 have hE4':=hE4.toStep
 have z3:=hA3.g.size
 have z4:=hp4.size
 (refine jz (jjC (jI (eP rfl) (jI (eP rfl) (jw rfl (jm ?_)))));refine jn rfl (jN rfl rfl rfl (jI (eI rfl) (jI (eI rfl) ?_))))
 (refine jjS (cells:=[.int .i64 (k:Int),.int .i64 (n:Int),.int .i64 0]) ?_ ?_;exact rfl)
 (refine jjP (v:=.agg _) rfl (by exact rfl) (by exact rfl) (by exact rfl) (by exact rfl) ?_;intro b46 w_b46 hb_b46 hs_b46 hS_b46 hk_b46;have hR_b46:=RowV.one (agg:=true) (k:=3) rfl hk_b46)
 have hE46:Ext V4 w_b46:=hS_b46.ext
 have hR46:RowV w_b46 true 3 (.slice (some ⟨b46,0,none⟩) 1 1) [encPl (plP (k,n))]:=hR_b46
 have z46:=hE46.size
 skip
 refine Ops.appendL (hOp4.ext hE46) (by omega) hR46 rfl rfl rfl rfl rfl ?_ ?_ ?_
 ·rw [List.length_map,List.length_append,List.length_map,List.length_range];simp only [List.length_cons,List.length_nil];omega
 ·rw [List.length_map,List.length_append,List.length_map,List.length_range];simp only [List.length_cons,List.length_nil];omega
 intro p5 V5 hA5' hO5 _ hown5
 obtain ⟨pa5,pc5,rfl⟩:=hO5.slice
 have hB5:=hA5'.bk (hB4.ext hE46) hnp
 have hE5:Ext w V5:=hA5'.ext (hE4.trans hE46) (by omega)
 have hOl5:=(hO4.ext hE46).app hA5' (OwnL.ne (hO4.ext hE46) (hOp4.ext hE46) (by decide))
 have hE5':=hE5.toStep
 (refine jw rfl (jm (jn rfl ?_)))
 refine Ops.store rfl rfl rfl rfl rfl ?_
 intro V6 hp6
 have hn5:(Value.slice pa5 ((atK cs k++(List.range n).map fun j=>plP (k,j)).map encPl++[encPl (plP (k,n))]).length pc5).ownBlock≠some bd:=fun e=>by have:=(hO5.block bd e).1;omega
 have hB6:Bk V6 bd [.slice a cs.length c,.slice ha hs.length hc,.slice sa ss.length sc,.slice xa xs.length xc,.slice la3 ((lnK cs k++cs[k].2.2.2.take n).map encLn++[encLn cs[k].2.2.2[n]]).length lc3,.slice pa5 ((atK cs k++(List.range n).map fun j=>plP (k,j)).map encPl++[encPl (plP (k,n))]).length pc5] 85:=⟨hp6.new⟩
 have e1:(lnK cs k++cs[k].2.2.2.take n).map encLn++[encLn cs[k].2.2.2[n]]=(lnK cs k++cs[k].2.2.2.take (n+1)).map encLn:=by
  rw [take_snoc_get (List.getElem?_eq_getElem hn1)];exact map_snoc2 encLn _ _ _
 have e2:((atK cs k++(List.range n).map fun j=>plP (k,j)).map encPl)++[encPl (plP (k,n))]=(atK cs k++(List.range (n+1)).map fun j=>plP (k,j)).map encPl:=by
  rw [map_snoc2 encPl (atK cs k) ((List.range n).map fun j=>plP (k,j)) (plP (k,n)),List.range_succ,List.map_append (l₁:=List.range n)];rfl
 (refine jz (jjC (jY rfl rfl (by omega) (jI (eI rfl) (jz ?_)))))
 refine ⟨rfl,by (((iterate 31 refine Same.upd rfl ?_);exact Same.ovN)),cs[k].2.2.2.length-(n+1),by omega,n+1,_,_,congrArg (Value.int .i64) (by omega),rfl,by omega,hp6.ext hE5 hbw,hB6,?_,?_⟩
 ·rw [←e1];exact hOl5.put hp6 hn3
 ·rw [←e2];exact hO5.put hp6 hn5
end


structure Pre3 {α:Type} (f:α→α→Int):Prop where
 r:∀ a b,f a b=-1∨f a b=0∨f a b=1
 anti:∀ a b,f a b=- f b a
 tr:∀ a b c,f a b=-1→f b c=-1→f a c=-1
 eql:∀ a b c,f a b=0→f a c=f b c
section
variable {α:Type} {f:α→α→Int} (hf:Pre3 f)
include hf
end
section
variable {α:Type} {f:α→α→Int} (hf:Pre3 f)
include hf
end
section
variable {α:Type} {f:α→α→Int} (hf:Pre3 f)
include hf
end
end Go.Proofs.YtbafmbpmiiplkaaGreatDoor

namespace Go.Proofs.YtbafmbpmiiplkaaGreatDoor
open Go.Shelf Go.RowKit Go.Lib Go.Sort
end Go.Proofs.YtbafmbpmiiplkaaGreatDoor
namespace Go.Proofs.YtbafmbpmiiplkaaGreatDoor
open Go.RowKit
section rules
variable {P:Program} {ro:Option Nat} {n:Nat} {all rest:List Oper} {K:Sl→World→Prop} {s:Sl} {w:World} {d:Nat} {ty:Nat} {pos:String} {af:Array Edge}
variable {x:Operand} {t:Nat}
theorem Ops.loadOA {b o off:Nat} {cs cs':List Value} {dd:TypeDesc} {z:Value} {size bytes:Nat} (hc:At w b o cs) (hx:ev n s x=.pointer (some ⟨b,o+off,none⟩)) [ht:TU P t dd] (hs:TypeDesc.isAgg dd=true) [hz:TS P t z size bytes]
  (hl:(cs.drop off).take size=cs') (hn:cs'.length=size) (h:Ops P ro n all rest K (upd s d (.agg cs'.toArray)) w):Ops P ro n all (⟨some d,.load t x,ty,pos,af,none⟩::rest) K s w :=
 Ops.loadA (cs:=cs') ⟨fun i v hv=>by
  refine (hc.drop off).h i v ?_
  rw [←hl,List.getElem?_take] at hv
  split at hv
  ·exact hv
  ·cases hv⟩ hx hs hn h
end rules
end Go.Proofs.YtbafmbpmiiplkaaGreatDoor

namespace Go.Proofs.YtbafmbpmiiplkaaGreatDoor
open Go.RowKit Go.Sort

theorem place_k {w:World} {agg:Bool} {k l c j b o:Nat} {xs:List Value} {x:Value} (h:RowV w agg k (.slice (some ⟨b,o,none⟩) l c) xs) (hj:xs[j]?=some x):At w b (o+j * k) x.cells.toList:=by
 obtain ⟨b',o',e,hA⟩:=h.place' hj
 cases e
 exact hA
end Go.Proofs.YtbafmbpmiiplkaaGreatDoor
namespace Go.Proofs.YtbafmbpmiiplkaaGreatDoor
open Go.RowKit

theorem join_w {P:Program} {ro:Option Nat} {n:Nat} {X:Ctx} {ds:List Deferred} {c:Code} {G:Prop} {α:Type} (D:List Nat) (sO:Sl) (L:α→List (Nat×Value)) (I:α→World→Prop) (h1:(∀ x s w',I x w'→Same D sO s→AllEq s (L x)→W P ro n c X s ds w')→G) (h2:∀ x s0 w',I x w'→Same D sO (upds s0 (L x))→W P ro n c X (upds s0 (L x)) ds w'):G :=
 h1 fun x s w' hI hD hA=>by have:=h2 x s w' hI (by rw [upds_id hA];exact hD);rwa [upds_id hA] at this
section rules
variable {P:Program} {ro:Option Nat} {n:Nat} {all rest:List Oper} {K:Sl→World→Prop} {s:Sl} {w:World} {d t t':Nat} {ty:Nat} {pos:String} {af:Array Edge} {x y:Operand}
theorem Ops.eqlSV {a b:ByteArray} {v:Bool} (hv:decide (a=b)=v) (hx:ev n s x=.string a) (hy:ev n s y=.string b) (h:Ops P ro n all rest K (upd s d (.bool v)) w) :
  Ops P ro n all (⟨some d,.binOp .eql t x y t',ty,pos,af,none⟩::rest) K s w:=by
 subst hv
 exact Ops.eqlS hx hy h
end rules

structure PartsOk (nl:Nat) (ss:List Shr) (xs:List Sht):Prop where
 few:nl≤1000000
 at_:∀ i (h:i<ss.length),0≤ss[i].1∧ss[i].1≤ss[i].2.1∧ss[i].2.1<(nl:Int)
 len:xs.length=ss.length
 sh:∀ x∈xs,x.2.2.2.length≤1000000
def sizeF (s:Shr):Int:=s.2.1-s.1+1
def tornB (s:Shr) (x:Sht):Bool:=x.1 && decide (¬ (x.2.2.2.length:Int)=sizeF s)
section
variable (bd:Nat) (v0 v1 v4 v5:Value) (sa:Option Addr) (sc:Nat) (ss:List Shr) (xa:Option Addr) (xc:Nat) (xs:List Sht) (w:World)
 [hd:At w bd 0 [v0,v1,.slice sa ss.length sc,.slice xa xs.length xc,v4,v5]] [hss:RowI w (.slice sa ss.length sc) true 4 (ss.map encShr)]
include hd hss in
set_option maxHeartbeats 4000000 in
theorem size_hand {nl:Nat} (hp:PartsOk nl ss xs) (i:Nat) (hi:i<ss.length):Ct Tryz.prog 82 [.pointer (some ⟨bd,0,none⟩),.int .i64 (i:Int)] w fun v _=>v=.int .i64 (sizeF ss[i]):=by
 have h1:=hp.at_ i hi
 have h2:=hp.few
 have gs:(ss.map encShr)[i]?=some (encShr ss[i]):=by rw [List.getElem?_map,List.getElem?_eq_getElem hi];rfl
 obtain ⟨pb,po,rfl,-⟩:=hss.h.place' gs
 have A1:∀ V,Ext w V→At V pb (po+i * 4) [.int .i64 ss[i].1,.int .i64 ss[i].2.1,.int .i64 ss[i].2.2.1,.int .i64 ss[i].2.2.2]:=fun V hE=>place_k (hss.h.ext hE) gs
 refine Ct.ofW (by simp) ?_
 (refine jjB (jjC (jJ (eI rfl) (jz (jjB ?_)))))
 refine W.draw (fun w'=>Ext w w') ?_
 intro w1 hS1
 refine jjV [0,1,2,3,4,5] (by decide +kernel) hS1.ext ?_
 (((refine jjT rfl (fun _ _=>jI (eP rfl) (jz ⟨rfl,rfl⟩)) ?_;apply jjT;exact rfl;rintro w' hq;have:=hq.toStep;refine jw rfl (jz ?_);exact ⟨rfl,rfl⟩;apply jjT;exact rfl;rintro w' hq;have:=hq.toStep;refine jm (jn rfl (jz ?_));exact ⟨rfl,rfl⟩;apply jjT;exact rfl;rintro w' hq;have:=hq.toStep;refine jm (jn rfl (jz ?_));exact ⟨rfl,rfl⟩;apply jjT;exact rfl;rintro w' hq;have:=hq.toStep;refine jN rfl rfl rfl (jz ?_);exact ⟨rfl,rfl⟩;refine jjT rfl (fun _ _=>jI (eI rfl) (jz ⟨rfl,rfl⟩)) (jjU ?_))))
 refine jjV [6] (by decide +kernel) hS1.ext (jjT (v:=.pointer (some ⟨pb,po+i * 4,none⟩)) rfl (fun w' q1=>?_) (jjU ?_));(refine jH i rfl rfl rfl (by omega) ?_;refine jz ?_;exact ⟨rfl,rfl⟩)
 refine jjV [7] (by decide +kernel) hS1.ext ?_
 (((apply jjT;exact rfl;rintro w' hq;have:=hq.toStep;refine jm (jn rfl (jz ?_));exact ⟨rfl,rfl⟩;refine jjU ?_)))
 refine jjV [8] (by decide +kernel) hS1.ext (jjT (v:=.int .i64 ss[i].2.1) rfl (fun w' q1=>?_) (jjU ?_));(refine jR ((A1 _ q1).get (i:=1) rfl) rfl rfl ?_;refine jz ?_;exact ⟨rfl,rfl⟩)
 refine jjV [9,10,11,12,13,14] (by decide +kernel) hS1.ext ?_
 (((refine jjT rfl (fun _ _=>jI (eP rfl) (jz ⟨rfl,rfl⟩)) ?_;apply jjT;exact rfl;rintro w' hq;have:=hq.toStep;refine jw rfl (jz ?_);exact ⟨rfl,rfl⟩;apply jjT;exact rfl;rintro w' hq;have:=hq.toStep;refine jm (jn rfl (jz ?_));exact ⟨rfl,rfl⟩;apply jjT;exact rfl;rintro w' hq;have:=hq.toStep;refine jm (jn rfl (jz ?_));exact ⟨rfl,rfl⟩;apply jjT;exact rfl;rintro w' hq;have:=hq.toStep;refine jN rfl rfl rfl (jz ?_);exact ⟨rfl,rfl⟩;refine jjT rfl (fun _ _=>jI (eI rfl) (jz ⟨rfl,rfl⟩)) (jjU ?_))))
 refine jjV [15] (by decide +kernel) hS1.ext (jjT (v:=.pointer (some ⟨pb,po+i * 4,none⟩)) rfl (fun w' q1=>?_) (jjU ?_));(refine jH i rfl rfl rfl (by omega) ?_;refine jz ?_;exact ⟨rfl,rfl⟩)
 refine jjV [16] (by decide +kernel) hS1.ext ?_
 (((apply jjT;exact rfl;rintro w' hq;have:=hq.toStep;refine jm (jn rfl (jz ?_));exact ⟨rfl,rfl⟩;refine jjU ?_)))
 refine jjV [17] (by decide +kernel) hS1.ext (jjT (v:=.int .i64 ss[i].1) rfl (fun w' q1=>?_) (jjU ?_));(refine jR ((A1 _ q1).get (i:=0) rfl) rfl rfl ?_;refine jz ?_;exact ⟨rfl,rfl⟩)
 refine jjV [18,19,20] (by decide +kernel) hS1.ext ?_
 (((refine jjT rfl (fun _ _=>jZ rfl rfl (by omega) (jz ⟨rfl,rfl⟩)) (jjT rfl (fun _ _=>jY rfl rfl (by omega) (jz ⟨rfl,rfl⟩)) (jjT rfl (fun _ _=>jJ (eI rfl) (jz ⟨rfl,rfl⟩)) (jjU ?_))))))
 refine jjX (by decide +kernel) hS1.ext ?_
 (refine jjF ?_;refine jB rfl rfl ⟨inferInstance,?_⟩)
 exact rfl
variable [hxs:RowI w (.slice xa xs.length xc) true 2 (xs.map encSht)]
include hd hss hxs in
set_option maxHeartbeats 4000000 in
theorem torn_hand {nl:Nat} (hp:PartsOk nl ss xs) (i:Nat) (hi:i<ss.length) (hx:i<xs.length):Ct Tryz.prog 103 [.pointer (some ⟨bd,0,none⟩),.int .i64 (i:Int)] w fun v _=>v=.bool (tornB ss[i] xs[i]):=by
 have h3:=hp.sh xs[i] (List.getElem_mem hx)
 have gs:(xs.map encSht)[i]?=some (encSht xs[i]):=by rw [List.getElem?_map,List.getElem?_eq_getElem hx];rfl
 obtain ⟨pb,po,rfl,-⟩:=hxs.h.place' gs
 obtain ⟨B,hB⟩:∃ B,xs[i].1=B:=⟨_,rfl⟩
 have A1:∀ V,Ext w V→At V pb (po+i * 2) [.bool B,.slice xs[i].2.1 xs[i].2.2.2.length xs[i].2.2.1]:=fun V hE=>by
  have:=place_k (hxs.h.ext hE) gs
  rw [←hB];exact this
 rw [tornB,hB]
 refine Ct.ofW (by simp) ?_
 (refine jjB (jjC (jJ (eB rfl) (jz (jjB ?_)))))
 refine W.draw (fun w'=>Ext w w') ?_
 intro w1 hS1
 refine jjV [0,1,2,3,4,5] (by decide +kernel) hS1.ext ?_
 (((refine jjT rfl (fun _ _=>jI (eP rfl) (jz ⟨rfl,rfl⟩)) ?_;apply jjT;exact rfl;rintro w' hq;have:=hq.toStep;refine jw rfl (jz ?_);exact ⟨rfl,rfl⟩;apply jjT;exact rfl;rintro w' hq;have:=hq.toStep;refine jm (jn rfl (jz ?_));exact ⟨rfl,rfl⟩;apply jjT;exact rfl;rintro w' hq;have:=hq.toStep;refine jm (jn rfl (jz ?_));exact ⟨rfl,rfl⟩;apply jjT;exact rfl;rintro w' hq;have:=hq.toStep;refine jN rfl rfl rfl (jz ?_);exact ⟨rfl,rfl⟩;refine jjT rfl (fun _ _=>jI (eI rfl) (jz ⟨rfl,rfl⟩)) (jjU ?_))))
 refine jjV [6] (by decide +kernel) hS1.ext (jjT (v:=.pointer (some ⟨pb,po+i * 2,none⟩)) rfl (fun w' q1=>?_) (jjU ?_));(refine jH i rfl rfl rfl (by omega) ?_;refine jz ?_;exact ⟨rfl,rfl⟩)
 refine jjV [7] (by decide +kernel) hS1.ext ?_
 (((apply jjT;exact rfl;rintro w' hq;have:=hq.toStep;refine jm (jn rfl (jz ?_));exact ⟨rfl,rfl⟩;refine jjU ?_)))
 refine jjV [8] (by decide +kernel) hS1.ext (jjT (v:=.bool B) rfl (fun w' q1=>?_) (jjU ?_));(refine jR ((A1 _ q1).get (i:=0) rfl) rfl rfl ?_;refine jz ?_;exact ⟨rfl,rfl⟩)
 cases B with
 | false =>
   refine jjV [9,10,11,12,13,14,15,16,17,18,19,20,21,22,23,24,25] (by decide +kernel) hS1.ext ?_
   (((refine jjT rfl (fun _ _=>jI (eB rfl) (jz ⟨rfl,rfl⟩)) (jjT rfl (fun _ _=>jU rfl rfl rfl rfl (jz ⟨rfl,rfl⟩)) (jjT rfl (fun _ _=>jU rfl rfl rfl rfl (jz ⟨rfl,rfl⟩)) (jjT rfl (fun _ _=>jU rfl rfl rfl rfl (jz ⟨rfl,rfl⟩)) (jjT rfl (fun _ _=>jU rfl rfl rfl rfl (jz ⟨rfl,rfl⟩)) (jjT rfl (fun _ _=>jU rfl rfl rfl rfl (jz ⟨rfl,rfl⟩)) ?_)))));refine jjT rfl (fun _ _=>jU rfl rfl rfl rfl (jz ⟨rfl,rfl⟩)) (jjT rfl (fun _ _=>jU rfl rfl rfl rfl (jz ⟨rfl,rfl⟩)) (jjT rfl (fun _ _=>jU rfl rfl rfl rfl (jz ⟨rfl,rfl⟩)) (jjT rfl (fun _ _=>jU rfl rfl rfl rfl (jz ⟨rfl,rfl⟩)) (jjT rfl (fun _ _=>jU rfl rfl rfl rfl (jz ⟨rfl,rfl⟩)) (jjT rfl (fun _ _=>jU rfl rfl rfl rfl (jz ⟨rfl,rfl⟩)) ?_)))));refine jjT rfl (fun _ _=>jU rfl rfl rfl rfl (jz ⟨rfl,rfl⟩)) (jjT rfl (fun _ _=>jU rfl rfl rfl rfl (jz ⟨rfl,rfl⟩)) (jjT rfl (fun _ _=>jU rfl rfl rfl rfl (jz ⟨rfl,rfl⟩)) (jjT rfl (fun _ _=>jL rfl (eB rfl) (jz ⟨rfl,rfl⟩)) (jjT rfl (fun _ _=>jJ (eB rfl) (jz ⟨rfl,rfl⟩)) (jjU ?_))))))))
   refine jjX (by decide +kernel) hS1.ext ?_
   (refine jjF ?_;refine jB rfl rfl ⟨inferInstance,?_⟩)
   exact rfl
 | true =>
   refine jjV [9,10,11,12,13,14,15] (by decide +kernel) hS1.ext ?_
   (((refine jjT rfl (fun _ _=>jI (eB rfl) (jz ⟨rfl,rfl⟩)) (jjT rfl (fun _ _=>jT rfl rfl rfl (jI (eP rfl) (jz ⟨rfl,rfl⟩))) ?_);apply jjT;exact rfl;rintro w' hq;have:=hq.toStep;refine jT rfl rfl rfl (jw rfl (jz ?_));exact ⟨rfl,rfl⟩;apply jjT;exact rfl;rintro w' hq;have:=hq.toStep;refine jT rfl rfl rfl (jm (jn rfl (jz ?_)));exact ⟨rfl,rfl⟩;apply jjT;exact rfl;rintro w' hq;have:=hq.toStep;refine jT rfl rfl rfl (jm (jn rfl (jz ?_)));exact ⟨rfl,rfl⟩;apply jjT;exact rfl;rintro w' hq;have:=hq.toStep;refine jT rfl rfl rfl (jN rfl rfl rfl (jz ?_));exact ⟨rfl,rfl⟩;refine jjT rfl (fun _ _=>jT rfl rfl rfl (jI (eI rfl) (jz ⟨rfl,rfl⟩))) (jjU ?_))))
   refine jjV [16] (by decide +kernel) hS1.ext (jjT (v:=.pointer (some ⟨pb,po+i * 2,none⟩)) rfl (fun w' q1=>?_) (jjU ?_));(refine jT rfl rfl rfl ?_;refine jH i rfl rfl rfl (by omega) ?_;refine jz ?_;exact ⟨rfl,rfl⟩)
   refine jjV [17] (by decide +kernel) hS1.ext ?_
   (((apply jjT;exact rfl;rintro w' hq;have:=hq.toStep;refine jT rfl rfl rfl (jm (jn rfl (jz ?_)));exact ⟨rfl,rfl⟩;refine jjU ?_)))
   refine jjV [18] (by decide +kernel) hS1.ext (jjT (v:=.slice xs[i].2.1 xs[i].2.2.2.length xs[i].2.2.1) rfl (fun w' q1=>?_) (jjU ?_));(refine jT rfl rfl rfl ?_;refine jR ((A1 _ q1).get (i:=1) rfl) rfl rfl ?_;refine jz ?_;exact ⟨rfl,rfl⟩)
   refine jjV [19,20,21] (by decide +kernel) hS1.ext ?_
   (((refine jjT rfl (fun _ _=>jT rfl rfl rfl (jh rfl (jz ⟨rfl,rfl⟩))) (jjT rfl (fun _ _=>jT rfl rfl rfl (jI (eP rfl) (jz ⟨rfl,rfl⟩))) (jjT rfl (fun _ _=>jT rfl rfl rfl (jI (eI rfl) (jz ⟨rfl,rfl⟩))) (jjU ?_))))))
   (apply jjW 22;(decide +kernel);exact rfl;(exact hS1.ext))
   refine jT rfl rfl rfl ?_
   refine jjQ (size_hand bd v0 v1 v4 v5 sa sc ss (some ⟨pb,po,none⟩) xc xs _ hp i hi) rfl rfl ?_
   rintro _ w2 hS2 rfl
   refine jz ?_
   have hE2:Ext w w2:=hS1.ext.trans hS2.ext
   refine jjV [23] (by decide +kernel) hE2 (jjT (v:=.bool (decide (¬ (xs[i].2.2.2.length:Int)=sizeF ss[i]))) rfl (fun w' q1=>?_) (jjU ?_));(refine jT rfl rfl rfl (jc rfl rfl (jz ?_));exact ⟨rfl,rfl⟩)
   refine jjV [24,25] (by decide +kernel) hE2 ?_
   (((refine jjT rfl (fun _ _=>jK rfl (eB rfl) (jz ⟨rfl,rfl⟩)) (jjT rfl (fun _ _=>jJ (eB rfl) (jz ⟨rfl,rfl⟩)) (jjU ?_)))))
   refine jjX (by decide +kernel) hE2 ?_
   (refine jjF ?_;refine jB rfl rfl ⟨inferInstance,?_⟩)
   exact congrArg Value.bool (by simp)
end

structure RoundOk (nl:Nat) (hs:List Hp) (ss:List Shr) (xs:List Sht):Prop where
 few:nl≤1000000
 h1:1≤hs.length∧hs.length≤4
 s1:ss.length≤8
 x1:xs.length=ss.length
 hp:∀ i (h:i<hs.length),0≤hs[i].1∧hs[i].1≤9999∧0≤hs[i].2.1∧hs[i].2.1≤30∧1≤hs[i].2.2∧hs[i].2.2≤20
 hd:∀ i (h:i<hs.length) k (hk:k<i),(hs[k]'(by omega)).1≠hs[i].1
 sp:∀ i (h:i<ss.length),0≤ss[i].1∧ss[i].1≤ss[i].2.1∧ss[i].2.1<(nl:Int)∧0≤ss[i].2.2.1∧ss[i].2.2.1<(hs.length:Int)∧0≤ss[i].2.2.2∧ss[i].2.2.2≤400
 so:∀ i (h:i<ss.length) (_:0<i),(ss[i-1]'(by omega)).1<ss[i].1∧(ss[i-1]'(by omega)).2.1<ss[i].2.1
 so2:∀ i (h:i<ss.length) (_:1<i),(ss[i-2]'(by omega)).2.1<ss[i].1
 sh:∀ i (h:i<xs.length),xs[i].2.2.2.length≤30∧(xs[i].1=true∨xs[i].2.2.2.length=0)∧∀ n (hn:n<xs[i].2.2.2.length),lineB xs[i].2.2.2[n].2.2=true
theorem RoundOk.parts {nl:Nat} {hs:List Hp} {ss:List Shr} {xs:List Sht} (h:RoundOk nl hs ss xs):PartsOk nl ss xs :=
 ⟨h.few,fun i hi=>⟨(h.sp i hi).1,(h.sp i hi).2.1,(h.sp i hi).2.2.1⟩,h.x1,fun x hx=>by
  obtain ⟨i,hi,rfl⟩:=List.mem_iff_getElem.1 hx
  have:=(h.sh i hi).1
  omega⟩

def isTorn (ss:List Shr) (xs:List Sht) (i:Nat):Bool:=tornB (ss.getD i noP) (xs.getD i (false,none,0,[]))
def tornL (ss:List Shr) (xs:List Sht) (n:Nat):List Nat:=(List.range n).filter (isTorn ss xs)
abbrev natV (n:Nat):Value:=.int .i64 (n:Int)
theorem tornL_succ (ss:List Shr) (xs:List Sht) (n:Nat):tornL ss xs (n+1)=tornL ss xs n++if isTorn ss xs n then [n] else []:=by
 rw [tornL,List.range_succ,List.filter_append,←tornL]
 congr 1
 by_cases h:isTorn ss xs n=true
 ·rw [if_pos h,List.filter_cons_of_pos h];rfl
 ·rw [if_neg h,List.filter_cons_of_neg h];rfl
theorem tornL_len (ss:List Shr) (xs:List Sht) (n:Nat):(tornL ss xs n).length≤n:=by
 have:=List.length_filter_le (isTorn ss xs) (List.range n)
 rwa [List.length_range] at this
section
variable (bd:Nat) (v0 v1 v4 v5:Value) (sa:Option Addr) (sc:Nat) (ss:List Shr) (xa:Option Addr) (xc:Nat) (xs:List Sht) (w:World)
 [hd:At w bd 0 [v0,v1,.slice sa ss.length sc,.slice xa xs.length xc,v4,v5]] [hss:RowI w (.slice sa ss.length sc) true 4 (ss.map encShr)] [hxs:RowI w (.slice xa xs.length xc) true 2 (xs.map encSht)]
include hd hss hxs
set_option maxHeartbeats 4000000 in
theorem allTorn_hand {nl:Nat} (hp:PartsOk nl ss xs) (hl:ss.length≤1000):Ct Tryz.prog 63 [.pointer (some ⟨bd,0,none⟩)] w fun v w'=>∃ a c,v=.slice a (tornL ss xs ss.length).length c∧OwnL w' w.heap.size 3 false 1 (.slice a (tornL ss xs ss.length).length c) ((tornL ss xs ss.length).map natV):=by
 refine Ct.ofW (by simp) ?_
 (refine jjB (jjC (jJ (eS rfl) (jz (jjB (jjC ?_)))));refine jJ (eS rfl) (jz (jjB (jjB (jjC (jI (eP rfl) ?_)))));refine jw rfl (jm (jn rfl (jm (jn rfl (jN rfl rfl rfl ?_)))));refine jh rfl (jI (eI rfl) (jz (jjD ?_))))
 refine W.keep0 [(0,.pointer (some ⟨bd,0,none⟩)),(3,.slice none 0 0),(10,.int .i64 (ss.length:Int)),(11,.int .i64 ((0:Nat):Int))] ⟨eP rfl,eS rfl,eI rfl,eI rfl,trivial⟩ fun s0=>?_
 refine W.loopG (12::13::4::14::15::16::17::18::19::20::3::21::11::[]) (fun g s' V=>∃ (k:Nat) (lv:Value),s' 11=.int .i64 (k:Int)∧s' 3=lv∧g=ss.length-k∧k≤ss.length∧Ext w V∧OwnL V w.heap.size 3 false 1 lv ((tornL ss xs k).map natV)) ss.length ⟨0,_,rfl,rfl,rfl,Nat.zero_le _,.refl _,OwnL.nil _ _ _ _ _⟩ ?_
 rintro _ sd V ⟨k,lv,h11,h3,rfl,hk,hEV,hO⟩
 obtain ⟨la,lc,rfl⟩:=hO.slice
 rw [List.length_map] at hO h3
 refine W.fix h11 (W.fix (d:=3) h3 ?_)
 clear h11 h3
 have hEV':=hEV.toStep
 have hll:=tornL_len ss xs k
 by_cases hk1:k<ss.length
 rotate_left
 ·obtain rfl:k=ss.length:=by omega
  (refine jjB (jjC (jja rfl rfl (by omega) (jz (jjB (jjK rfl ?_)))));refine jjE (jjB (jjC (jI (eS rfl) (jJ (eS rfl) (jz ?_)))));refine jjF ?_;refine jB rfl rfl ⟨inferInstance,?_⟩)
  exact ⟨la,lc,rfl,hO⟩
 have hx1:k<xs.length:=by rw [hp.len];exact hk1
 obtain ⟨B,hB⟩:∃ B,isTorn ss xs k=B:=⟨_,rfl⟩
 have hB':tornB ss[k] xs[k]=B:=by
  rw [←hB,isTorn,List.getD_eq_getElem?_getD,List.getD_eq_getElem?_getD,List.getElem?_eq_getElem hk1,List.getElem?_eq_getElem hx1];rfl
 have hst:=tornL_succ ss xs k
 rw [hB] at hst
 (refine jjB (jjC (jjZ rfl rfl (by omega) (jz (jjB (jjJ rfl ?_)))));refine jjG (jjB (jjD (jjB (jjC (jI (eI rfl) ?_)))));refine jJ (eI rfl) (jz (jjB (jjC (jI (eP rfl) (jI (eI rfl) ?_))))))
 refine jjQ ((torn_hand bd v0 v1 v4 v5 sa sc ss xa xc xs _ hp k hk1 hx1).mono fun v _ _ h=>h.trans (by rw [hB'])) rfl rfl ?_
 rintro _ w2 hS2 rfl
 cases B with
 | false =>
   rw [if_neg (by decide),List.append_nil] at hst
   (refine jz (jjK rfl (jjG (jjC (jY rfl rfl (by omega) (jI (eI rfl) ?_)))));refine jz ?_)
   exact ⟨rfl,by (((iterate 10 refine Same.upd rfl ?_);exact Same.ovN)),ss.length-(k+1),by omega,k+1,_,congrArg (Value.int .i64) (by omega),rfl,rfl,by omega,hEV.trans hS2.ext,by rw [hst];exact hO.ext hS2.ext⟩
 | true =>
   rw [if_pos rfl] at hst
   (refine jz (jjJ rfl (jjC (jI (eS rfl) (jI (eI rfl) ?_)))))
   (refine jjP (v:=.int _ _) rfl (by exact rfl) (by exact rfl) (by exact rfl) (by exact rfl) ?_;intro b19 w_b19 hb_b19 hs_b19 hS_b19 hk_b19;have hR_b19:=RowV.one (agg:=false) (k:=1) rfl hk_b19)
   have hE19:Ext V w_b19:=hS2.ext.trans hS_b19.ext
   refine Ops.appendL (hO.ext hE19) (by have:=hE19.size;have:=hEV.size;omega) hR_b19 rfl rfl rfl rfl rfl ?_ ?_ ?_
   ·rw [List.length_map];simp only [List.length_cons,List.length_nil];omega
   ·rw [List.length_map];simp only [List.length_cons,List.length_nil];omega
   intro v6 w6 hA6 hO6 _ _
   (refine jJ rfl (jz (jjC (jY rfl rfl (by omega) (jI (eI rfl) (jz ?_))))))
   refine ⟨rfl,by (((iterate 15 refine Same.upd rfl ?_);exact Same.ovN)),ss.length-(k+1),by omega,k+1,v6,congrArg (Value.int .i64) (by omega),rfl,rfl,by omega,hA6.ext (hEV.trans hE19) (Nat.le_refl _),?_⟩
   rw [hst,List.map_append]
   exact hO6
end


section rules
variable {P:Program} {ro:Option Nat} {n:Nat} {all rest:List Oper} {K:Sl→World→Prop} {s:Sl} {w:World} {d:Nat} {ty:Nat} {pos:String} {af:Array Edge} {x y:Operand} {t t':Nat} {a b:Int}
theorem Ops.quo (hx:ev n s x=.int .i64 a) (hy:ev n s y=.int .i64 b) (h0:0≤a) (h0':a≤9223372036854775807) (h1:0<b) (h:Ops P ro n all rest K (upd s d (.int .i64 (a / b))) w) :
  Ops P ro n all (⟨some d,.binOp .quo t x y t',ty,pos,af,none⟩::rest) K s w :=
 Ops.ofRun rfl (by
  have e1:Int.tdiv a b=a / b:=Int.tdiv_eq_ediv_of_nonneg h0
  have e2:IntKind.i64.wrap (a / b)=a / b:=by
   have:=Int.ediv_nonneg h0 (Int.le_of_lt h1)
   have:=Int.ediv_le_self b h0
   rw [IntKind.wrap_i64];omega
  have e3:¬ b=0:=by omega
  simp [execOp,hx,hy,go_sem,Op.intDiv,e1,e2,e3]) h
theorem Ops.neqTN {α:Type} [DecidableEq α] {enc:α→Value} (u:α) [he:EqT P t enc] (hx:ev n s x=enc u) (hy:ev n s y=enc u) (h:Ops P ro n all rest K (upd s d (.bool false)) w) :
  Ops P ro n all (⟨some d,.binOp .neq t x y t',ty,pos,af,none⟩::rest) K s w :=
 Ops.neqT u u hx hy (by rw [decide_eq_false (by simp)];exact h)
end rules

theorem eqT_arr2 {P:Program} {t e bytes:Nat} {z:Value} (hu:P.underlying t=some (.array 2 e)) (u0:TU P e (.int .i64)) (hz:TS P e z 1 bytes) (hg:P.eqGuardType P.depth t=false):EqT P t encII where
 eq w a b:=by
  obtain ⟨i,hi,_,hs,_⟩:=hz.info
  have hc:P.cellsOf e=1:=by simp [Program.cellsOf,hi,hs]
  simp only [encII,Op.equal,Op.maxDepth]
  rw [run_equalIn_array w 9999 _ _ hu hi,hc]
  have e0:(Op.equalIn 9999 e (.int .i64 a.1) (.int .i64 b.1)).run P w=.ok (a.1 == b.1) w:=run_equalIn_int (P:=P) w 9998 e .i64 .i64 a.1 b.1 u0.h
  have e1:(Op.equalIn 9999 e (.int .i64 a.2) (.int .i64 b.2)).run P w=.ok (a.2 == b.2) w:=run_equalIn_int (P:=P) w 9998 e .i64 .i64 a.2 b.2 u0.h
  obtain ⟨a1,a2⟩:=a
  obtain ⟨b1,b2⟩:=b
  simp only at e0 e1
  have p0:∀ c1 c2:Int,(part e #[Value.int .i64 c1,Value.int .i64 c2] 0).run P w=.ok (.int .i64 c1) w:=fun c1 c2=>by simp [part,run_isAgg w u0,TypeDesc.isAgg]
  have p1:∀ c1 c2:Int,(part e #[Value.int .i64 c1,Value.int .i64 c2] 1).run P w=.ok (.int .i64 c2) w:=fun c1 c2=>by simp [part,run_isAgg w u0,TypeDesc.isAgg]
  have hr:List.range 2=[0,1]:=by decide
  rw [hr]
  simp only [Op.eqItems,Nat.zero_mul,Nat.one_mul,Sem.run_bind,p0,Result.andThen_ok,e0]
  by_cases c0:a1=b1
  ·subst c0
   by_cases c1:a2=b2
   ·subst c1;simp [p1,e1]
   ·have c1':(a2 == b2)=false:=by simpa using c1
    simp [c1,p1,e1,c1']
  ·simp [c0]
 guard op x y w a b:=by
  cases op<;>simp [encII,eqGuard,hg]
 kind a b:=⟨fun w=>by simp [encII,binOp],fun w=>by simp [encII,binOp]⟩

set_option maxHeartbeats 2000000 in
theorem EqualFunc_lines (a1 a2:Option Addr) (c1 c2:Nat) (xs ys:List Ln) (w:World) (hx:RowV w false 1 (.slice a1 xs.length c1) (xs.map encLn)) (hxw:∀ y∈xs,RowV w false 1 (encLn y) (y.2.2.map strV))
  (hy:RowV w false 1 (.slice a2 ys.length c2) (ys.map encLn)) (hyw:∀ y∈ys,RowV w false 1 (encLn y) (y.2.2.map strV)) :
  Ct Tryz.prog 105 [.slice a1 xs.length c1,.slice a2 ys.length c2,.func (.func 106) #[] #[]] w fun v _=>∃ B,v=.bool B:=by
 have hlx:=hx.len
 have hly:=hy.len
 rw [List.length_map] at hlx hly
 refine Ct.ofW (by simp) ?_
 by_cases hl:xs.length=ys.length
 rotate_left
 ·(refine jjB (jjC (jJ (eB rfl) (jz (jjB (jjB ?_)))));refine jjC (jI (eS rfl) (jh rfl (jI (eS rfl) (jh rfl (jjj rfl rfl (by omega) ?_)))));refine jz (jjJ rfl (jjB (jjC (jJ (eB rfl) (jz ?_)))));refine jjF ?_;refine jB rfl rfl ⟨inferInstance,?_⟩)
  exact ⟨_,rfl⟩
 (refine jjB (jjC (jJ (eB rfl) (jz (jjB (jjB ?_)))));refine jjC (jI (eS rfl) (jh rfl (jI (eS rfl) (jh rfl (jjk rfl rfl (by omega) ?_)))));refine jz (jjK rfl (jjG (jjB (jjB (jjC ?_)))));refine jI (eS rfl) (jh rfl (jI (eI rfl) (jz (jjD ?_)))))
 refine W.keep0 [(0,.slice a1 xs.length c1),(1,.slice a2 ys.length c2),(2,.func (.func 106) #[] #[]),(15,.slice a1 xs.length c1),(16,.int .i64 (xs.length:Int)),(17,.int .i64 ((0:Nat):Int))] ⟨eS rfl,eS rfl,eF rfl,eS rfl,eI rfl,eI rfl,trivial⟩ fun s0=>?_
 refine W.loop (18::19::20::21::7::8::22::23::24::25::9::26::27::28::29::30::6::31::17::[]) (fun g s' V=>∃ k:Nat,s' 17=.int .i64 ((k:Nat):Int)∧g=xs.length-k∧k≤xs.length) xs.length ⟨0,rfl,rfl,Nat.zero_le _⟩ ?_
 rintro _ sd w1 hS1 ⟨k,h17,rfl,hk⟩
 refine W.fix h17 ?_
 clear h17
 by_cases hk1:k<xs.length
 rotate_left
 ·(refine jjB (jjC (jja rfl rfl (by omega) (jz (jjB (jjK rfl ?_)))));refine jjE (jjB (jjC (jJ (eB rfl) (jz (jjF ?_)))));refine jB rfl rfl ⟨inferInstance,?_⟩)
  exact ⟨_,rfl⟩
 have hk2:k<ys.length:=by omega
 have ix:RowI w1 (.slice a1 xs.length c1) false 1 (xs.map encLn):=⟨hx.ext hS1.ext⟩
 have iy:RowI w1 (.slice a2 ys.length c2) false 1 (ys.map encLn):=⟨hy.ext hS1.ext⟩
 have rx:=(hxw _ (List.getElem_mem hk1)).ext hS1.ext
 have ry:=(hyw _ (List.getElem_mem hk2)).ext hS1.ext
 obtain ⟨B,hB⟩:∃ B,decide (xs[k].2.2=ys[k].2.2)=B:=⟨_,rfl⟩
 (refine jjB (jjC (jjZ rfl rfl (by omega) (jz (jjB (jjJ rfl ?_)))));refine jjG (jjB (jjD (jjB (jjC (jI (eI rfl) ?_)))));refine jF rfl rfl rfl (map_get (by omega)) ?_;intro _ _ _;refine jQ rfl rfl (jJ (eI rfl) (jJ (eS rfl) (jz (jjB (jjC ?_)))));refine jI (eS rfl) (jI (eI rfl) ?_);refine jF rfl rfl rfl (map_get (by omega)) ?_;intro _ _ _;refine jQ rfl rfl (jJ (eS rfl) (jz (jjB (jjC (jI (eF rfl) ?_)))));refine jI (eS rfl) (jI (eS rfl) ?_))
 refine jjQ ((Equal_str xs[k].1 ys[k].1 xs[k].2.1 ys[k].2.1 _ _ xs[k].2.2 ys[k].2.2 _ rfl rfl rx ry).mono fun v _ _ h=>h.trans (by rw [hB])) rfl rfl ?_
 rintro _ w2 hS2 rfl
 cases B with
 | false =>
   (refine jq rfl (jz (jjJ rfl (jjB (jjC (jJ (eB rfl) ?_)))));refine jz (jjF ?_);refine jB rfl rfl ⟨inferInstance,?_⟩)
   exact ⟨_,rfl⟩
 | true =>
   (refine jp rfl (jz (jjK rfl (jjG (jjC (jY rfl rfl (by omega) ?_)))));refine jI (eI rfl) (jz ?_))
   exact ⟨rfl,by (((iterate 19 refine Same.upd rfl ?_);exact Same.ovN)),xs.length-(k+1),by omega,inferInstance,k+1,congrArg (Value.int .i64) (by omega),rfl,by omega⟩
instance eqT_pair2:EqT Tryz.prog 146 encII:=eqT_arr2 Tryz.underlying146 inferInstance inferInstance (of_decide_eq_true (by kernel_rfl))
set_option maxHeartbeats 2000000 in
theorem Index_pairs (a:Option Addr) (c:Nat) (ps:List (Int×Int)) (q:Int×Int) (w:World) [hrow:RowI w (.slice a ps.length c) true 2 (ps.map encII)] :
  Ct Tryz.prog 111 [.slice a ps.length c,encII q] w fun v _=>∃ i:Int,v=.int .i64 i:=by
 have hl:=hrow.h.len
 rw [List.length_map] at hl
 refine Ct.ofW (by simp) ?_
 (refine jjB (jjC ?_))
 (refine jy rfl ?_;intro b3 w_b3 hb_b3 hs_b3 hS_b3 hk_b3;have hA_b3:=At.ofBlock hk_b3)
 (refine jJ (eI rfl) (jz (jjB (jjB (jjC (jI (eS rfl) ?_)))));refine jh rfl (jI (eI rfl) (jz (jjD ?_))))
 refine W.keep0 [(0,.slice a ps.length c),(3,.pointer (some ⟨b3,0,none⟩)),(6,.slice a ps.length c),(7,.int .i64 (ps.length:Int)),(8,.int .i64 ((0:Nat):Int))] ⟨eS rfl,eP rfl,eS rfl,eI rfl,eI rfl,trivial⟩ fun s0=>?_
 refine W.loop (9::10::5::11::12::13::14::15::16::17::4::18::8::[]) (fun g s' V=>∃ k:Nat,s' 8=.int .i64 ((k:Nat):Int)∧g=ps.length-k∧k≤ps.length) ps.length ⟨0,rfl,rfl,Nat.zero_le _⟩ ?_
 rintro _ sd w1 hS1 ⟨k,h8,rfl,hk⟩
 refine W.fix h8 ?_
 clear h8
 by_cases hk1:k<ps.length
 rotate_left
 ·(refine jjB (jjC (jja rfl rfl (by omega) (jz (jjB (jjK rfl ?_)))));refine jjE (jjB (jjC (jJ (eI rfl) (jz (jjF ?_)))));refine jB rfl rfl ⟨inferInstance,?_⟩)
  exact ⟨_,rfl⟩
 have hS1':Ext w w1:=inferInstance
 have i1:RowI w1 (.slice a ps.length c) true 2 (ps.map encII):=⟨hrow.h.ext hS1'⟩
 have gp:(ps.map encII)[k]?=some (encII ps[k]):=by rw [List.getElem?_map,List.getElem?_eq_getElem hk1];rfl
 obtain ⟨pb,po,rfl,-⟩:=hrow.h.place' gp
 obtain ⟨B,hB⟩:∃ B,decide (q=ps[k])=B:=⟨_,rfl⟩
 (refine jjB (jjC (jjZ rfl rfl (by omega) (jz (jjB (jjJ rfl ?_)))));refine jjG (jjB (jjD (jjB (jjC (jI (eI rfl) ?_)))));refine jJ (eI rfl) (jz (jjB ?_)))
 refine W.draw (fun w'=>Ext w_b3 w') ?_
 intro w2 hS2
 have hE2:Ext w_b3 w2:=hS1.ext.trans hS2.ext
 have A1:∀ V,Ext w_b3 V→At V pb (po+k * 2) (encII ps[k]).cells.toList:=fun V hE=>place_k (hrow.h.ext (hS_b3.ext.trans hE)) gp
 refine jjV [0,1,2] (by decide +kernel) hE2 ?_
 (((apply jjT;exact rfl;rintro w' hq;have:=hq.toStep;refine jO rfl rfl rfl rfl (jz ?_);exact ⟨rfl,rfl⟩;refine jjT rfl (fun _ _=>jI (eS rfl) (jz ⟨rfl,rfl⟩)) (jjT rfl (fun _ _=>jI (eI rfl) (jz ⟨rfl,rfl⟩)) (jjU ?_)))))
 refine jjV [3] (by decide +kernel) hE2 (jjT (v:=.pointer (some ⟨pb,po+k * 2,none⟩)) rfl (fun w' q1=>?_) (jjU ?_));(refine jH k rfl rfl rfl (by omega) ?_;refine jz ?_;exact ⟨rfl,rfl⟩)
 refine jjV [4] (by decide +kernel) hE2 (jjT (v:=encII ps[k]) rfl (fun w' q1=>?_) (jjU ?_));(refine Ops.loadOA (off:=0) (A1 _ q1) rfl rfl rfl rfl ?_;refine jz ?_;exact ⟨rfl,rfl⟩)
 refine jjV [5] (by decide +kernel) hE2 (jjT (v:=.bool B) rfl (fun w' q1=>?_) (jjU ?_));(refine Ops.eqlT (enc:=encII) q ps[k] rfl rfl ?_;rw [hB];refine jz ?_;exact ⟨rfl,rfl⟩)
 refine jjX (by decide +kernel) hE2 ?_
 cases B with
 | true =>
   (refine jjJ rfl (jjB (jjC (jI (eI rfl) (jJ (eI rfl) (jz ?_)))));refine jjF ?_;refine jB rfl rfl ⟨inferInstance,?_⟩)
   exact ⟨_,rfl⟩
 | false =>
   (refine jjK rfl (jjG (jjC (jY rfl rfl (by omega) (jI (eI rfl) (jz ?_))))))
   exact ⟨rfl,by (((iterate 12 refine Same.upd rfl ?_);exact Same.ovN)),ps.length-(k+1),by omega,inferInstance,k+1,congrArg (Value.int .i64) (by omega),rfl,by omega⟩
theorem Contains_pairs (a:Option Addr) (c:Nat) (ps:List (Int×Int)) (q:Int×Int) (w:World) [hrow:RowI w (.slice a ps.length c) true 2 (ps.map encII)] :
  Ct Tryz.prog 70 [.slice a ps.length c,encII q] w fun v _=>∃ B,v=.bool B:=by
 refine Ct.ofW (by simp) ?_
 (refine jjB (jjC ?_))
 (refine jy rfl ?_;intro b3 w_b3 hb_b3 hs_b3 hS_b3 hk_b3;have hA_b3:=At.ofBlock hk_b3)
 (refine jJ (eB rfl) (jz (jjB (jjC (jI (eS rfl) (jO rfl rfl rfl rfl ?_))))))
 refine jjQ (Index_pairs a c ps q _) rfl rfl ?_
 rintro _ w1 hS1 ⟨i,rfl⟩
 (refine jf rfl rfl (jJ (eB rfl) (jz (jjF ?_)));refine jB rfl rfl ⟨inferInstance,?_⟩)
 all_goals exact ⟨_,rfl⟩

section
variable {P:Program} {ro:Option Nat} {n:Nat} {all rest:List Oper} {K:Sl→World→Prop} {s:Sl} {w:World} {d:Nat} {ty:Nat} {pos:String} {af:Array Edge}
theorem Ops.sliceArr {x:Operand} {t m e k bytes b:Nat} {z:Value} (hx:ev n s x=.pointer (some ⟨b,0,none⟩)) (h0:Nat.blt 0 m=true) [ht:TArr P t m e] [hz:TS P e z k bytes]
  (h:Ops P ro n all rest K (upd s d (.slice (some ⟨b,0,none⟩) m m)) w):Ops P ro n all (⟨some d,.slice t x none none none,ty,pos,af,none⟩::rest) K s w:=by
 have h1:0<m:=by simpa using h0
 have h2:¬ m=0:=by omega
 refine Ops.ofRun (v:=.slice (some ⟨b,0,none⟩) m m) (w':=w) rfl ?_ h
 simp [execOp,Instr.sliceAt,Instr.sliceBounds,Instr.sureAddr,hx,run_underlying ht.h,run_sizeOf' w hz,h2,Addr.add]
end
theorem row_two {w:World} {b:Nat} {x y:Int} (h:At w b 0 [.int .i64 x,.int .i64 y]):RowV w false 1 (.slice (some ⟨b,0,none⟩) 2 2) [.int .i64 x,.int .i64 y] :=
 ⟨by simp,by simp [fitsV],.inr ⟨b,0,2,rfl,by simp,fun j v hv=>by
  match j,hv with
  | 0,hv=>cases hv;exact ⟨fun i u hu=>by
    match i,hu with
    | 0,hu=>cases hu;exact h.h 0 _ rfl⟩
  | 1,hv=>cases hv;exact ⟨fun i u hu=>by
    match i,hu with
    | 0,hu=>cases hu;exact h.h 1 _ rfl⟩⟩⟩
section
variable (bd:Nat) (v0 v1 v4 v5:Value) (sa:Option Addr) (sc:Nat) (ss:List Shr) (xa:Option Addr) (xc:Nat) (xs:List Sht) (w:World)
 [hd:At w bd 0 [v0,v1,.slice sa ss.length sc,.slice xa xs.length xc,v4,v5]] [hss:RowI w (.slice sa ss.length sc) true 4 (ss.map encShr)] [hxs:RowI w (.slice xa xs.length xc) true 2 (xs.map encSht)]
def difB (ss:List Shr) (xs:List Sht) (k:Nat):Bool:=!(xs.getD k (false,none,0,[])).1 || isTorn ss xs k
include hd hss hxs in
set_option maxHeartbeats 4000000 in
theorem differ1_hand (b1:Nat) [hb:At w b1 0 [.pointer (some ⟨bd,0,none⟩)]] {nl:Nat} (hp:PartsOk nl ss xs) (k:Nat) (hk:k<ss.length):Ct Tryz.prog 104 [.int .i64 (k:Int),.pointer (some ⟨b1,0,none⟩)] w fun v _=>v=.bool (difB ss xs k):=by
 have hx:k<xs.length:=by rw [hp.len];exact hk
 have hxl:=hxs.h.len
 rw [List.length_map] at hxl
 have gx:(xs.map encSht)[k]?=some (encSht xs[k]):=by rw [List.getElem?_map,List.getElem?_eq_getElem hx];rfl
 have e1:xs.getD k (false,none,0,[])=xs[k]:=by rw [List.getD_eq_getElem?_getD,List.getElem?_eq_getElem hx];rfl
 have e2:isTorn ss xs k=tornB ss[k] xs[k]:=by
  rw [isTorn,List.getD_eq_getElem?_getD,List.getD_eq_getElem?_getD,List.getElem?_eq_getElem hk,List.getElem?_eq_getElem hx];rfl
 obtain ⟨B,hB⟩:∃ B,xs[k].1=B:=⟨_,rfl⟩
 obtain ⟨T,hT⟩:∃ T,tornB ss[k] xs[k]=T:=⟨_,rfl⟩
 obtain ⟨pb,po,rfl,-⟩:=hxs.h.place' gx
 have A1:∀ V,Ext w V→At V pb (po+k * 2) [.bool B,.slice xs[k].2.1 xs[k].2.2.2.length xs[k].2.2.1]:=fun V hE=>by
  have:=place_k (hxs.h.ext hE) gx
  rw [←hB];exact this
 rw [difB,e1,e2,hB,hT]
 have hx0:=hxs.h
 have A0:=A1 _ (.refl w)
 clear hxs
 refine Ct.ofW (by simp) ?_
 (refine jjB (jjC (jJ (eB rfl) (jz (jjB (jjC ?_)))));refine jN rfl rfl rfl (jw rfl (jm (jn rfl (jm (jn rfl ?_)))));refine jN rfl rfl rfl (jI (eI rfl) ?_))
 refine jH k rfl rfl rfl (by omega) ?_
 cases B with
 | false =>
   (refine jm (jn rfl (jP rfl rfl rfl (jq rfl (jI (eB rfl) (jU rfl rfl rfl rfl ?_)))));refine jU rfl rfl rfl rfl (jU rfl rfl rfl rfl (jK rfl (eB rfl) (jJ (eB rfl) (jz (jjF ?_)))));refine jB rfl rfl ⟨inferInstance,?_⟩)
   exact rfl
 | true =>
   (refine jm (jn rfl (jP rfl rfl rfl (jp rfl (jI (eB rfl) (jT rfl rfl rfl ?_)))));refine jN rfl rfl rfl (jT rfl rfl rfl (jI (eI rfl) (jT rfl rfl rfl ?_))))
   refine jjQ ((torn_hand bd v0 v1 v4 v5 sa sc ss (some ⟨pb,po,none⟩) xc xs _ (hxs:=⟨hx0⟩) hp k hk hx).mono fun v _ _ h=>h.trans (by rw [hT])) rfl rfl ?_
   rintro _ w2 hS2 rfl
   cases T
   ·(refine jL rfl (eB rfl) (jJ (eB rfl) (jz (jjF ?_)));refine jB rfl rfl ⟨inferInstance,?_⟩)
    exact rfl
   ·(refine jL rfl (eB rfl) (jJ (eB rfl) (jz (jjF ?_)));refine jB rfl rfl ⟨inferInstance,?_⟩)
    exact rfl
variable [hxi:ShtI w xs]
include hd hss hxs hxi in
set_option maxHeartbeats 8000000 in
theorem differ_hand {nl:Nat} {hs:List Hp} (hp:RoundOk nl hs ss xs):Ct Tryz.prog 64 [.pointer (some ⟨bd,0,none⟩)] w fun v w'=>∃ (ps:List (Int×Int)) (a:Option Addr) (c:Nat),v=.slice a ps.length c∧ps.length≤8∧(∀ p∈ps,(0≤p.1∧p.1<(ss.length:Int))∧0≤p.2∧p.2<(ss.length:Int))∧RowV w' true 2 (.slice a ps.length c) (ps.map encII):=by
 have hs1:=hp.s1
 have hx1:=hp.x1
 refine Ct.ofW (by simp) ?_
 (refine jjB (jjC ?_))
 (refine jy rfl ?_;intro b1 w_b1 hb_b1 hs_b1 hS_b1 hk_b1;have hA_b1:=At.ofBlock hk_b1)
 (refine jJ (eS rfl) (jz (jjB (jjC (jJ (eS rfl) (jz ?_)))));refine jjB (jjB (jjC (jJ (eI rfl) (jz (jjD ?_))))))
 have z1:=hS_b1.size
 refine W.keep0 [(1,.pointer (some ⟨b1,0,none⟩)),(3,.slice none 0 0),(4,.int .i64 ((1:Nat):Int))] ⟨eP rfl,eS rfl,eI rfl,trivial⟩ fun s0=>?_
 refine W.loopG (9::10::11::12::13::14::15::16::19::20::21::22::5::23::24::25::26::27::28::29::30::31::32::33::34::35::36::37::38::39::40::41::42::43::44::6::7::45::46::47::48::49::50::51::52::53::54::55::56::57::58::59::60::61::62::63::64::65::66::8::67::68::69::70::71::72::73::74::75::76::77::78::79::80::81::3::17::18::4::[]) (fun g s' V=>∃ (i:Nat) (lv:Value) (ps:List (Int×Int)),s' 4=.int .i64 (i:Int)∧s' 3=lv∧g=ss.length+1-i∧1≤i∧i≤ss.length+1∧ps.length+1≤i∧(∀ p∈ps,(0≤p.1∧p.1<(ss.length:Int))∧0≤p.2∧p.2<(ss.length:Int))∧Ext w_b1 V∧OwnL V w_b1.heap.size 146 true 2 lv (ps.map encII)) ss.length ⟨1,_,[],rfl,rfl,by omega,by omega,by omega,by simp,by simp,.refl _,OwnL.nil _ _ _ _ _⟩ ?_
 rintro _ sd V ⟨i,lv,ps,h4,h3,rfl,hi1,hi2,hpl,hpb,hEV,hO⟩
 obtain ⟨la,lc,rfl⟩:=hO.slice
 rw [List.length_map] at hO h3
 refine W.fix h4 (W.fix (d:=3) h3 ?_)
 clear h4 h3
 have hEV':=hEV.toStep
 have hEw:Ext w V:=hS_b1.ext.trans hEV
 have hEw':=hEw.toStep
 have zV:=hEV.size
 by_cases hk:i<ss.length
 rotate_left
 ·(refine jjB (jjB (jjC (jI (eI rfl) (jN rfl rfl rfl (jw rfl ?_)))));refine jm (jn rfl (jm (jn rfl (jN rfl rfl rfl (jh rfl ?_)))));refine jja rfl rfl (by omega) (jz (jjK rfl (jjE (jjB (jjC ?_)))));refine jI (eS rfl) (jJ (eS rfl) (jz (jjF ?_)));refine jB rfl rfl ⟨inferInstance,?_⟩)
  exact ⟨ps,la,lc,rfl,by omega,hpb,hO.row⟩
 obtain ⟨j,rfl⟩:∃ j,i=j+1:=⟨i-1,by omega⟩
 have hj:j<ss.length:=by omega
 have ej:(((j+1:Nat):Int)-1)=(j:Int):=by omega
 (refine jjB (jjB (jjC (jI (eI rfl) (jN rfl rfl rfl (jw rfl ?_)))));refine jm (jn rfl (jm (jn rfl (jN rfl rfl rfl (jh rfl ?_)))));refine jjZ rfl rfl (by omega) (jz (jjJ rfl (jjG (jjB (jjD ?_)))));refine jjB (jjC (jI (eI rfl) (jZ rfl rfl (by omega) (jI (eI rfl) ?_)))))
 (refine jjS (cells:=[.int .i64 (((j+1:Nat):Int)-1),.int .i64 ((j+1:Nat):Int)]) ?_ ?_;exact rfl)
 (apply jjR rfl;(intro _;first|exact eI rfl|exact eB rfl|exact eP rfl|exact eS rfl|exact eT rfl|exact eA rfl|exact eU rfl|exact eF rfl|exact eM rfl|exact eN rfl|exact rfl);exact rfl;exact rfl;exact rfl;exact rfl;intro b5 w_b5 hb_b5 hs_b5 hS_b5 hk_b5;have hA_b5:=Bk.of hk_b5)
 have hE5:Ext w_b1 w_b5:=hEV.trans hS_b5.ext
 have hE5':=hE5.toStep
 have hE5w:Ext w w_b5:=hS_b1.ext.trans hE5
 have hE5w':=hE5w.toStep
 have A5:At w_b5 b5 0 [.int .i64 (((j+1:Nat):Int)-1),.int .i64 ((j+1:Nat):Int)]:=Bk.toAt (h:=hA_b5)
 rw [ej] at A5
 have R5:RowV w_b5 false 1 (.slice (some ⟨b5,0,none⟩) [j,j+1].length 2) ([j,j+1].map natV):=row_two A5
 obtain ⟨C,hC⟩:∃ C,[j,j+1].any (difB ss xs)=C:=⟨_,rfl⟩
 have A1:At w_b5 b1 0 [.pointer (some ⟨bd,0,none⟩)]:=inferInstance
 have D5:At w_b5 bd 0 [v0,v1,.slice sa ss.length sc,.slice xa xs.length xc,v4,v5]:=inferInstance
 have S5:RowI w_b5 (.slice sa ss.length sc) true 4 (ss.map encShr):=inferInstance
 have X5:RowI w_b5 (.slice xa xs.length xc) true 2 (xs.map encSht):=inferInstance
 (refine jz (jjB (jjB (jjC ?_))))
 refine Ops.sliceArr rfl rfl ?_
 (refine jv ?_)
 refine jjQ ((ContainsFunc_int _ _ (.func (.func 104) #[] [Value.pointer (some ⟨b1,0,none⟩)].toArray) natV [j,j+1] (difB ss xs) R5 ⟨_,_,rfl,inferInstance,fun w' x hx hs'=>differ1_hand bd v0 v1 v4 v5 sa sc ss xa xc xs w' (hd:=D5.ext hs') (hss:=⟨S5.h.ext hs'⟩) (hxs:=⟨X5.h.ext hs'⟩) b1 (hb:=A1.ext hs') hp.parts x (by simp only [List.mem_cons,List.not_mem_nil,or_false] at hx;omega)⟩).mono fun v _ _ h=>h.trans (by rw [hC])) rfl rfl ?_
 rintro _ w6 hS6 rfl
 have hE6:Ext w_b1 w6:=hE5.trans hS6.ext
 have hE6w:Ext w w6:=hS_b1.ext.trans hE6
 have hE6':=hE6.toStep
 cases C with
 | true =>
   (refine jz (jjJ rfl (jjE (jjC (jI (eI rfl) (jY rfl rfl (by omega) ?_)))));refine jJ (eI rfl) (jz ?_))
   exact ⟨rfl,by (((iterate 21 refine Same.upd rfl ?_);exact Same.ovN)),ss.length+1-(j+1+1),by omega,j+1+1,_,ps,congrArg (Value.int .i64) (by omega),rfl,by omega,by omega,by omega,by omega,hpb,hE6,hO.ext (hS_b5.ext.trans hS6.ext)⟩
 | false =>
 rw [List.any_cons,List.any_cons,List.any_nil,Bool.or_false,Bool.or_eq_false_iff] at hC
 obtain ⟨c1,c2⟩:=hC
 have hxj:j<xs.length:=by omega
 have hxk:j+1<xs.length:=by omega
 have big:∀ k (h:k<ss.length) (hx:k<xs.length),difB ss xs k=false→(xs[k].2.2.2.length:Int)=sizeF ss[k]:=fun k h hx hd=>by
  rw [difB,Bool.or_eq_false_iff] at hd
  obtain ⟨d1,d2⟩:=hd
  rw [List.getD_eq_getElem?_getD,List.getElem?_eq_getElem hx,Option.getD_some] at d1
  rw [isTorn,List.getD_eq_getElem?_getD,List.getD_eq_getElem?_getD,List.getElem?_eq_getElem h,List.getElem?_eq_getElem hx,Option.getD_some,Option.getD_some,tornB] at d2
  have d3:xs[k].1=true:=by simpa using d1
  rw [d3] at d2
  simpa using d2
 have lj:=big j hj hxj c1
 have lk:=big (j+1) hk hxk c2
 have pj:=hp.sp j hj
 have pk:=hp.sp (j+1) hk
 have po:=hp.so (j+1) hk (by omega)
 have few:=hp.few
 simp only [Nat.add_sub_cancel] at po
 rw [sizeF] at lj lk
 obtain ⟨K,hK⟩:∃ K:Nat,max 0 (ss[j].2.1-ss[j+1].1+1)=(K:Int):=⟨(max 0 (ss[j].2.1-ss[j+1].1+1)).toNat,by omega⟩
 obtain ⟨lo,hlo⟩:∃ lo:Nat,(xs[j].2.2.2.length:Int)-(K:Int)=(lo:Int):=⟨((xs[j].2.2.2.length:Int)-(K:Int)).toNat,by omega⟩
 have hK2:K≤xs[j+1].2.2.2.length:=by omega
 have gx:∀ k (h:k<xs.length),(xs.map encSht)[k]?=some (encSht xs[k]):=fun k h=>by rw [List.getElem?_map,List.getElem?_eq_getElem h];rfl
 have gs:∀ k (h:k<ss.length),(ss.map encShr)[k]?=some (encShr ss[k]):=fun k h=>by rw [List.getElem?_map,List.getElem?_eq_getElem h];rfl
 have AX:∀ k (h:k<xs.length) b o,xa=some ⟨b,o,none⟩→∀ V,Ext w_b1 V→At V b (o+k * 2) [.bool xs[k].1,.slice xs[k].2.1 xs[k].2.2.2.length xs[k].2.2.1]:=fun k h b o e V hE=>by
  subst e
  exact place_k (hxs.h.ext (hS_b1.ext.trans hE)) (gx k h)
 have AS:∀ k (h:k<ss.length) b o,sa=some ⟨b,o,none⟩→∀ V,Ext w_b1 V→At V b (o+k * 4) [.int .i64 ss[k].1,.int .i64 ss[k].2.1,.int .i64 ss[k].2.2.1,.int .i64 ss[k].2.2.2]:=fun k h b o e V hE=>by
  subst e
  exact place_k (hss.h.ext (hS_b1.ext.trans hE)) (gs k h)
 have gx0:=gx j hxj
 have gs0:=gs j hj
 obtain ⟨xb,xo,exa,-⟩:=hxs.h.place' gx0
 obtain ⟨sb,so,esa,-⟩:=hss.h.place' gs0
 have AY:=fun k h=>AX k h xb xo exa
 have AT:=fun k h=>AS k h sb so esa
 clear AX AS
 have rj:=(hxi.line hxj).h
 have rk:=(hxi.line hxk).h
 have wj:=hxi.words _ (List.getElem_mem hxj)
 have wk:=hxi.words _ (List.getElem_mem hxk)
 obtain ⟨Lj,hLj⟩:∃ L,xs[j].2.2.2=L:=⟨_,rfl⟩
 obtain ⟨Lk,hLk⟩:∃ L,xs[j+1].2.2.2=L:=⟨_,rfl⟩
 clear gx gs gx0 gs0 big c1 c2
 subst exa esa
 (refine jz (jjK rfl (jjG (jjB ?_))))
 refine W.draw (fun w'=>Ext w_b1 w') ?_
 intro w7 hS7
 have q7:=hE6.trans hS7.ext
 refine jjV [0,1,2,3,4,5] (by decide +kernel) q7 ?_
 (((apply jjT;exact rfl;rintro w' hq;have:=hq.toStep;have:=(hS_b1.ext.trans hq).toStep;refine jN rfl rfl rfl (jz ?_);exact ⟨rfl,rfl⟩;apply jjT;exact rfl;rintro w' hq;have:=hq.toStep;have:=(hS_b1.ext.trans hq).toStep;refine jw rfl (jz ?_);exact ⟨rfl,rfl⟩;apply jjT;exact rfl;rintro w' hq;have:=hq.toStep;have:=(hS_b1.ext.trans hq).toStep;refine jm (jn rfl (jz ?_));exact ⟨rfl,rfl⟩;apply jjT;exact rfl;rintro w' hq;have:=hq.toStep;have:=(hS_b1.ext.trans hq).toStep;refine jm (jn rfl (jz ?_));exact ⟨rfl,rfl⟩;apply jjT;exact rfl;rintro w' hq;have:=hq.toStep;have:=(hS_b1.ext.trans hq).toStep;refine jN rfl rfl rfl (jz ?_);exact ⟨rfl,rfl⟩;apply jjT;exact rfl;rintro w' hq;have:=hq.toStep;have:=(hS_b1.ext.trans hq).toStep;refine jI (eI rfl) (jz ?_);exact ⟨rfl,rfl⟩;refine jjU ?_)))
 refine jjV [6] (by decide +kernel) q7 (jjT (v:=.int .i64 (j:Int)) rfl (fun w' q1=>?_) (jjU ?_));(refine jZ rfl rfl (by omega) ?_;rw [ej];refine jz ?_;exact ⟨rfl,rfl⟩)
 refine jjV [7] (by decide +kernel) q7 (jjT (v:=.pointer (some ⟨xb,xo+j * 2,none⟩)) rfl (fun w' q1=>?_) (jjU ?_));(refine jH j rfl rfl rfl (by omega) ?_;refine jz ?_;exact ⟨rfl,rfl⟩)
 refine jjV [8] (by decide +kernel) q7 ?_
 (((apply jjT;exact rfl;rintro w' hq;refine jm (jn rfl (jz ?_));exact ⟨rfl,rfl⟩;refine jjU ?_)))
 refine jjV [9] (by decide +kernel) q7 (jjT (v:=.slice xs[j].2.1 xs[j].2.2.2.length xs[j].2.2.1) rfl (fun w' q1=>?_) (jjU ?_));(refine jR ((AY j hxj _ q1).get (i:=1) rfl) rfl rfl ?_;refine jz ?_;exact ⟨rfl,rfl⟩)
 refine jjV [10,11,12,13,14,15] (by decide +kernel) q7 ?_
 (((apply jjT;exact rfl;rintro w' hq;have:=hq.toStep;have:=(hS_b1.ext.trans hq).toStep;refine jN rfl rfl rfl (jz ?_);exact ⟨rfl,rfl⟩;apply jjT;exact rfl;rintro w' hq;have:=hq.toStep;have:=(hS_b1.ext.trans hq).toStep;refine jw rfl (jz ?_);exact ⟨rfl,rfl⟩;apply jjT;exact rfl;rintro w' hq;have:=hq.toStep;have:=(hS_b1.ext.trans hq).toStep;refine jm (jn rfl (jz ?_));exact ⟨rfl,rfl⟩;apply jjT;exact rfl;rintro w' hq;have:=hq.toStep;have:=(hS_b1.ext.trans hq).toStep;refine jm (jn rfl (jz ?_));exact ⟨rfl,rfl⟩;apply jjT;exact rfl;rintro w' hq;have:=hq.toStep;have:=(hS_b1.ext.trans hq).toStep;refine jN rfl rfl rfl (jz ?_);exact ⟨rfl,rfl⟩;apply jjT;exact rfl;rintro w' hq;have:=hq.toStep;have:=(hS_b1.ext.trans hq).toStep;refine jI (eI rfl) (jz ?_);exact ⟨rfl,rfl⟩;refine jjU ?_)))
 refine jjV [16] (by decide +kernel) q7 (jjT (v:=.pointer (some ⟨xb,xo+(j+1) * 2,none⟩)) rfl (fun w' q1=>?_) (jjU ?_));(refine jH (j+1) rfl rfl rfl (by omega) ?_;refine jz ?_;exact ⟨rfl,rfl⟩)
 refine jjV [17] (by decide +kernel) q7 ?_
 (((apply jjT;exact rfl;rintro w' hq;refine jm (jn rfl (jz ?_));exact ⟨rfl,rfl⟩;refine jjU ?_)))
 refine jjV [18] (by decide +kernel) q7 (jjT (v:=.slice xs[j+1].2.1 xs[j+1].2.2.2.length xs[j+1].2.2.1) rfl (fun w' q1=>?_) (jjU ?_));(refine jR ((AY (j+1) hxk _ q1).get (i:=1) rfl) rfl rfl ?_;refine jz ?_;exact ⟨rfl,rfl⟩)
 refine jjV [19,20] (by decide +kernel) q7 ?_
 (((refine jjT rfl (fun _ _=>jJ (eS rfl) (jz ⟨rfl,rfl⟩)) (jjT rfl (fun _ _=>jJ (eS rfl) (jz ⟨rfl,rfl⟩)) (jjU ?_)))))
 refine jjX (by decide +kernel) q7 ?_
 (refine jjB ?_)
 refine W.draw (fun w'=>Ext w_b1 w') ?_
 intro w8 hS8
 have q8:=q7.trans hS8.ext
 refine jjV [0,1,2,3,4,5] (by decide +kernel) q8 ?_
 (((apply jjT;exact rfl;rintro w' hq;have:=hq.toStep;have:=(hS_b1.ext.trans hq).toStep;refine jN rfl rfl rfl (jz ?_);exact ⟨rfl,rfl⟩;apply jjT;exact rfl;rintro w' hq;have:=hq.toStep;have:=(hS_b1.ext.trans hq).toStep;refine jw rfl (jz ?_);exact ⟨rfl,rfl⟩;apply jjT;exact rfl;rintro w' hq;have:=hq.toStep;have:=(hS_b1.ext.trans hq).toStep;refine jm (jn rfl (jz ?_));exact ⟨rfl,rfl⟩;apply jjT;exact rfl;rintro w' hq;have:=hq.toStep;have:=(hS_b1.ext.trans hq).toStep;refine jm (jn rfl (jz ?_));exact ⟨rfl,rfl⟩;apply jjT;exact rfl;rintro w' hq;have:=hq.toStep;have:=(hS_b1.ext.trans hq).toStep;refine jN rfl rfl rfl (jz ?_);exact ⟨rfl,rfl⟩;apply jjT;exact rfl;rintro w' hq;have:=hq.toStep;have:=(hS_b1.ext.trans hq).toStep;refine jI (eI rfl) (jz ?_);exact ⟨rfl,rfl⟩;refine jjU ?_)))
 refine jjV [6] (by decide +kernel) q8 (jjT (v:=.int .i64 (j:Int)) rfl (fun w' q1=>?_) (jjU ?_));(refine jZ rfl rfl (by omega) ?_;rw [ej];refine jz ?_;exact ⟨rfl,rfl⟩)
 refine jjV [7] (by decide +kernel) q8 (jjT (v:=.pointer (some ⟨sb,so+j * 4,none⟩)) rfl (fun w' q1=>?_) (jjU ?_));(refine jH j rfl rfl rfl (by omega) ?_;refine jz ?_;exact ⟨rfl,rfl⟩)
 refine jjV [8] (by decide +kernel) q8 ?_
 (((apply jjT;exact rfl;rintro w' hq;refine jm (jn rfl (jz ?_));exact ⟨rfl,rfl⟩;refine jjU ?_)))
 refine jjV [9] (by decide +kernel) q8 (jjT (v:=.int .i64 ss[j].2.1) rfl (fun w' q1=>?_) (jjU ?_));(refine jR ((AT j hj _ q1).get (i:=1) rfl) rfl rfl ?_;refine jz ?_;exact ⟨rfl,rfl⟩)
 refine jjV [10,11,12,13,14,15] (by decide +kernel) q8 ?_
 (((apply jjT;exact rfl;rintro w' hq;have:=hq.toStep;have:=(hS_b1.ext.trans hq).toStep;refine jN rfl rfl rfl (jz ?_);exact ⟨rfl,rfl⟩;apply jjT;exact rfl;rintro w' hq;have:=hq.toStep;have:=(hS_b1.ext.trans hq).toStep;refine jw rfl (jz ?_);exact ⟨rfl,rfl⟩;apply jjT;exact rfl;rintro w' hq;have:=hq.toStep;have:=(hS_b1.ext.trans hq).toStep;refine jm (jn rfl (jz ?_));exact ⟨rfl,rfl⟩;apply jjT;exact rfl;rintro w' hq;have:=hq.toStep;have:=(hS_b1.ext.trans hq).toStep;refine jm (jn rfl (jz ?_));exact ⟨rfl,rfl⟩;apply jjT;exact rfl;rintro w' hq;have:=hq.toStep;have:=(hS_b1.ext.trans hq).toStep;refine jN rfl rfl rfl (jz ?_);exact ⟨rfl,rfl⟩;apply jjT;exact rfl;rintro w' hq;have:=hq.toStep;have:=(hS_b1.ext.trans hq).toStep;refine jI (eI rfl) (jz ?_);exact ⟨rfl,rfl⟩;refine jjU ?_)))
 refine jjV [16] (by decide +kernel) q8 (jjT (v:=.pointer (some ⟨sb,so+(j+1) * 4,none⟩)) rfl (fun w' q1=>?_) (jjU ?_));(refine jH (j+1) rfl rfl rfl (by omega) ?_;refine jz ?_;exact ⟨rfl,rfl⟩)
 refine jjV [17] (by decide +kernel) q8 ?_
 (((apply jjT;exact rfl;rintro w' hq;refine jm (jn rfl (jz ?_));exact ⟨rfl,rfl⟩;refine jjU ?_)))
 refine jjV [18] (by decide +kernel) q8 (jjT (v:=.int .i64 ss[j+1].1) rfl (fun w' q1=>?_) (jjU ?_));(refine jR ((AT (j+1) hk _ q1).get (i:=0) rfl) rfl rfl ?_;refine jz ?_;exact ⟨rfl,rfl⟩)
 refine jjV [19] (by decide +kernel) q8 (jjT (v:=.int .i64 (ss[j].2.1-ss[j+1].1)) rfl (fun w' q1=>?_) (jjU ?_));(refine jZ rfl rfl (by omega) (jz ?_);exact ⟨rfl,rfl⟩)
 refine jjV [20] (by decide +kernel) q8 (jjT (v:=.int .i64 (ss[j].2.1-ss[j+1].1+1)) rfl (fun w' q1=>?_) (jjU ?_));(refine jY rfl rfl (by omega) (jz ?_);exact ⟨rfl,rfl⟩)
 refine jjV [21] (by decide +kernel) q8 (jjT (v:=.int .i64 (K:Int)) rfl (fun w' q1=>?_) (jjU ?_));(refine jk rfl rfl ?_;rw [hK];refine jz ?_;exact ⟨rfl,rfl⟩)
 refine jjV [22] (by decide +kernel) q8 ?_
 (((refine jjT rfl (fun _ _=>jJ (eI rfl) (jz ⟨rfl,rfl⟩)) (jjU ?_))))
 refine jjX (by decide +kernel) q8 ?_
 (refine jjB ?_)
 refine W.draw (fun w'=>Ext w_b1 w') ?_
 intro w9 hS9
 have q9:=q8.trans hS9.ext
 refine jjV [0,1,2,3] (by decide +kernel) q9 ?_
 (((refine jjT rfl (fun _ _=>jI (eS rfl) (jz ⟨rfl,rfl⟩)) (jjT rfl (fun _ _=>jI (eS rfl) (jz ⟨rfl,rfl⟩)) (jjT rfl (fun _ _=>jh rfl (jz ⟨rfl,rfl⟩)) (jjT rfl (fun _ _=>jI (eI rfl) (jz ⟨rfl,rfl⟩)) (jjU ?_)))))))
 refine jjV [4] (by decide +kernel) q9 (jjT (v:=.int .i64 (lo:Int)) rfl (fun w' q1=>?_) (jjU ?_));(refine jZ rfl rfl (by omega) ?_;rw [hlo];refine jz ?_;exact ⟨rfl,rfl⟩)
 refine jjV [5] (by decide +kernel) q9 (jjT (v:=cutV xs[j].2.1 xs[j].2.2.1 1 lo xs[j].2.2.2.length) rfl (fun w' q1=>?_) (jjU ?_));(refine Ops.sliceXLv rfl rfl rfl (by omega) ?_;refine jz ?_;exact ⟨rfl,rfl⟩)
 refine jjV [6,7] (by decide +kernel) q9 ?_
 (((refine jjT rfl (fun _ _=>jI (eS rfl) (jz ⟨rfl,rfl⟩)) (jjT rfl (fun _ _=>jI (eI rfl) (jz ⟨rfl,rfl⟩)) (jjU ?_)))))
 have kc:=rk.cap
 rw [List.length_map] at kc
 refine jjV [8] (by decide +kernel) q9 (jjT (v:=.slice xs[j+1].2.1 K xs[j+1].2.2.1) rfl (fun w' q1=>?_) (jjU ?_));(refine Ops.sliceXHv rfl rfl rfl (by omega) (by omega) ?_;refine jz ?_;exact ⟨rfl,rfl⟩)
 have r1:=rj.dropV (lo:=lo) (by rw [List.length_map];omega)
 have r2:=rk.takeV (hi:=K) (by rw [List.length_map];omega)
 rw [←List.map_drop] at r1
 rw [←List.map_take] at r2
 have n1:xs[j].2.2.2.length-lo=(xs[j].2.2.2.drop lo).length:=by rw [List.length_drop]
 have n2:K=(xs[j+1].2.2.2.take K).length:=by rw [List.length_take];omega
 have hEq:=EqualFunc_lines (if xs[j].2.2.1=lo then xs[j].2.1 else xs[j].2.1.map (·.add (lo * 1))) xs[j+1].2.1 (xs[j].2.2.1-lo) xs[j+1].2.2.1 (xs[j].2.2.2.drop lo) (xs[j+1].2.2.2.take K) w9 (by rw [←n1];exact r1.ext (hS_b1.ext.trans q9)) (fun y hy=>(wj y (List.mem_of_mem_drop hy)).ext (hS_b1.ext.trans q9)) (by rw [←n2];exact r2.ext (hS_b1.ext.trans q9)) (fun y hy=>(wk y (List.mem_of_mem_take hy)).ext (hS_b1.ext.trans q9))
 rw [←n1,←n2] at hEq
 (apply jjW 9;(decide +kernel);exact rfl;(exact q9))
 refine jjQ hEq rfl rfl ?_
 rintro _ w10 hS10 ⟨B,rfl⟩
 have q10:=q9.trans hS10.ext
 refine jz ?_
 refine jjV [10] (by decide +kernel) q10 ?_
 (((refine jjT rfl (fun _ _=>js rfl (jz ⟨rfl,rfl⟩)) (jjU ?_))))
 refine jjX (by decide +kernel) q10 ?_
 have qO:Ext V w10:=hS_b5.ext.trans (hS6.ext.trans (hS7.ext.trans (hS8.ext.trans (hS9.ext.trans hS10.ext))))
 have q10w:=hS_b1.ext.trans q10
 have zw:=q10w.size
 have A10:At w10 b5 0 [.int .i64 (j:Int),.int .i64 ((j+1:Nat):Int)]:=A5.ext (hS6.ext.trans (hS7.ext.trans (hS8.ext.trans (hS9.ext.trans hS10.ext))))
 cases B with
 | true =>
   (refine jjK rfl (jjG (jjC (jI (eI rfl) (jY rfl rfl (by omega) (jJ (eI rfl) ?_)))));refine jz ?_)
   exact ⟨rfl,by (((iterate 76 refine Same.upd rfl ?_);exact Same.ovN)),ss.length+1-(j+1+1),by omega,j+1+1,_,ps,congrArg (Value.int .i64) (by omega),rfl,by omega,by omega,by omega,by omega,hpb,q10,hO.ext qO⟩
 | false =>
   (refine jjJ rfl (jjC (jI (eS rfl) (jO rfl rfl rfl rfl ?_))))
   (refine jjP (v:=.agg _) rfl (by exact rfl) (by exact rfl) (by exact rfl) (by exact rfl) ?_;intro b80 w_b80 hb_b80 hs_b80 hS_b80 hk_b80;have hR_b80:=RowV.one (agg:=true) (k:=2) rfl hk_b80)
   have q80:=q10.trans hS_b80.ext
   have R80:RowV w_b80 true 2 (.slice (some ⟨b80,0,none⟩) 1 1) [encII ((j:Int),((j+1:Nat):Int))]:=hR_b80
   refine Ops.appendL (hO.ext (qO.trans hS_b80.ext)) q80.size R80 rfl rfl rfl rfl rfl ?_ ?_ ?_
   ·rw [List.length_map];simp only [List.length_cons,List.length_nil];omega
   ·rw [List.length_map];simp only [List.length_cons,List.length_nil];omega
   intro v6 w11 hA11 hO11 _ _
   have e11:ps.map encII++[encII ((j:Int),((j+1:Nat):Int))]=(ps++[((j:Int),((j+1:Nat):Int))]).map encII:=by simp
   rw [e11] at hO11
   (refine jJ rfl (jz (jjC (jI (eI rfl) (jY rfl rfl (by omega) (jJ (eI rfl) ?_)))));refine jz ?_)
   refine ⟨rfl,by (((iterate 81 refine Same.upd rfl ?_);exact Same.ovN)),ss.length+1-(j+1+1),by omega,j+1+1,_,_,congrArg (Value.int .i64) (by omega),rfl,by omega,by omega,by omega,?_,?_,hA11.ext q80 (Nat.le_refl _),hO11⟩
   ·rw [List.length_append];simp only [List.length_cons,List.length_nil];omega
   ·intro p hp'
    rcases List.mem_append.1 hp' with h|h
    ·exact hpb p h
    ·rw [List.mem_singleton] at h
     subst h
     simp only
     omega
end
end Go.Proofs.YtbafmbpmiiplkaaGreatDoor

namespace Go.Proofs.YtbafmbpmiiplkaaGreatDoor

def lsF (b:Nat):Nat→List Int→List (List Int)
 | 0,l=>[l]
 | m+1,l=>(List.range b).flatMap fun (n:Nat)=>lsF b m (l++[(n:Int)])
theorem lsF_mem {b:Nat}:∀ {m:Nat} {l x:List Int},x∈lsF b m l↔∃ r:List Int,x=l++r∧r.length=m∧∀ y∈r,0≤y∧y<(b:Int)
 | 0,l,x=>by
   simp only [lsF,List.mem_singleton]
   constructor
   ·rintro rfl;exact ⟨[],by simp⟩
   ·rintro ⟨r,rfl,h,-⟩
    rw [List.length_eq_zero_iff] at h
    simp [h]
 | m+1,l,x=>by
   simp only [lsF,List.mem_flatMap,List.mem_range]
   constructor
   ·rintro ⟨n,hn,hx⟩
    obtain ⟨r,rfl,hr,hy⟩:=lsF_mem.1 hx
    refine ⟨(n:Int)::r,by simp,by simp [hr],fun y hy'=>?_⟩
    rcases List.mem_cons.1 hy' with rfl|h
    ·omega
    ·exact hy y h
   ·rintro ⟨r,rfl,hr,hy⟩
    cases r with
    | nil=>simp at hr
    | cons y r =>
      have h0:=hy y (by simp)
      refine ⟨y.toNat,by omega,lsF_mem.2 ⟨r,?_,by simpa using hr,fun z hz=>hy z (by simp [hz])⟩⟩
      have e:((y.toNat:Nat):Int)=y:=by omega
      rw [e];simp
def bestHS (cost:List Int→Int×Bool) (st:List Int×Int) (y:List Int):List Int×Int:=if (cost y).2=true∧(st.2<0∨(cost y).1<st.2) then (y,(cost y).1) else st
def bestHF (cost:List Int→Int×Bool) (xs:List (List Int)):List Int×Int:=xs.foldl (bestHS cost) ([], -1)
theorem bestHF_snoc (cost:List Int→Int×Bool) (xs:List (List Int)) (y:List Int):bestHF cost (xs++[y])=bestHS cost (bestHF cost xs) y:=by simp [bestHF]
structure BestHI (cost:List Int→Int×Bool) (xs:List (List Int)) (st:List Int×Int):Prop where
 none_:st.2<0→st=([], -1)∧∀ y∈xs,(cost y).2=false
 some_:0≤st.2→st.1∈xs∧(cost st.1).2=true∧st.2=(cost st.1).1∧∀ y∈xs,(cost y).2=true→st.2≤(cost y).1
theorem bestHI_gen {cost:List Int→Int×Bool} (ys:List (List Int)):∀ (xs:List (List Int)) (st:List Int×Int),(∀ y∈ys,0≤(cost y).1)→BestHI cost xs st→BestHI cost (xs++ys) (ys.foldl (bestHS cost) st):=by
 induction ys with
 | nil=>intro xs st _ h;simpa using h
 | cons y ys ih =>
   intro xs st hc h
   have h0:=hc y (by simp)
   have h1:BestHI cost (xs++[y]) (bestHS cost st y):=by
    unfold bestHS
    by_cases hy:(cost y).2=true∧(st.2<0∨(cost y).1<st.2)
    ·rw [if_pos hy]
     refine ⟨fun h=>absurd h (by simp only;omega),fun _=>⟨by simp,hy.1,rfl,fun z hz hz2=>?_⟩⟩
     rcases List.mem_append.1 hz with hz|hz
     ·by_cases hn:st.2<0
      ·have:=(h.none_ hn).2 z hz;rw [this] at hz2;cases hz2
      ·have:=(h.some_ (by omega)).2.2.2 z hz hz2
       simp only;omega
     ·rw [List.mem_singleton] at hz;subst hz;exact Int.le_refl _
    ·rw [if_neg hy]
     refine ⟨fun hn=>⟨(h.none_ hn).1,fun z hz=>?_⟩,fun hn=>⟨by simp [(h.some_ hn).1],(h.some_ hn).2.1,(h.some_ hn).2.2.1,fun z hz hz2=>?_⟩⟩
     ·rcases List.mem_append.1 hz with hz|hz
      ·exact (h.none_ hn).2 z hz
      ·rw [List.mem_singleton] at hz;subst hz
       rw [Bool.eq_false_iff];exact fun e=>hy ⟨e,.inl hn⟩
     ·rcases List.mem_append.1 hz with hz|hz
      ·exact (h.some_ hn).2.2.2 z hz hz2
      ·rw [List.mem_singleton] at hz;subst hz
       refine Int.not_lt.1 fun hl=>hy ⟨hz2,.inr hl⟩
   have:=ih (xs++[y]) (bestHS cost st y) (fun z hz=>hc z (by simp [hz])) h1
   simpa using this
theorem bestHF_I {cost:List Int→Int×Bool} {xs:List (List Int)} (hc:∀ y∈xs,0≤(cost y).1):BestHI cost xs (bestHF cost xs):=by
 have:=bestHI_gen (cost:=cost) xs [] ([], -1) hc ⟨fun _=>⟨rfl,by simp⟩,fun h=>absurd h (by decide)⟩
 simpa [bestHF] using this
def gdI (l:List Int) (i:Nat):Int:=l.getD i 0
def agC (torn:List Nat) (pairs:List (Nat×Nat)) (out:List Int):Int×Bool :=
 ((out.map fun x=>1-x).sum,!(torn.any (fun i=>decide (gdI out i=1)) || pairs.any fun p=>decide (gdI out p.1=1∧gdI out p.2=1)))
def agL (torn:List Nat) (pairs:List (Nat×Nat)) (n:Nat):List Int:=(bestHF (agC torn pairs) (lsF 2 n [])).1
def agP (l:List Int):List Nat:=(List.range l.length).filter fun i=>decide (gdI l i=0)
theorem agL_len (torn:List Nat) (pairs:List (Nat×Nat)) (n:Nat):(agL torn pairs n).length≤n:=by
 have hc:∀ y∈lsF 2 n [],0≤(agC torn pairs y).1:=fun y hy=>by
  obtain ⟨r,hr,-,h⟩:=lsF_mem.1 hy
  rw [List.nil_append] at hr
  subst hr
  simp only [agC]
  clear hy
  induction y with
  | nil=>simp
  | cons x r ih =>
    have h1:=h x (by simp)
    have h2:=ih fun z hz=>h z (by simp [hz])
    simp only [List.map_cons,List.sum_cons]
    omega
 have hI:=bestHF_I hc
 by_cases h:(bestHF (agC torn pairs) (lsF 2 n [])).2<0
 ·rw [agL,(hI.none_ h).1];simp
 ·obtain ⟨r,hr,hl,-⟩:=lsF_mem.1 (hI.some_ (by omega)).1
  rw [agL,hr];simp [hl]
theorem sum_ones {r:List Int} (h:∀ y∈r,0≤y∧y<2) (hs:(r.map fun x=>1-x).sum≤0):∀ y∈r,y=1:=by
 induction r with
 | nil=>simp
 | cons x r ih =>
   have h1:=h x (by simp)
   have h3:0≤(r.map fun x=>1-x).sum:=by
    clear ih hs
    induction r with
    | nil=>simp
    | cons z r ih =>
      have:=h z (by simp)
      have:=ih fun y hy=>h y (by rcases List.mem_cons.1 hy with e|e<;>simp [e])
      simp only [List.map_cons,List.sum_cons];omega
   simp only [List.map_cons,List.sum_cons] at hs
   intro y hy
   rcases List.mem_cons.1 hy with rfl|hy
   ·omega
   ·exact ih (fun z hz=>h z (by simp [hz])) (by omega) y hy
theorem ag_none (n:Nat):agP (agL [] [] n)=[]:=by
 have hc:∀ y∈lsF 2 n [],0≤(agC [] [] y).1:=fun y hy=>by
  obtain ⟨r,hr,-,h⟩:=lsF_mem.1 hy
  rw [List.nil_append] at hr
  subst hr
  simp only [agC]
  clear hy
  induction y with
  | nil=>simp
  | cons x r ih =>
    have h1:=h x (by simp)
    have h2:=ih fun z hz=>h z (by simp [hz])
    simp only [List.map_cons,List.sum_cons]
    omega
 have hI:=bestHF_I hc
 have hone:List.replicate n (1:Int)∈lsF 2 n []:=lsF_mem.2 ⟨_,(List.nil_append _).symm,by simp,fun y hy=>by rw [(List.mem_replicate.1 hy).2];omega⟩
 have hcost:agC [] [] (List.replicate n (1:Int))=(0,true):=by simp [agC]
 have hpos:¬ (bestHF (agC [] []) (lsF 2 n [])).2<0:=fun h=>by
  have:=(hI.none_ h).2 _ hone
  rw [hcost] at this;cases this
 obtain ⟨h1,h2,h3,h4⟩:=hI.some_ (by omega)
 have h5:=h4 _ hone (by rw [hcost])
 rw [hcost,h3] at h5
 obtain ⟨r,hr,hl,hr2⟩:=lsF_mem.1 h1
 rw [List.nil_append] at hr
 have h6:=sum_ones hr2 (by rw [hr] at h5;exact h5)
 rw [agP,agL,hr]
 refine List.filter_eq_nil_iff.2 fun i hi=>?_
 rw [List.mem_range] at hi
 rw [gdI,List.getD_eq_getElem?_getD,List.getElem?_eq_getElem hi,Option.getD_some,h6 _ (List.getElem_mem hi)]
 decide
end Go.Proofs.YtbafmbpmiiplkaaGreatDoor
namespace Go.Proofs.YtbafmbpmiiplkaaGreatDoor
open Go.RowKit

section
variable {P:Program} {ro:Option Nat} {n:Nat} {X:Ctx} {s:Sl} {ds:List Deferred} {w:World}
theorem W.rangeRQ {α:Type} {g:Operand} {ps:List Nat} {assign body:Code} (N:Nat) (xs:List α) (rel:α→List Value→World→Prop) {gf:Nat} {lb:List Value} (Gs:World→World→World→Prop)
  (hg:ev n s g=.func (.func gf) #[] lb.toArray) [he:Enters P gf] (hps:∀ x vs V,rel x vs V→vs.length=ps.length) (hro:RoOk w ro) (hmk:Mks N w ds) (hN:N≤w.heap.size)
  (J:Nat→World→Prop) (Jx:Code→Nat→World→Prop) (hJ:∀ i V V',J i V→Grow w.heap.size V V'→J i V') (hJx:∀ c i V V',Jx c i V→Grow w.heap.size V V'→Jx c i V')
  (hJG:∀ V1 i V V',Ext w V1→V1.heap.size≤V.heap.size→J i V→Gs V1 V V'→J i V') (hJxG:∀ V1 c i V V',Ext w V1→V1.heap.size≤V.heap.size→Jx c i V→Gs V1 V V'→Jx c i V')
  (hGt:∀ V1 V V',Ext w V1→V1.heap.size≤V.heap.size→Gs V1 V V'→V.heap.size≤V'.heap.size∧∀ (k:Nat) (o:Obj),k<V1.heap.size→V.heap[k]?=some o→Obj.loopy o=true→V'.heap[k]?=some o)
  (h0:J 0 w) (M:World→Nat→Prop) (hW3:∀ i V V' k,J i V→Grow w.heap.size V V'→M V' k→M V k∨V.heap.size≤k)
  (hit:∀ (l:Nat) (J' Jx':Nat→World→Prop) (V1:World),Ext w V1→(∀ i V,J' i V→J i V∧V1.heap.size≤V.heap.size)→(∀ i V,Jx' i V→(∃ c,Jx c i V)∧V1.heap.size≤V.heap.size) →
   (∀ i V V',J' i V→Gs V1 V V'→J' i V')→(∀ i V V',Jx' i V→Gs V1 V V'→Jx' i V') →
   (∀ i x vs V,xs[i]?=some x→rel x vs V→J' i V→Yd P l vs V fun e V'=>(e=.returned (.bool true)∧J' (i+1) V'∧Fr M V V')∨(e=.returned (.bool false)∧Jx' (i+1) V'))→J' 0 V1 →
   Calls P gf ([Value.func (.yield l) #[] #[]]++lb).toArray V1 fun e w'=>(∃ v,e=.returned v)∧(J' xs.length w'∨∃ i,i≤xs.length∧Jx' i w'))
  (A:α→Sl→World→Prop) (hA:∀ x s V V',A x s V→Grow w.heap.size V V'→A x s V')
  (hassign:∀ l i x vs V,xs[i]?=some x→rel x vs V→J i V→w.heap.size≤l→IsRec V l →
   W P (some l) n assign { nx:=fun s' ds' V'=>ds'=[]∧Tr V V'∧Fr M V V'∧J i V'∧A x s' V',rt:=fun _ _ _=>False,ex:=fun _ _ _ _=>False } (setPs s ps vs) [] V)
  (hbody:∀ l i x s' V,xs[i]?=some x→J i V→A x s' V→w.heap.size≤l→IsRec V l →
   W P (some l) n body { nx:=fun _ _ V'=>Tr V V'∧Fr M V V'∧J (i+1) V',rt:=fun _ _ V'=>Tr V V'∧Jx .ret (i+1) V',ex:=fun id _ _ V'=>Tr V V'∧Jx (.exit id) (i+1) V' } s' [] V)
  (hdone:∀ ds' V,Mks N V ds'→Tr w V→J xs.length V→X.nx s ds' V)
  (hstop:∀ ds' c i V,Mks N V ds'→Tr w V→i≤xs.length→Jx c i V→W P ro n c X s ds' V) :
  W P ro n (.rangeFunc g ps.toArray assign body) X s ds w:=by
 unfold W at hassign hbody hstop ⊢
 refine wpIn_rangeFunc ?_
 intro fn hfn
 -- the world in which the iterator is called
 have enter:∃ (l:Nat) (mark:List Deferred) (df:Nat) (V1:World) (rec:LoopState→Option Code→Loop),(∀ st pe,(rec st pe).state=st∧(rec st pe).pending=pe∧(rec st pe).fn=fn∧(rec st pe).tmps=(mkA n s ds).tmps∧(rec st pe).params=ps.toArray∧(rec st pe).assign=assign∧(rec st pe).body=body∧(rec st pe).defers=df) ∧
   (Instr.enterLoop fn (mkA n s ds).tmps ps.toArray assign body (Fw ro).round).run P w=.ok (l,mark) V1∧V1.heap[l]?=some (.loop (rec .ready none))∧w.heap.size≤l∧Ext w V1∧MksP N V1 (mark++ds):=by
  cases ro with
  | none =>
    refine ⟨_,_,w.heap.size,_,fun st pe=>{ state:=st,pending:=pe,fn,tmps:=(mkA n s ds).tmps,params:=ps.toArray,assign,body,defers:=w.heap.size },fun st pe=>⟨rfl,rfl,rfl,rfl,rfl,rfl,rfl,rfl⟩,run_enterLoop_outer _ _ _ _ _,?_,by omega,?_,?_⟩
    ·have:=World.alloc_heap_new (w.alloc (.deferred (some []))) (.loop { state:=.ready,pending:=none,fn,tmps:=(mkA n s ds).tmps,params:=ps.toArray,assign,body,defers:=w.heap.size })
     rwa [World.size_alloc] at this
    ·exact ⟨((Below.refl _ w).alloc (Nat.le_refl _) _).alloc (by simp) _⟩
    ·have hE:Ext w ((w.alloc (.deferred (some []))).alloc (.loop { state:=.ready,pending:=none,fn,tmps:=(mkA n s ds).tmps,params:=ps.toArray,assign,body,defers:=w.heap.size })):=⟨((Below.refl _ w).alloc (Nat.le_refl _) _).alloc (by simp) _⟩
     refine ⟨⟨w.heap.size,rfl,hN,?_,fun d' hd'=>?_⟩,hmk.h.tr hE.tr⟩
     ·exact (Below.heap_alloc _ _ _ (by simp)).trans (World.alloc_heap_new w _)
     ·obtain ⟨D,rfl,hlt⟩:=hmk.h.lt d' hd'
      intro e
      simp only [Deferred.mk.injEq,Target.collected.injEq,and_true] at e
      omega
  | some l0 =>
    obtain ⟨r0,hr0⟩:=(show IsRec w l0 from hro).h
    have hE:∀ o,Ext w (w.alloc o):=fun o=>⟨(Below.refl _ w).alloc (Nat.le_refl _) _⟩
    exact ⟨_,_,r0.defers,_,fun st pe=>{ state:=st,pending:=pe,fn,tmps:=(mkA n s ds).tmps,params:=ps.toArray,assign,body,defers:=r0.defers },fun st pe=>⟨rfl,rfl,rfl,rfl,rfl,rfl,rfl,rfl⟩,run_enterLoop_inner hr0 _ _ _ _ _,World.alloc_heap_new w _,by omega,hE _,hmk.h.tr (hE _).tr⟩
 obtain ⟨l,mark,df,V1,rec,hrec,hent,hL1,hl,hE1,hM1⟩:=enter
 have hE1':w.heap.size≤V1.heap.size:=hE1.size
 have hl1:l<V1.heap.size:=(Array.getElem?_eq_some_iff.1 hL1).1
 have eN:∀ st pe st' pe',({ rec st pe with state:=st',pending:=pe' }:Loop)=rec st' pe':=fun st pe st' pe'=>by
  obtain ⟨a1,a2,a3,a4,a5,a6,a7,a8⟩:=hrec st pe
  obtain ⟨b1,b2,b3,b4,b5,b6,b7,b8⟩:=hrec st' pe'
  generalize hx:rec st' pe'=y at *
  generalize hy:rec st pe=x at *
  cases x;cases y
  simp_all
 refine ⟨l,mark,V1,{ target:=.fn (.func gf) lb.toArray,args:=#[.func (.yield l) #[] #[]] },V1,gf,([Value.func (.yield l) #[] #[]]++lb).toArray,V1,hent,?_,fun _ _=>trivial,?_,fun h=>by simp [Fw,Fence.wide] at h,?_⟩
 ·simp only [resolve,mkA_eval,hg]
  simp [Deferred.ofValue,ev]
 ·have e:(#[Value.func (.yield l) #[] #[]]++lb.toArray:Array Value)=([Value.func (.yield l) #[] #[]]++lb).toArray:=by simp
  simp only [invoke]
  rw [e]
  exact he.h _ _
 have hcalls:=hit l (fun i V=>J i V∧V.heap[l]?=some (.loop (rec .ready none))∧MksP N V (mark++ds)∧Tr V1 V)
   (fun i V=>∃ c,Jx c i V∧V.heap[l]?=some (.loop (rec .done (some c)))∧MksP N V (mark++ds)∧V1.heap.size≤V.heap.size∧∀ k,k≠l→∀ o,V1.heap[k]?=some o→Obj.loopy o=true→V.heap[k]?=some o) V1 hE1
   (fun i V h=>⟨h.1,h.2.2.2.size⟩) (fun i V h=>by obtain ⟨c,h1,_,_,h5,_⟩:=h;exact ⟨⟨c,h1⟩,h5⟩)
   (fun i V V' h g=>by
    have hs:V1.heap.size≤V.heap.size:=h.2.2.2.size
    obtain ⟨t1,t2⟩:=hGt V1 V V' hE1 hs g
    exact ⟨hJG V1 i V V' hE1 hs h.1 g,t2 l _ hl1 h.2.1 rfl,h.2.2.1.trB t2 hM1.lt,⟨Nat.le_trans hs t1,fun k o hk ho=>t2 k o (Array.getElem?_eq_some_iff.1 hk).1 (h.2.2.2.keep k o hk ho) ho⟩⟩)
   (fun i V V' h g=>by
    obtain ⟨c,h1,h2,h3,h5,h4⟩:=h
    obtain ⟨t1,t2⟩:=hGt V1 V V' hE1 h5 g
    exact ⟨c,hJxG V1 c i V V' hE1 h5 h1 g,t2 l _ hl1 h2 rfl,h3.trB t2 hM1.lt,Nat.le_trans h5 t1,fun k hk o ho hlo=>t2 k o (Array.getElem?_eq_some_iff.1 ho).1 (h4 k hk o ho hlo) hlo⟩)
   ?round ⟨hJ 0 _ _ h0 (hE1.grow (Nat.le_refl _)),hL1,hM1,Tr.refl _⟩
 case round =>
  rintro i x vs V hx hrel ⟨hj,hL,hM,hT⟩
  obtain ⟨c1,c2,c3,c4,c5,c6,c7,c8⟩:=hrec .ready none
  have hy:=run_yield (P:=P) (args:=vs.toArray) hL (by rw [c5];simpa using hps x vs V hrel)
  rw [c3,c4,c5,c6,c7] at hy
  have hNl:N≤l:=by omega
  -- the record's own turns
  have turn:∀ (V:World) (st st':LoopState) (pe pe':Option Code),V.heap[l]?=some (.loop (rec st pe))→Grow w.heap.size V (V.putObj l (.loop (rec st' pe')))∧(V.putObj l (.loop (rec st' pe'))).heap[l]?=some (.loop (rec st' pe')) ∧
    (∀ k,k≠l→(V.putObj l (.loop (rec st' pe'))).heap[k]?=V.heap[k]?):=fun V st st' pe pe' h =>
   ⟨Grow.putObj _ h rfl hl,World.putObj_heap_same (Array.getElem?_eq_some_iff.1 h).1,fun k hk=>World.putObj_heap_other hk⟩
  have mks:∀ (V:World) (o':Loop),(∃ r,V.heap[l]?=some (.loop r))→∀ (dds:List Deferred),MksP N V dds→MksP N (V.putObj l (.loop o')) dds:=by
   intro V o' hW dds
   induction dds with
   | nil=>exact fun _=>trivial
   | cons d dds ih =>
     rintro ⟨⟨D,e,hD,hb,hne⟩,h⟩
     refine ⟨⟨D,e,hD,?_,hne⟩,ih h⟩
     have:D≠l:=by
      rintro rfl
      obtain ⟨r,hr⟩:=hW
      rw [hb] at hr;cases hr
     exact (World.putObj_heap_other this).trans hb
  refine ⟨fn,_,assign,body,hy,?_⟩
  have hround:RoundIn (Fw none) 0 P l fn ((ps.toArray.zip vs.toArray).foldl (fun t (p,v)=>t.setIfInBounds p v) (mkA n s ds).tmps) assign body V
    (fun e w'=>(e=.returned (.bool true)∧(J (i+1) w'∧w'.heap[l]?=some (.loop (rec .ready none))∧MksP N w' (mark++ds)∧Tr V1 w')∧Fr M V w') ∨
     (e=.returned (.bool false)∧∃ c,Jx c (i+1) w'∧w'.heap[l]?=some (.loop (rec .done (some c)))∧MksP N w' (mark++ds)∧V1.heap.size≤w'.heap.size∧∀ k,k≠l→∀ o,V1.heap[k]?=some o→Obj.loopy o=true→w'.heap[k]?=some o)):=by
   refine roundIn_of_wpIn trivial ?_
   have hact:=setPs_mkA n ps vs s ds
   rw [hact]
   refine wpIn_mono (hassign l i x vs V hx hrel hj hl ⟨_,hL⟩) fun e a w1 hp=>?_
   cases e with
   | ret=>obtain ⟨_,_,_,h⟩:=hp;exact h.elim
   | exit i=>obtain ⟨_,_,_,h⟩:=hp;exact h.elim
   | goto l=>exact hp.elim
   | panic c=>exact hp.elim
   | outgrown=>exact hp.elim
   | normal =>
     obtain ⟨s',ds',rfl,rfl,ht1,hf1,hj1,hA1⟩:=hp
     have hLw1:=ht1.keep l _ hL rfl
     have hb:=run_beginRound (P:=P) hLw1 c1
     have hb':({ rec .ready none with state:=.busy }:Loop)=rec .busy none:=by
      have:=eN .ready none .busy none
      rw [←this];simp [c2]
     rw [hb'] at hb
     obtain ⟨g2,hL2,ho2⟩:=turn w1 .ready .busy none none hLw1
     refine ⟨_,hb,?_⟩
     have hM2:=mks w1 (rec .busy none) ⟨_,hLw1⟩ _ (hM.tr ht1)
     refine wpIn_mono (hbody l i x s' _ hx (hJ _ _ _ hj1 g2) (hA _ _ _ _ hA1 g2) hl ⟨_,hL2⟩) fun e a w3 hp=>?_
     have fin:∀ (jump:Option Code),Tr (w1.putObj l (.loop (rec .busy none))) w3 →
       (Instr.endRound l jump).run P w3=.ok (.bool jump.isNone) (w3.putObj l (.loop (rec (if jump.isNone then .ready else .done) jump))) ∧
       Grow w.heap.size w3 (w3.putObj l (.loop (rec (if jump.isNone then .ready else .done) jump))) ∧
       (w3.putObj l (.loop (rec (if jump.isNone then .ready else .done) jump))).heap[l]?=some (.loop (rec (if jump.isNone then .ready else .done) jump)) ∧
       MksP N (w3.putObj l (.loop (rec (if jump.isNone then .ready else .done) jump))) (mark++ds) ∧
       (∀ k,k≠l→∀ o,V1.heap[k]?=some o→Obj.loopy o=true→(w3.putObj l (.loop (rec (if jump.isNone then .ready else .done) jump))).heap[k]?=some o):=fun jump ht3=>by
      have hL3:=ht3.keep l _ hL2 rfl
      have hr:=run_endRound (P:=P) jump hL3
      rw [eN] at hr
      obtain ⟨g4,hL4,ho4⟩:=turn w3 .busy (if jump.isNone then .ready else .done) none jump hL3
      refine ⟨hr,g4,hL4,mks _ _ ⟨_,hL3⟩ _ (hM2.tr ht3),fun k hk o ho hlo=>?_⟩
      rw [ho4 k hk]
      refine ht3.keep k o ?_ hlo
      rw [ho2 k hk]
      exact ht1.keep k o (hT.keep k o ho hlo) hlo
     cases e with
     | normal =>
       obtain ⟨_,_,_,ht3,hf3,hj3⟩:=hp
       obtain ⟨hr,g4,hL4,hM4,ho4⟩:=fin none ht3
       refine ⟨_,_,hr,.inl ⟨rfl,⟨hJ _ _ _ hj3 g4,hL4,hM4,⟨?_,fun k o ho hlo=>?_⟩⟩,hf1.trans ((Fr.ofGrow g2 fun k=>hW3 i _ _ k hj1 g2).trans (hf3.trans (Fr.ofGrow g4 fun k=>hW3 (i+1) _ _ k hj3 g4)))⟩⟩
       ·exact Nat.le_trans hT.size (Nat.le_trans ht1.size (Nat.le_trans g2.size (Nat.le_trans ht3.size g4.size)))
       ·by_cases e:k=l
        ·subst e
         rw [hL1] at ho;cases ho
         exact hL4
        ·exact ho4 k e o ho hlo
     | ret =>
       obtain ⟨_,_,_,ht3,hj3⟩:=hp
       obtain ⟨hr,g4,hL4,hM4,ho4⟩:=fin (some .ret) ht3
       exact ⟨_,_,hr,.inr ⟨rfl,.ret,hJx _ _ _ _ hj3 g4,hL4,hM4,Nat.le_trans hT.size (Nat.le_trans ht1.size (Nat.le_trans g2.size (Nat.le_trans ht3.size g4.size))),ho4⟩⟩
     | exit id =>
       obtain ⟨_,_,_,ht3,hj3⟩:=hp
       obtain ⟨hr,g4,hL4,hM4,ho4⟩:=fin (some (.exit id)) ht3
       exact ⟨_,_,hr,.inr ⟨rfl,.exit id,hJx _ _ _ _ hj3 g4,hL4,hM4,Nat.le_trans hT.size (Nat.le_trans ht1.size (Nat.le_trans g2.size (Nat.le_trans ht3.size g4.size))),ho4⟩⟩
     | goto l=>exact hp.elim
     | panic c=>exact hp.elim
     | outgrown=>exact hp.elim
  exact hround
 have hc:=(callsIn_wide (n:=0)).2 hcalls
 refine CallsIn.mono (F:=Fw ro) (n:=0-1) hc fun e V2 hR=>?_
 obtain ⟨⟨v,rfl⟩,hR⟩:=hR
 have trw:∀ (o:Loop) (V2:World),V1.heap.size≤V2.heap.size→(∀ k,k≠l→∀ o,V1.heap[k]?=some o→Obj.loopy o=true→V2.heap[k]?=some o)→Tr w (V2.putObj l (.loop o)):=fun o V2 hsz h4 =>
  ⟨by simp;omega,fun k ob hk hlo=>by
   have hkw:k<w.heap.size:=(Array.getElem?_eq_some_iff.1 hk).1
   have:k≠l:=by omega
   rw [World.putObj_heap_other this]
   exact h4 k this ob (hE1.block' hk) hlo⟩
 have mks2:∀ (V:World) (o':Loop),(∃ r,V.heap[l]?=some (.loop r))→∀ (dds:List Deferred),MksP N V dds→MksP N (V.putObj l (.loop o')) dds:=by
  intro V o' hW dds
  induction dds with
  | nil=>exact fun _=>trivial
  | cons d dds ih =>
    rintro ⟨⟨D,e,hD,hb,hne⟩,h⟩
    refine ⟨⟨D,e,hD,?_,hne⟩,ih h⟩
    have:D≠l:=by
     rintro rfl
     obtain ⟨r,hr⟩:=hW
     rw [hb] at hr;cases hr
    exact (World.putObj_heap_other this).trans hb
 rcases hR with ⟨hj,hL,hM,hT⟩|⟨i,hi,c,hj,hL,hM,hsz,hT⟩
 ·have hr:=run_endLoop (P:=P) hL (by rw [(hrec .ready none).1];simp)
  rw [(hrec .ready none).2.1] at hr
  refine ⟨none,_,hr,?_⟩
  have g:∀ o':Loop,Grow w.heap.size V2 (V2.putObj l (.loop o')):=fun o'=>Grow.putObj _ hL rfl hl
  exact ⟨s,_,rfl,hdone _ _ ⟨mks2 _ _ ⟨_,hL⟩ _ hM⟩ (trw _ _ hT.size (fun k _ o ho hlo=>hT.keep k o ho hlo)) (hJ _ _ _ hj (g _))⟩
 ·have hr:=run_endLoop (P:=P) hL (by rw [(hrec .done (some c)).1];simp)
  rw [(hrec .done (some c)).2.1] at hr
  refine ⟨some c,_,hr,?_⟩
  have g:∀ o':Loop,Grow w.heap.size V2 (V2.putObj l (.loop o')):=fun o'=>Grow.putObj _ hL rfl hl
  exact hstop _ c i _ ⟨mks2 _ _ ⟨_,hL⟩ _ hM⟩ (trw _ _ hsz hT) hi (hJx _ _ _ _ hj (g _))

end

section
variable {P:Program} {ro:Option Nat} {n:Nat} {all:List Oper} {S:World→Prop} {K:Sl→World→Prop}
theorem Ops1.mono {o:Oper} {s:Sl} {w:World} {K K':Sl→World→Prop} (h:Ops P ro n all [o] K s w) (hk:∀ s w,K s w→K' s w):Ops P ro n all [o] K' s w:=by
 rw [op1_ops] at h ⊢
 exact h.mono fun v w' h=>hk _ _ h
theorem upd_swap {s:Sl} {d1 d2:Nat} {v1 v2:Value} (h:d1≠d2):upd (upd s d2 v2) d1 v1=upd (upd s d1 v1) d2 v2:=by
 funext i
 simp only [upd]
 cases h1:Nat.beq i d1<;>cases h2:Nat.beq i d2<;>simp only [cond_true,cond_false]
 rw [Nat.eq_of_beq_eq_true h1] at h2
 exact absurd (Nat.eq_of_beq_eq_true h2) h
end

theorem Clone_int (a:Option Addr) (c:Nat) (l:List Int) (w:World) (hl:l.length≤1000000) [hrow:RowI w (.slice a l.length c) false 1 (l.map intV)] :
  Ct Tryz.prog 109 [.slice a l.length c] w fun v w'=>OwnL w' w.heap.size 3 false 1 v (l.map intV):=by
 refine Ct.ofW (by simp) ?_
 (refine jjB (jjC (jJ (eS rfl) (jz (jjB (jjB ?_)))));refine jjC (jI (eS rfl) ?_))
 refine Ops.eqlNil rfl rfl ?_
 repeat' (first|(apply jJ;exact eS rfl)|refine jz ?_|(refine jjA ?_;(first|refine jjB ?_|refine jjC ?_|refine jjF ?_|refine jjG ?_))|(refine jjA ?_;(refine jjO rfl ?_ ?_<;>intro _))|refine jB rfl rfl ⟨inferInstance,?_⟩)
 ·obtain rfl:a=none:=by cases a with
   | none=>rfl
   | some x=>cases ‹(some x).isNone=true›
  have e:l=[]:=by have:=row_none hrow.h;simpa using this
  subst e
  exact OwnL.nil _ _ _ _ _
 ·refine Ops.buildSlice0 ?_
  intro b3 w4 hb3 hs4 hS4 hk4
  have hO4:=OwnL.empty (agg:=false) (k:=1) (B:=w.heap.size) (by omega) hk4
  (apply jI;exact eS rfl)
  refine Ops.appendL hO4 (by omega) (hrow.h.ext inferInstance) rfl rfl rfl rfl (all_ints' l) ?_ ?_ ?_
  ·simp only [List.length_map,List.length_nil];omega
  ·simp only [List.length_map,List.length_nil];omega
  intro v5 w5 hA hO5 _ _
  rw [List.nil_append] at hO5
  have hE5:Ext w w5:=hA.ext inferInstance (Nat.le_refl _)
  have hS5:=hE5.toStep
  (refine jJ rfl (jz (jjF ?_));refine jB rfl rfl ⟨inferInstance,?_⟩)
  exact hO5
end Go.Proofs.YtbafmbpmiiplkaaGreatDoor
