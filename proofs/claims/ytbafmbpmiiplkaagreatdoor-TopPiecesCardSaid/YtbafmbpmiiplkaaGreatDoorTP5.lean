/- Texts of the proof, part 5: Hd5, Hd6, Hd7, Hd8, Hd9, HdA, HdB, Ch1, ReadH, ReadN, KeyA, Ap1, Ap2, HdC, HdE, HdF, Hg1, Hg2, Hg3, Hg4, Hg5, Hg6. -/
import Derived.Deep.Strs
import Derived.Test.YtbafmbpmiiplkaaGreatDoorTP4
namespace Go.Proofs.YtbafmbpmiiplkaaGreatDoor
open Go.RowKit

section
variable {P:Program} {ro:Option Nat} {n:Nat} {all:List Oper} {S:World→Prop} {K:Sl→World→Prop}
theorem AnyS.joinT {α β:Type} (i j:Nat) {o q:Oper} {fuel:Nat} {listed:Array Bool} {s:Sl} {w:World} {d1 d2:Nat} (hne:d1≠d2) (f1:α→Value) (f2:β→Value) (F:α→β→World→Prop)
  (hr:(Nat.blt 1 fuel && (Region.ready .any all.toArray listed == [i,j]) && (Region.ready .any all.toArray (listed.setIfInBounds i true) == [j]) && (Region.ready .any all.toArray (listed.setIfInBounds j true) == [i]) && ((listed.setIfInBounds j true).setIfInBounds i true == (listed.setIfInBounds i true).setIfInBounds j true))=true)
  (ho:all[i]?=some o) (hq:all[j]?=some q) (hS:S w)
  (h1:Ops P ro n all [o] (fun s1 w1=>S w1∧Ops P ro n all [q] (fun s2 w2=>∃ b1 b2,s2=upd (upd s d1 (f1 b1)) d2 (f2 b2)∧F b1 b2 w2) s1 w1) s w)
  (h2:Ops P ro n all [q] (fun s1 w1=>S w1∧Ops P ro n all [o] (fun s2 w2=>∃ b1 b2,s2=upd (upd s d2 (f2 b2)) d1 (f1 b1)∧F b1 b2 w2) s1 w1) s w)
  (hk:∀ b1 b2 w2,F b1 b2 w2→AnyS P ro n all S K (fuel-1-1) ((listed.setIfInBounds i true).setIfInBounds j true) (upd (upd s d1 (f1 b1)) d2 (f2 b2)) w2):AnyS P ro n all S K fuel listed s w:=by
 simp only [Bool.and_eq_true,beq_iff_eq] at hr
 obtain ⟨⟨⟨⟨hf,r1⟩,r2⟩,r3⟩,r4⟩:=hr
 have hf:1<fuel:=by simpa using hf
 refine jjl i j (by simp [r1];omega) ho hq hS (Ops1.mono h1 fun s1 w1 ⟨g1,g2⟩=>jjW j (by simp [r2];omega) hq g1 (Ops1.mono g2 ?_)) (Ops1.mono h2 fun s1 w1 ⟨g1,g2⟩=>jjW i (by simp [r3];omega) ho g1 (Ops1.mono g2 ?_))
 ·rintro s2 w2 ⟨b1,b2,rfl,hF⟩
  exact hk b1 b2 w2 hF
 ·rintro s2 w2 ⟨b1,b2,rfl,hF⟩
  rw [r4,upd_swap hne]
  exact hk b1 b2 w2 hF
end
def IterN {α:Type} (P:Program) (gf:Nat) (lb:List Value) (xs:List α) (rel:α→List Value→World→Prop) (Fct:World→Prop):Prop :=
 ∀ (l:Nat) (J:Nat→World→Prop) (M:World→Nat→Prop) (w:World),(∀ i w w',J i w→Ext w w'→J i w')→(∀ i w,J i w→Fct w) →
  (∀ i w k,J i w→M w k→k<w.heap.size)→(∀ i w w' k,J i w→Ext w w'→M w' k→M w k) →
  (∀ i x vs w,xs[i]?=some x→rel x vs w→J i w→Yd P l vs w fun e w'=>e=.returned (.bool true)∧J (i+1) w'∧Fr M w w')→J 0 w →
  Calls P gf ([Value.func (.yield l) #[] #[]]++lb).toArray w fun e w'=>(∃ v,e=.returned v)∧J xs.length w'
theorem Yd.mono' {P:Program} {l:Nat} {args:List Value} {w:World} {R R':Ending→World→Prop} (h:Yd P l args w R) (hr:∀ e w',R e w'→R' e w'):Yd P l args w R':=by
 obtain ⟨fn,tmps,assign,body,h1,h2⟩:=h
 exact ⟨fn,tmps,assign,body,h1,h2.mono hr⟩
section
variable {P:Program} {ro:Option Nat} {n:Nat} {X:Ctx} {s:Sl} {ds:List Deferred} {w:World}
theorem W.rangeMN {α:Type} {g:Operand} {ps:List Nat} {assign body:Code} (N:Nat) (xs:List α) (rel:α→List Value→World→Prop) {Fct:World→Prop} {gf:Nat} {lb:List Value}
  (hit:IterN P gf lb xs rel Fct) (hg:ev n s g=.func (.func gf) #[] lb.toArray) [he:Enters P gf] (hps:∀ x vs V,rel x vs V→vs.length=ps.length) (hro:RoOk w ro) (hmk:Mks N w ds) (hN:N≤w.heap.size)
  (J:Nat→World→Prop) (hJ:∀ i V V',J i V→Grow w.heap.size V V'→J i V')
  (hF:∀ i V,J i V→Fct V) (h0:J 0 w) (M:World→Nat→Prop) (hW1:∀ i V k,J i V→M V k→k<V.heap.size) (hW2:∀ i V V' k,J i V→Grow w.heap.size V V'→M V' k→M V k) (hW3:∀ V V' k,Grow w.heap.size V V'→M V' k→M V k∨V.heap.size≤k)
  (A:α→Sl→World→Prop) (hA:∀ x s V V',A x s V→Grow w.heap.size V V'→A x s V')
  (hassign:∀ l i x vs V,xs[i]?=some x→rel x vs V→J i V→w.heap.size≤l→IsRec V l →
   W P (some l) n assign { nx:=fun s' ds' V'=>ds'=[]∧Tr V V'∧Fr M V V'∧J i V'∧A x s' V',rt:=fun _ _ _=>False,ex:=fun _ _ _ _=>False } (setPs s ps vs) [] V)
  (hbody:∀ l i x s' V,xs[i]?=some x→J i V→A x s' V→w.heap.size≤l→IsRec V l →
   W P (some l) n body { nx:=fun _ _ V'=>Tr V V'∧Fr M V V'∧J (i+1) V',rt:=fun _ _ V'=>Tr V V'∧False,ex:=fun _ _ _ V'=>Tr V V'∧False } s' [] V)
  (hdone:∀ ds' V,Mks N V ds'→Tr w V→J xs.length V→X.nx s ds' V) :
  W P ro n (.rangeFunc g ps.toArray assign body) X s ds w :=
 W.rangeRQ N xs rel (fun _ V V'=>Ext V V') hg hps hro hmk hN J (fun _ _ _=>False) hJ (fun _ _ _ _ h _=>h) (fun V1 i V V' hE hs h e=>hJ i V V' h (e.grow (Nat.le_trans hE.size hs))) (fun _ _ _ _ _ _ _ h _=>h)
  (fun V1 V V' hE hs e=>⟨e.size,fun k o _ hk _=>e.block' hk⟩) h0 M (fun _ V V' k _ e h=>hW3 V V' k e h)
  (fun l J' Jx' V1 hE h1 h2 h3 h4 hY h0'=>(hit l J' M V1 h3 (fun i V h=>hF i V (h1 i V h).1) (fun i V k h hm=>hW1 i V k (h1 i V h).1 hm) (fun i V V' k h e hm=>hW2 i V V' k (h1 i V h).1 (e.grow (Nat.le_trans hE.size (h1 i V h).2)) hm)
   (fun i x vs V hx hr hj=>(hY i x vs V hx hr hj).mono' fun e V' h=>h.resolve_right fun h'=>(h2 _ _ h'.2).1.elim fun _ h=>h) h0').mono fun e w' h=>⟨h.1,.inl h.2⟩)
  A hA hassign hbody hdone (fun _ _ _ _ _ _ _ h=>h.elim)
end
def flK (b m:Nat) (x:List Int) (k:Nat):List (List Int):=(List.range k).flatMap fun (n:Nat)=>lsF b m (x++[(n:Int)])
theorem flK_succ (b m:Nat) (x:List Int) (k:Nat):flK b m x (k+1)=flK b m x k++lsF b m (x++[(k:Int)]):=by simp [flK,List.range_succ]
theorem flK_pre (b m:Nat) (x:List Int) (k:Nat):∀ j,k≤j→∃ r,flK b m x j=flK b m x k++r:=fun j=>by
 induction j with
 | zero=>intro h;obtain rfl:k=0:=by omega
         exact ⟨[],by simp⟩
 | succ j ih =>
   intro h
   by_cases e:k=j+1
   ·subst e;exact ⟨[],by simp⟩
   ·obtain ⟨r,hr⟩:=ih (by omega)
    exact ⟨r++lsF b m (x++[(j:Int)]),by rw [flK_succ,hr,List.append_assoc]⟩
theorem flK_get {b m:Nat} {x:List Int} {k t:Nat} {y:List Int} (hk:k<b) (h:(lsF b m (x++[(k:Int)]))[t]?=some y):(lsF b (m+1) x)[(flK b m x k).length+t]?=some y:=by
 obtain ⟨r,hr⟩:=flK_pre b m x (k+1) b (by omega)
 have e:lsF b (m+1) x=flK b m x b:=rfl
 have ht:=(List.getElem?_eq_some_iff.1 h).1
 rw [e,hr,flK_succ,List.append_assoc,List.getElem?_append_right (Nat.le_add_right _ _),Nat.add_sub_cancel_left,List.getElem?_append_left ht]
 exact h
structure MoreF (M:World→Nat→Prop) (l b1 by_ b2 bm:Nat) (w:World):Prop where
 ay:At w by_ 0 [.func (.yield l) #[] #[]]
 am:At w bm 0 [.func (.func 108) #[] [Value.pointer (some ⟨b1,0,none⟩),.pointer (some ⟨by_,0,none⟩),.pointer (some ⟨b2,0,none⟩),.pointer (some ⟨bm,0,none⟩)].toArray]
 ny:¬ M w by_
 nm:¬ M w bm
theorem At.fr {M:World→Nat→Prop} {w w':World} {b o:Nat} {cs:List Value} (h:At w b o cs) (f:Fr M w w') (hn:¬ M w b):At w' b o cs:=⟨fun i v hv=>by
 have hc:=h.h i v hv
 obtain ⟨ob,hb,hd⟩:=cell_block hc
 have:=f.keep b ob hb hd hn
 rw [←hc]
 exact World.cell?_of_block (a:=⟨b,o+i,none⟩) (this.trans hb.symm)⟩
theorem MoreF.fr {M:World→Nat→Prop} {l b1 by_ b2 bm:Nat} {w w':World} (h:MoreF M l b1 by_ b2 bm w) (f:Fr M w w'):MoreF M l b1 by_ b2 bm w':=by
 have lt:∀ {b cs},At w b 0 cs→cs≠[]→¬ M w b→¬ M w' b:=fun {b cs} hA hne hn hM=>by
  rcases f.own b hM with h1|h1
  ·exact hn h1
  ·cases cs with
   | nil=>exact hne rfl
   | cons c cs=>have:=hA.lt;omega
 exact ⟨h.ay.fr f h.ny,h.am.fr f h.nm,lt h.ay (by simp) h.ny,lt h.am (by simp) h.nm⟩
abbrev relL (N:Nat) (x:List Int) (vs:List Value) (w:World):Prop:=∃ a c,vs=[.slice a x.length c]∧OwnL w N 3 false 1 (.slice a x.length c) (x.map intV)
section
variable {xs:List (List Int)} (N l b1 by_ b2 bm size bound:Nat) (J:Nat→World→Prop) (M:World→Nat→Prop)
set_option maxHeartbeats 4000000 in
theorem more_hand (hsz:size≤1000) (hbd:bound≤1000) (hJ:∀ i w w',J i w→Ext w w'→J i w') (hFc:∀ i w,J i w→(At w b1 0 [.int .i64 (size:Int)]∧At w b2 0 [.int .i64 (bound:Int)])∧N≤w.heap.size)
  (hM1:∀ i w k,J i w→M w k→k<w.heap.size) (hM2:∀ i w w' k,J i w→Ext w w'→M w' k→M w k)
  (hY:∀ i x vs w,xs[i]?=some x→relL N x vs w→J i w→Yd Tryz.prog l vs w fun e w'=>e=.returned (.bool true)∧J (i+1) w'∧Fr M w w') :
  ∀ (m:Nat) (x:List Int) (i0:Nat) (a:Option Addr) (c:Nat) (V:World),x.length+m=size→(∀ t y,(lsF bound m x)[t]?=some y→xs[i0+t]?=some y)→J i0 V→MoreF M l b1 by_ b2 bm V →
   OwnL V N 3 false 1 (.slice a x.length c) (x.map intV)→(∀ g,(Value.slice a x.length c).ownBlock=some g→¬ M V g) →
   Calls Tryz.prog 108 [.slice a x.length c,.pointer (some ⟨b1,0,none⟩),.pointer (some ⟨by_,0,none⟩),.pointer (some ⟨b2,0,none⟩),.pointer (some ⟨bm,0,none⟩)].toArray V fun e V' =>
    e=.returned (.bool true)∧J (i0+(lsF bound m x).length) V'∧Fr M V V'
 | 0,x,i0,a,c,V,hl,hx,hj,hF,hO,hn=>by
   have h0:=hx 0 x rfl
   have:=(hFc _ _ hj).1.1
   have:=hF.ay
   refine Calls.ofW (by simp) ?_
   have hxl:(x.length:Int)=(size:Int):=by omega
   (refine jjB (jjC (jJ (eB rfl) (jz (jjB (jjB ?_)))));refine jjC (jI (eS rfl) (jh rfl (jN rfl rfl rfl (jjh rfl rfl (by omega) (jz ?_)))));refine jjJ rfl (jjB (jjC (jN rfl rfl rfl (jI (eS rfl) ?_)))))
   refine Ops.yield (hY _ _ _ _ h0 ⟨_,_,rfl,hO⟩ hj) rfl rfl ?_
   rintro e V' ⟨rfl,h1,h2⟩
   refine ⟨_,rfl,?_⟩
   (refine jJ (eB rfl) (jz (jjF ?_)))
   exact jB rfl rfl ⟨rfl,h1,h2⟩
 | m+1,x,i0,a,c,V,hl,hx,hj,hF,hO,hn=>by
   have ih:=more_hand hsz hbd hJ hFc hM1 hM2 hY m
   have:=(hFc _ _ hj).1.1
   have:=(hFc _ _ hj).1.2
   refine Calls.ofW (by simp) ?_
   have hxl:¬ (x.length:Int)=(size:Int):=by omega
   (refine jjB (jjC (jJ (eB rfl) (jz (jjB (jjB ?_)))));refine jjC (jI (eS rfl) (jh rfl (jN rfl rfl rfl (jji rfl rfl (by omega) (jz ?_)))));refine jjK rfl (jjG (jjB (jjB (jjC (jN rfl rfl rfl ?_)))));refine jI (eI rfl) (jz (jjD ?_)))
   refine W.keep0 [(0,.slice a x.length c),(1,.pointer (some ⟨b1,0,none⟩)),(2,.pointer (some ⟨by_,0,none⟩)),(3,.pointer (some ⟨b2,0,none⟩)),(4,.pointer (some ⟨bm,0,none⟩)),(15,.int .i64 (bound:Int)),(16,.int .i64 ((0:Nat):Int))] ⟨eS rfl,eP rfl,eP rfl,eP rfl,eP rfl,eI rfl,eI rfl,trivial⟩ fun s0=>?_
   refine W.loopG (17::18::7::19::20::21::22::23::24::25::26::6::27::16::[]) (fun g s' V2=>∃ k:Nat,s' 16=.int .i64 (k:Int)∧g=bound-k∧k≤bound∧J (i0+(flK bound m x k).length) V2∧Fr M V V2) bound ⟨0,rfl,rfl,Nat.zero_le _,hj,Fr.refl _ _⟩ ?_
   rintro _ sd V2 ⟨k,h16,rfl,hk,hj2,hf2⟩
   refine W.fix h16 ?_
   clear h16
   by_cases hk1:k<bound
   rotate_left
   ·obtain rfl:k=bound:=by omega
    (refine jjB (jjC (jja rfl rfl (by omega) (jz (jjB (jjK rfl ?_)))));refine jjE (jjB (jjC (jJ (eB rfl) (jz (jjF ?_))))))
    exact jB rfl rfl ⟨rfl,hj2,hf2⟩
   have hF2:=hF.fr hf2
   have:=(hFc _ _ hj2).1.1
   have:=(hFc _ _ hj2).1.2
   have zN:=(hFc _ _ hj2).2
   have:=hF2.am
   have hO2:OwnL V2 N 3 false 1 (.slice a x.length c) (x.map intV):=hO.fr hf2 hn
   have i2:RowI V2 (.slice a x.length c) false 1 (x.map intV):=⟨hO2.row⟩
   (refine jjB (jjC (jjZ rfl rfl (by omega) (jz (jjB (jjJ rfl ?_)))));refine jjG (jjB (jjD (jjB (jjC (jI (eI rfl) ?_)))));refine jJ (eI rfl) (jz (jjB ?_)))
   have fE:∀ w',Ext V2 w'→Fr M V2 w':=fun w' e=>Fr.ofExt e fun g hg=>.inl (hM2 _ _ _ _ hj2 e hg)
   refine W.draw (fun w'=>Fr M V2 w') ?_
   intro w1 hS1
   refine jjV [0,1,3] (by decide +kernel) (fE _ hS1.ext) ?_
   (((apply jjT;exact rfl;rintro w' hq;have:=hF2.am.fr hq hF2.nm;refine jN rfl rfl rfl (jz ?_);exact ⟨rfl,rfl⟩;apply jjT;exact rfl;rintro w' hq;have:=hF2.am.fr hq hF2.nm;refine jI (eS rfl) (jz ?_);exact ⟨rfl,rfl⟩;apply jjT;exact rfl;rintro w' hq;have:=hF2.am.fr hq hF2.nm;refine jI (eI rfl) (jz ?_);exact ⟨rfl,rfl⟩;refine jjU ?_)))
   refine AnyS.joinT 2 4 (d1:=21) (d2:=23) (by decide) (fun p:Option Addr×Nat=>.slice p.1 x.length p.2) (fun b:Nat=>.slice (some ⟨b,0,none⟩) 1 1) (fun p b w2=>Ext V2 w2∧OwnL w2 V2.heap.size 3 false 1 (.slice p.1 x.length p.2) (x.map intV)∧RowV w2 false 1 (.slice (some ⟨b,0,none⟩) 1 1) [.int .i64 (k:Int)]) (by decide +kernel) rfl rfl (fE _ hS1.ext) ?_ ?_ ?_
   ·refine jjQ (Clone_int a c x _ (by omega)) rfl rfl ?_
    rintro v3 w3 hS3 hO3
    obtain ⟨a3,c3,rfl⟩:=hO3.slice
    rw [List.length_map] at hO3 ⊢
    have z1:=hS1.size
    refine jz ⟨fE _ (hS1.ext.trans hS3.ext),?_⟩
    (refine jjP (v:=.int _ _) rfl (by exact rfl) (by exact rfl) (by exact rfl) (by exact rfl) ?_;intro b23 w_b23 hb_b23 hs_b23 hS_b23 hk_b23;have hR_b23:=RowV.one (agg:=false) (k:=1) rfl hk_b23)
    exact jz ⟨(a3,c3),b23,rfl,hS1.ext.trans (hS3.ext.trans hS_b23.ext),(hO3.ext hS_b23.ext).mono (by omega),hR_b23⟩
   ·(refine jjP (v:=.int _ _) rfl (by exact rfl) (by exact rfl) (by exact rfl) (by exact rfl) ?_;intro b23 w_b23 hb_b23 hs_b23 hS_b23 hk_b23;have hR_b23:=RowV.one (agg:=false) (k:=1) rfl hk_b23)
    have z1:=hS1.size
    have z2:=hS_b23.size
    refine jz ⟨fE _ (hS1.ext.trans hS_b23.ext),?_⟩
    refine jjQ (Clone_int a c x _ (by omega)) rfl rfl ?_
    rintro v3 w3 hS3 hO3
    obtain ⟨a3,c3,rfl⟩:=hO3.slice
    rw [List.length_map] at hO3 ⊢
    exact jz ⟨(a3,c3),b23,rfl,hS1.ext.trans (hS_b23.ext.trans hS3.ext),hO3.mono (by omega),hR_b23.ext hS3.ext⟩
   rintro ⟨a3,c3⟩ b23 w2 ⟨hE2,hO3,hR23⟩
   have zE2:=hE2.size
   (apply jjW 5;(decide +kernel);exact rfl;(exact (fE _ hE2)))
   refine Ops.appendL hO3 (by omega) hR23 rfl rfl rfl rfl rfl ?_ ?_ ?_
   ·rw [List.length_map];simp only [List.length_cons,List.length_nil];omega
   ·rw [List.length_map];simp only [List.length_cons,List.length_nil];omega
   intro v5 w5 hA5 hO5 _ _
   obtain ⟨a5,c5,rfl⟩:=hO5.slice
   have hE5:Ext V2 w5:=hA5.ext hE2 (Nat.le_refl _)
   have ek:x.map intV++[Value.int .i64 (k:Int)]=(x++[(k:Int)]).map intV:=by simp
   have el:(x.map intV++[Value.int .i64 (k:Int)]).length=(x++[(k:Int)]).length:=by simp
   rw [el,ek] at hO5
   rw [el]
   have hj5:=hJ _ _ _ hj2 hE5
   have hn5:∀ g,M w5 g→g<V2.heap.size:=fun g hg=>hM1 _ _ _ hj2 (hM2 _ _ _ _ hj2 hE5 hg)
   have f5:=fE _ hE5
   refine jz ?_
   (apply jjW 6;(decide +kernel);exact rfl;(exact (fE _ hE5)))
   refine Ops.callR rfl (Enters.h (P:=Tryz.prog) (g:=108)) rfl (ih (x++[(k:Int)]) (i0+(flK bound m x k).length) a5 c5 w5 (by rw [List.length_append];simp only [List.length_cons,List.length_nil];omega) (fun t y h=>by rw [Nat.add_assoc];exact hx _ _ (flK_get hk1 h)) hj5 (hF2.fr f5) (hO5.mono (by omega)) (fun g hg hM=>by have:=hn5 g hM;have:=(hO5.block g hg).1;omega)) ?_
   rintro e V' ⟨rfl,h1,h2⟩
   refine ⟨_,rfl,?_⟩
   refine jz ?_
   have f6:=f5.trans h2
   refine jjV [7] (by decide +kernel) f6 ?_
   (((refine jjT rfl (fun _ _=>jp rfl (jz ⟨rfl,rfl⟩)) (jjU ?_))))
   refine jjX (by decide +kernel) f6 ?_
   (refine jjK rfl (jjG (jjC (jY rfl rfl (by omega) (jI (eI rfl) (jz ?_))))))
   refine ⟨rfl,by (((iterate 14 refine Same.upd rfl ?_);exact Same.ovN)),bound-(k+1),by omega,k+1,congrArg (Value.int .i64) (by omega),rfl,by omega,?_,hf2.trans f6⟩
   rw [flK_succ,List.length_append,←Nat.add_assoc]
   exact h1
end
set_option maxHeartbeats 4000000 in
theorem lists1_hand (N b1 b2 size bound:Nat) (hsz:size≤1000) (hbd:bound≤1000):IterN Tryz.prog 107 [.pointer (some ⟨b1,0,none⟩),.pointer (some ⟨b2,0,none⟩)] (lsF bound size []) (relL N) (fun w=>(At w b1 0 [.int .i64 (size:Int)]∧At w b2 0 [.int .i64 (bound:Int)])∧N≤w.heap.size):=by
 intro l J M w hJ hF hM1 hM2 hY h0
 refine Calls.ofW (by simp) ?_
 (refine jjB (jjC ?_))
 (refine jy rfl ?_;intro b3 w_b3 hb_b3 hs_b3 hS_b3 hk_b3;have hA_b3:=At.ofBlock hk_b3)
 (refine jz (jjB (jjC ?_)))
 ((skip);refine jjY ?_;intro b4 w_b4 hb_b4 hs_b4 hS_b4 hk_b4;have hA_b4:=Bk.of hk_b4)
 (refine jz (jjB (jjC (jv ?_))))
 refine Ops.store rfl rfl rfl rfl rfl ?_
 intro w5 hp5
 have hA4:At w5 b4 0 [.func (.func 108) #[] [Value.pointer (some ⟨b1,0,none⟩),.pointer (some ⟨b3,0,none⟩),.pointer (some ⟨b2,0,none⟩),.pointer (some ⟨b4,0,none⟩)].toArray]:=Bk.toAt (h:=⟨hp5.new⟩)
 have z4:=hS_b4.size
 have hE5:Ext w w5:=hp5.ext (hS_b3.ext.trans hS_b4.ext) (by have:=hS_b3.size;omega)
 have hA3:At w5 b3 0 [.func (.yield l) #[] #[]]:=hp5.at_ ((At.ofBlock hk_b3).ext hS_b4.ext) (by omega)
 (refine jz (jjC (jN rfl rfl rfl ?_)))
 have hj5:=hJ _ _ _ h0 hE5
 have hn5:∀ g,M w5 g→g<w.heap.size:=fun g hg=>hM1 _ _ _ h0 (hM2 _ _ _ _ h0 hE5 hg)
 refine Ops.callR rfl (Enters.h (P:=Tryz.prog) (g:=108)) rfl (more_hand N l b1 b3 b2 b4 size bound J M hsz hbd hJ hF hM1 hM2 hY size [] 0 none 0 w5 (by simp) (fun t y h=>by rw [Nat.zero_add];exact h) hj5 ⟨hA3,hA4,fun h=>by have:=hn5 _ h;omega,fun h=>by have:=hn5 _ h;omega⟩ (OwnL.nil _ _ _ _ _) (fun g hg=>by cases hg)) ?_
 rintro e V' ⟨rfl,h1,h2⟩
 refine ⟨_,rfl,?_⟩
 (refine jz ?_;refine jA rfl ⟨⟨_,rfl⟩,?_⟩)
 rw [Nat.zero_add] at h1
 exact h1

set_option maxHeartbeats 8000000 in
theorem best_hand (gf:Nat) (lb:List Value) (xs:List (List Int)) (cg:Nat) (cl:List Value) (Fct:Nat→World→Prop) (w:World) (hit:∀ N,IterN Tryz.prog gf lb xs (relL N) (fun w=>Fct N w)) [he:Enters Tryz.prog gf] [hc:Enters Tryz.prog cg] (hF:∀ N w',Ext w w'→N≤w'.heap.size→Fct N w')
  (hcost:∀ x∈xs,∀ (V:World) (a:Option Addr) (c:Nat),Ext w V→RowV V false 1 (.slice a x.length c) (x.map intV)→Ct Tryz.prog cg ([.slice a x.length c]++cl) V fun r _=>∃ (n:Int) (b:Bool),r=.tuple #[.int .i64 n,.bool b]) :
  Ct Tryz.prog 65 [.func (.func gf) #[] lb.toArray,.func (.func cg) #[] cl.toArray] w fun v w'=>∃ (l:List Int) (a:Option Addr) (c:Nat),v=.slice a l.length c∧RowV w' false 1 (.slice a l.length c) (l.map intV)∧(l=[]∨l∈xs):=by
 refine Ct.ofWM (by simp) ?_
 (refine jjB (jjC ?_))
 (refine jy rfl ?_;intro b3 w_b3 hb_b3 hs_b3 hS_b3 hk_b3;have hA_b3:=At.ofBlock hk_b3)
 (refine jJ (eS rfl) (jz (jjB (jjC ?_))))
 ((skip);refine jjY ?_;intro b5 w_b5 hb_b5 hs_b5 hS_b5 hk_b5;have hA_b5:=Bk.of hk_b5)
 (refine jz (jjB (jjC ?_)))
 (apply jjR rfl;(intro _;first|exact eI rfl|exact eB rfl|exact eP rfl|exact eS rfl|exact eT rfl|exact eA rfl|exact eU rfl|exact eF rfl|exact eM rfl|exact eN rfl|exact rfl);exact rfl;exact rfl;exact rfl;exact rfl;intro b6 w_b6 hb_b6 hs_b6 hS_b6 hk_b6;have hA_b6:=Bk.of hk_b6)
 (refine jz (jjB (jjB (jjC (jI (eF rfl) (jz ?_)))));refine jjD ?_)
 have z5:=hS_b5.size
 have z6:=hS_b6.size
 have z3:=hS_b3.size
 have hE6:Ext w w_b6:=inferInstance
 have hB3:At w_b6 b3 0 [.func (.func cg) #[] cl.toArray]:=inferInstance
 have hB5:Bk w_b6 b5 [.slice none 0 0] 40:=inferInstance
 have hB6:Bk w_b6 b6 [.int .i64 (-1)] 3:=inferInstance
 refine W.rangeMN w.heap.size xs (relL w_b6.heap.size) (hit w_b6.heap.size) rfl (fun x vs V ⟨a,c,h,_⟩=>by rw [h];rfl) trivial inferInstance hE6.size
  (fun _ V=>Ext w V∧w_b6.heap.size≤V.heap.size∧At V b3 0 [.func (.func cg) #[] cl.toArray]∧∃ (l:List Int) (a:Option Addr) (c:Nat) (n:Int),Bk V b5 [.slice a l.length c] 40∧Bk V b6 [.int .i64 n] 3∧OwnL V w_b6.heap.size 3 false 1 (.slice a l.length c) (l.map intV)∧(l=[]∨l∈xs))
  ?hJ ?hF ⟨hE6,Nat.le_refl _,hB3,[],none,0, -1,hB5,hB6,OwnL.nil _ _ _ _ _,.inl rfl⟩
  (fun _ k=>k=b5∨k=b6) ?hW1 (fun _ _ _ _ _ _ h=>h) (fun _ _ _ _ h=>.inl h) (fun x s' V=>∃ (a:Option Addr) (c:Nat),s' 3=.pointer (some ⟨b3,0,none⟩)∧s' 5=.pointer (some ⟨b5,0,none⟩)∧s' 6=.pointer (some ⟨b6,0,none⟩)∧s' 7=.slice a x.length c∧OwnL V w_b6.heap.size 3 false 1 (.slice a x.length c) (x.map intV))
  (fun x s V V' ⟨a,c,h1,h2,h3,h4,h5⟩ g=>⟨a,c,h1,h2,h3,h4,h5.grow g⟩) ?hassign ?hbody ?hdone
 case hJ =>
  rintro i V V' ⟨h1,h2,h3,l,a,c,n,k5,k6,hO,hl⟩ g
  exact ⟨h1.ofGrow g hE6.size,Nat.le_trans h2 g.size,h3.grow g,l,a,c,n,k5.grow g,k6.grow g,hO.grow g,hl⟩
 case hF =>
  rintro i V ⟨h1,h2,-⟩
  exact hF _ _ h1 h2
 case hW1 =>
  rintro i V k ⟨h1,h2,h3,l,a,c,n,k5,k6,hO,hl⟩ (rfl|rfl)
  ·exact Bk.lt (h:=k5)
  ·exact Bk.lt (h:=k6)
 case hassign =>
  rintro l' i x vs V hx ⟨a',c',rfl,hO'⟩ ⟨h1,h2,h3,l,a,c,n,k5,k6,hO,hl⟩ hl' hr
  (refine jjC (jJ (eS rfl) (jz ?_)))
  exact ⟨rfl,Tr.refl _,Fr.refl _ _,⟨h1,h2,h3,l,a,c,n,k5,k6,hO,hl⟩,a',c',rfl,rfl,rfl,rfl,hO'⟩
 case hbody =>
  rintro l' i x s' V hx ⟨h1,h2,h3,l,a,c,n,k5,k6,hO,hl⟩ ⟨a',c',hs3,hs5,hs6,hs7,hO'⟩ hl' hr
  refine W.fix (d:=3) hs3 (W.fix (d:=5) hs5 (W.fix (d:=6) hs6 (W.fix (d:=7) hs7 ?_)))
  clear hs3 hs5 hs6 hs7
  have hxm:=List.mem_of_getElem? hx
  (refine jjD (jjB (jjC (jN rfl rfl rfl (jI (eS rfl) ?_)))))
  refine jjQ (hcost x hxm _ a' c' h1 hO'.row) rfl rfl ?_
  rintro _ V2 hS2 ⟨m,B,rfl⟩
  have e2:=hS2.ext
  have k5':=k5.ext e2
  have k6':=k6.ext e2
  have A6:At V2 b6 0 [.int .i64 n]:=Bk.toAt (h:=k6')
  cases B with
  | false =>
    (refine jI (eU rfl) (ju rfl rfl (ju rfl rfl (jJ (eI rfl) (jJ (eB rfl) (jz ?_)))));refine jjB (jjC (jI (eB rfl) (jI (eB rfl) (jU rfl rfl rfl rfl (jU rfl rfl rfl rfl ?_)))));refine jU rfl rfl rfl rfl (jV rfl rfl (jV rfl rfl (jV rfl rfl (jU rfl rfl rfl rfl (jL rfl (eB rfl) ?_)))));refine jz (jjK rfl (jjG ?_)))
    exact ⟨e2.tr,Fr.ext e2,h1.trans e2,by have:=e2.size;omega,h3.ext e2,l,a,c,n,k5',k6',hO.ext e2,hl⟩
  | true =>
  have nb:∀ b,b<w_b6.heap.size→(Value.slice a' x.length c').ownBlock≠some b:=fun b hb e=>by have:=(hO'.block b e).1;omega
  rcases (by omega:(¬ n<0∧¬ m<n)∨n<0∨(¬ n<0∧m<n)) with ⟨hn,hm⟩|hn|⟨hn,hm⟩
  ·(refine jI (eU rfl) (ju rfl rfl (ju rfl rfl (jJ (eI rfl) (jJ (eB rfl) (jz ?_)))));refine jjB (jjC (jI (eB rfl) (jI (eB rfl) (jT rfl rfl rfl (jN rfl rfl rfl ?_)))));refine jT rfl rfl rfl (jja rfl rfl (by omega) (jT rfl rfl rfl (jI (eB rfl) (jT rfl rfl rfl (jI (eI rfl) ?_)))));refine jT rfl rfl rfl (jN rfl rfl rfl (jT rfl rfl rfl (jja rfl rfl (by omega) (jT rfl rfl rfl (jL rfl (eB rfl) ?_)))));refine jK rfl (eB rfl) (jz (jjK rfl (jjG ?_))))
   exact ⟨e2.tr,Fr.ext e2,h1.trans e2,by have:=e2.size;omega,h3.ext e2,l,a,c,n,k5',k6',hO.ext e2,hl⟩
  all_goals
   repeat' (first|(refine jW ?_;(first|refine jjZ rfl rfl (by omega) ?_|refine jja rfl rfl (by omega) ?_))|((first|apply jI|apply jJ|apply jK rfl|apply jL rfl);(first|exact eI rfl|exact eB rfl|exact eS rfl|exact eU rfl))|(refine jM (jN rfl rfl rfl ?_))|(refine jS ?_;(first|refine jT rfl rfl rfl ?_|refine jU rfl rfl rfl rfl ?_))|refine ju rfl rfl ?_|refine jz ?_|(refine jjA ?_;(first|refine jjB ?_|refine jjC ?_|refine jjJ rfl ?_)))
   refine Ops.store rfl rfl rfl rfl rfl ?_
   intro V3 hp3
   have k63:Bk V3 b6 [.int .i64 n] 3:=hp3.bk k6' (by omega)
   skip
   refine Ops.store rfl rfl rfl rfl rfl ?_
   intro V4 hp4
   repeat' (first|refine jz ?_)
   refine ⟨(e2.tr.trans (hp3.tr ⟨_,k5'.h,rfl⟩)).trans (hp4.tr ⟨_,k63.h,rfl⟩),((Fr.ext e2).trans (hp3.frS (M:=fun k=>k=b5∨k=b6) (.inl rfl))).trans (hp4.frS (M:=fun k=>k=b5∨k=b6) (.inr rfl)),hp4.ext (hp3.ext (h1.trans e2) (by omega)) (by omega),?_,hp4.at_ (hp3.at_ (h3.ext e2) (by omega)) (by omega),x,a',c',m,hp4.bk ⟨hp3.new⟩ (by omega),⟨hp4.new⟩,((hO'.ext e2).put hp3 (nb _ (by omega))).put hp4 (nb _ (by omega)),.inr hxm⟩
   rw [hp4.size,hp3.size]
   exact Nat.le_trans h2 e2.size
 case hdone =>
  rintro ds' V hmk htr ⟨h1,h2,h3,l,a,c,n,k5,k6,hO,hl⟩
  have A5:At V b5 0 [.slice a l.length c]:=Bk.toAt (h:=k5)
  (refine jjB (jjC (jN rfl rfl rfl (jJ (eS rfl) (jz (jjF ?_))))))
  exact fin1M rfl rfl hmk fun w' g=>⟨h1.ofGrow g (Nat.le_refl _),l,a,c,rfl,(hO.grow g).row,hl⟩

theorem lists_hand (size bound:Nat) (w:World):Ct Tryz.prog 66 [.int .i64 (size:Int),.int .i64 (bound:Int)] w fun v w'=>∃ b1 b2,v=.func (.func 107) #[] [Value.pointer (some ⟨b1,0,none⟩),.pointer (some ⟨b2,0,none⟩)].toArray∧At w' b1 0 [.int .i64 (size:Int)]∧At w' b2 0 [.int .i64 (bound:Int)]:=by
 refine Ct.ofW (by simp) ?_
 (refine jjB (jjC ?_))
 (refine jy rfl ?_;intro b2 w_b2 hb_b2 hs_b2 hS_b2 hk_b2;have hA_b2:=At.ofBlock hk_b2)
 skip
 (refine jy rfl ?_;intro b3 w_b3 hb_b3 hs_b3 hS_b3 hk_b3;have hA_b3:=At.ofBlock hk_b3)
 (refine jJ rfl (jz (jjB (jjC (jv (jJ (eF rfl) ?_)))));refine jz (jjF ?_);refine jB rfl rfl ⟨inferInstance,?_⟩)
 exact ⟨b2,b3,rfl,inferInstance,inferInstance⟩
section
variable (b3:Nat) (a:Option Addr) (c:Nat) (out:List Int) (w:World) [h3:At w b3 0 [.slice a out.length c]] [hout:RowI w (.slice a out.length c) false 1 (out.map intV)]
include h3 hout in
theorem again11_hand (i:Nat) (hi:i<out.length):Ct Tryz.prog 69 [.int .i64 (i:Int),.pointer (some ⟨b3,0,none⟩)] w fun v _=>v=.bool (decide (out.getD i 0=1)):=by
 have hl:=hout.h.len
 rw [List.length_map] at hl
 have e:out.getD i 0=out[i]:=by rw [List.getD_eq_getElem?_getD,List.getElem?_eq_getElem hi];rfl
 rw [e]
 refine Ct.ofW (by simp) ?_
 by_cases h:out[i]=1
 ·rw [decide_eq_true h]
  (refine jjB (jjC (jJ (eB rfl) (jz (jjB (jjC ?_)))));refine jN rfl rfl rfl (jI (eI rfl) ?_);refine jF rfl rfl rfl (map_get (by omega)) ?_;intro _ _ _;refine jQ rfl rfl (jjh rfl rfl (by omega) (jJ (eB rfl) (jz (jjF ?_))));refine jB rfl rfl ⟨inferInstance,?_⟩)
  exact rfl
 ·rw [decide_eq_false h]
  (refine jjB (jjC (jJ (eB rfl) (jz (jjB (jjC ?_)))));refine jN rfl rfl rfl (jI (eI rfl) ?_);refine jF rfl rfl rfl (map_get (by omega)) ?_;intro _ _ _;refine jQ rfl rfl (jji rfl rfl (by omega) (jJ (eB rfl) (jz (jjF ?_))));refine jB rfl rfl ⟨inferInstance,?_⟩)
  exact rfl
end
def PairsB (n:Nat) (ps:List (Int×Int)):Prop:=∀ p∈ps,(0≤p.1∧p.1<(n:Int))∧0≤p.2∧p.2<(n:Int)
section
variable (pa:Option Addr) (pc:Nat) (ps:List (Int×Int)) (a:Option Addr) (c:Nat) (out:List Int) (w:World) [hps:RowI w (.slice pa ps.length pc) true 2 (ps.map encII)] [hout:RowI w (.slice a out.length c) false 1 (out.map intV)]
set_option maxHeartbeats 4000000 in
theorem pairsOf_hand (hB:PairsB out.length ps) (hl:ps.length≤1000):Ct Tryz.prog 71 [.slice pa ps.length pc,.slice a out.length c] w fun v w'=>∃ (qs:List (Int×Int)) (qa:Option Addr) (qc:Nat),v=.slice qa qs.length qc∧RowV w' true 2 (.slice qa qs.length qc) (qs.map encII):=by
 have hlo:=hout.h.len
 rw [List.length_map] at hlo
 refine Ct.ofW (by simp) ?_
 (refine jjB (jjC (jJ (eS rfl) (jz (jjB (jjC ?_)))));refine jJ (eS rfl) (jz (jjB (jjB (jjC (jI (eS rfl) ?_)))));refine jh rfl (jI (eI rfl) (jz (jjD ?_))))
 refine W.keep0 [(0,.slice pa ps.length pc),(1,.slice a out.length c),(5,.slice none 0 0),(8,.slice pa ps.length pc),(9,.int .i64 (ps.length:Int)),(10,.int .i64 ((0:Nat):Int))] ⟨eS rfl,eS rfl,eS rfl,eS rfl,eI rfl,eI rfl,trivial⟩ fun s0=>?_
 refine W.loopG (11::12::13::7::14::15::16::17::18::19::20::21::22::23::24::25::26::27::5::28::10::[]) (fun g s' V=>∃ (k:Nat) (lv:Value) (qs:List (Int×Int)),s' 10=.int .i64 (k:Int)∧s' 5=lv∧g=ps.length-k∧k≤ps.length∧qs.length=k∧Ext w V∧OwnL V w.heap.size 146 true 2 lv (qs.map encII)) ps.length ⟨0,_,[],rfl,rfl,rfl,Nat.zero_le _,rfl,.refl _,OwnL.nil _ _ _ _ _⟩ ?_
 rintro _ sd V ⟨k,lv,qs,h10,h5,rfl,hk,hq,hEV,hO⟩
 obtain ⟨la,lc,rfl⟩:=hO.slice
 rw [List.length_map] at hO h5
 refine W.fix h10 (W.fix (d:=5) h5 ?_)
 clear h10 h5
 have hEV':=hEV.toStep
 have zV:=hEV.size
 by_cases hk1:k<ps.length
 rotate_left
 ·(refine jjB (jjC (jja rfl rfl (by omega) (jz (jjB (jjK rfl ?_)))));refine jjE (jjB (jjC (jI (eS rfl) (jJ (eS rfl) (jz ?_)))));refine jjF ?_;refine jB rfl rfl ⟨inferInstance,?_⟩)
  exact ⟨qs,la,lc,rfl,hO.row⟩
 have gp:(ps.map encII)[k]?=some (encII ps[k]):=by rw [List.getElem?_map,List.getElem?_eq_getElem hk1];rfl
 obtain ⟨⟨b1,b2⟩,b3,b4⟩:=hB _ (List.getElem_mem hk1)
 obtain ⟨x,y,hxy⟩:∃ x y,ps[k]=(x,y):=⟨_,_,rfl⟩
 rw [hxy] at b1 b2 b3 b4 gp
 simp only at b1 b2 b3 b4
 obtain ⟨i,rfl⟩:∃ i:Nat,x=(i:Int):=⟨x.toNat,by omega⟩
 obtain ⟨j,rfl⟩:∃ j:Nat,y=(j:Int):=⟨y.toNat,by omega⟩
 have gi:(out.map intV)[i]?=some (intV (out[i]'(by omega))):=by rw [List.getElem?_map,List.getElem?_eq_getElem (by omega)];rfl
 have gj:(out.map intV)[j]?=some (intV (out[j]'(by omega))):=by rw [List.getElem?_map,List.getElem?_eq_getElem (by omega)];rfl
 obtain ⟨ob,oo,rfl,-⟩:=hout.h.place' gi
 have Ai:∀ V,Ext w V→At V ob (oo+i * 1) [intV (out[i]'(by omega))]:=fun V hE=>place_k (hout.h.ext hE) gi
 have Aj:∀ V,Ext w V→At V ob (oo+j * 1) [intV (out[j]'(by omega))]:=fun V hE=>place_k (hout.h.ext hE) gj
 (refine jjB (jjC (jjZ rfl rfl (by omega) (jz (jjB (jjJ rfl ?_)))));refine jjG (jjB (jjD (jjB (jjC ?_))));refine jF rfl rfl rfl (map_get (by omega)) ?_;intro _ _ _;refine jQ rfl rfl ?_)
 (apply jjR rfl;(intro _;first|exact eI rfl|exact eB rfl|exact eP rfl|exact eS rfl|exact eT rfl|exact eA rfl|exact eU rfl|exact eF rfl|exact eM rfl|exact eN rfl|exact rfl);exact rfl;exact rfl;exact rfl;exact rfl;intro b7 w_b7 hb_b7 hs_b7 hS_b7 hk_b7;have hA_b7:=Bk.of hk_b7)
 have hE7:Ext w w_b7:=hEV.trans hS_b7.ext
 have A7:At w_b7 b7 0 [.int .i64 ps[k].1,.int .i64 ps[k].2]:=Bk.toAt (h:=hA_b7)
 rw [hxy] at A7
 (refine jz ?_)
 refine W.draw (fun w'=>Ext w w'∧At w' b7 0 [.int .i64 (i:Int),.int .i64 (j:Int)]) ?_
 intro w1 hS1
 have hq1:Ext w w1∧At w1 b7 0 [.int .i64 (i:Int),.int .i64 (j:Int)]:=⟨hE7.trans hS1.ext,A7.ext hS1.ext⟩
 refine jjV [0,1] (by decide +kernel) hq1 ?_
 (((refine jjT rfl (fun _ _=>jI (eS rfl) (jz ⟨rfl,rfl⟩)) (jjT rfl (fun _ _=>jI (eS rfl) (jz ⟨rfl,rfl⟩)) (jjU ?_)))))
 refine jjV [2] (by decide +kernel) hq1 (jjT (v:=.pointer (some ⟨b7,0,none⟩)) rfl (fun w' q1=>?_) (jjU ?_));(refine Ops.indexAP 0 rfl rfl rfl rfl ?_;refine jz ?_;exact ⟨rfl,rfl⟩)
 refine jjV [3] (by decide +kernel) hq1 (jjT (v:=.int .i64 (i:Int)) rfl (fun w' q1=>?_) (jjU ?_));(refine jR (q1.2.get (i:=0) rfl) rfl rfl ?_;refine jz ?_;exact ⟨rfl,rfl⟩)
 refine jjV [4] (by decide +kernel) hq1 (jjT (v:=.pointer (some ⟨ob,oo+i * 1,none⟩)) rfl (fun w' q1=>?_) (jjU ?_));(refine jH i rfl rfl rfl (by omega) ?_;refine jz ?_;exact ⟨rfl,rfl⟩)
 refine jjV [5] (by decide +kernel) hq1 (jjT (v:=intV (out[i]'(by omega))) rfl (fun w' q1=>?_) (jjU ?_));(refine jR ((Ai _ q1.1).get (i:=0) rfl) rfl rfl ?_;refine jz ?_;exact ⟨rfl,rfl⟩)
 refine jjV [6] (by decide +kernel) hq1 ?_
 (((refine jjT rfl (fun _ _=>jI (eS rfl) (jz ⟨rfl,rfl⟩)) (jjU ?_))))
 refine jjV [7] (by decide +kernel) hq1 (jjT (v:=.pointer (some ⟨b7,1,none⟩)) rfl (fun w' q1=>?_) (jjU ?_));(refine Ops.indexAP 1 rfl rfl rfl rfl ?_;refine jz ?_;exact ⟨rfl,rfl⟩)
 refine jjV [8] (by decide +kernel) hq1 (jjT (v:=.int .i64 (j:Int)) rfl (fun w' q1=>?_) (jjU ?_));(refine jR (q1.2.get (i:=1) rfl) rfl rfl ?_;refine jz ?_;exact ⟨rfl,rfl⟩)
 refine jjV [9] (by decide +kernel) hq1 (jjT (v:=.pointer (some ⟨ob,oo+j * 1,none⟩)) rfl (fun w' q1=>?_) (jjU ?_));(refine jH j rfl rfl rfl (by omega) ?_;refine jz ?_;exact ⟨rfl,rfl⟩)
 refine jjV [10] (by decide +kernel) hq1 (jjT (v:=intV (out[j]'(by omega))) rfl (fun w' q1=>?_) (jjU ?_));(refine jR ((Aj _ q1.1).get (i:=0) rfl) rfl rfl ?_;refine jz ?_;exact ⟨rfl,rfl⟩)
 refine jjV [11] (by decide +kernel) hq1 (jjT (v:=encII (out[i]'(by omega),out[j]'(by omega))) rfl (fun w' q1=>?_) (jjU ?_));(refine jjS (cells:=[intV (out[i]'(by omega)),intV (out[j]'(by omega))]) ?_ ?_;exact rfl;refine jz ?_;exact ⟨rfl,rfl⟩)
 (apply jjW 12;(decide +kernel);exact rfl;(exact hq1))
 (refine jjP (v:=.agg _) rfl (by exact rfl) (by exact rfl) (by exact rfl) (by exact rfl) ?_;intro b26 w_b26 hb_b26 hs_b26 hS_b26 hk_b26;have hR_b26:=RowV.one (agg:=true) (k:=2) rfl hk_b26)
 have hE26:Ext w_b7 w_b26:=hS1.ext.trans hS_b26.ext
 have hR26:RowV w_b26 true 2 (.slice (some ⟨b26,0,none⟩) 1 1) [encII (out[i]'(by omega),out[j]'(by omega))]:=hR_b26
 have zA:=(hE7.trans hE26).size
 refine jz ?_
 (apply jjW 13;(decide +kernel);exact rfl;(exact ⟨hE7.trans hE26,A7.ext hE26⟩))
 refine Ops.appendL (hO.ext (hS_b7.ext.trans hE26)) zA hR26 rfl rfl rfl rfl rfl ?_ ?_ ?_
 ·rw [List.length_map];simp only [List.length_cons,List.length_nil];omega
 ·rw [List.length_map];simp only [List.length_cons,List.length_nil];omega
 intro v6 w6 hA6 hO6 _ _
 have hE6:Ext w w6:=hA6.ext (hE7.trans hE26) (Nat.le_refl _)
 have hq6:Ext w w6∧At w6 b7 0 [.int .i64 (i:Int),.int .i64 (j:Int)]:=⟨hE6,hA6.at_ (A7.ext hE26) (fun e=>by have:=(hO.block b7 e).2;omega)⟩
 refine jz ?_
 have e6:qs.map encII++[encII (out[i]'(by omega),out[j]'(by omega))]=(qs++[(out[i]'(by omega),out[j]'(by omega))]).map encII:=by simp
 rw [e6] at hO6
 refine jjV [14] (by decide +kernel) hq6 ?_
 (((apply jjT;exact rfl;rintro w' hq;refine jJ rfl (jz ?_);exact ⟨rfl,rfl⟩;refine jjU ?_)))
 refine jjX (by decide +kernel) hq6 ?_
 (refine jjC (jY rfl rfl (by omega) (jI (eI rfl) (jz ?_))))
 exact ⟨rfl,by (((iterate 23 refine Same.upd rfl ?_);exact Same.ovN)),ps.length-(k+1),by omega,k+1,_,_,congrArg (Value.int .i64) (by omega),rfl,rfl,by omega,by rw [List.length_append];simp only [List.length_cons,List.length_nil];omega,hE6,hO6⟩
end
section
variable (b1 b2:Nat) (ta:Option Addr) (tc:Nat) (ts:List Nat) (pa:Option Addr) (pc:Nat) (ps:List (Int×Int)) (a:Option Addr) (c:Nat) (out:List Int) (w:World) [h1:At w b1 0 [.slice ta ts.length tc]] [h2:At w b2 0 [.slice pa ps.length pc]]
 [hts:RowI w (.slice ta ts.length tc) false 1 (ts.map natV)] [hps:RowI w (.slice pa ps.length pc) true 2 (ps.map encII)] [hout:RowI w (.slice a out.length c) false 1 (out.map intV)]
include h1 h2 hts hps hout
set_option maxHeartbeats 8000000 in
theorem again1_hand (hT:∀ t∈ts,t<out.length) (hB:PairsB out.length ps) (hl:ps.length≤1000) (ho:∀ y∈out,0≤y∧y<2) (hlo:out.length≤1000):Ct Tryz.prog 67 [.slice a out.length c,.pointer (some ⟨b1,0,none⟩),.pointer (some ⟨b2,0,none⟩)] w fun r _=>∃ (n:Int) (b:Bool),r=.tuple #[.int .i64 n,.bool b]:=by
 refine Ct.ofW (by simp) ?_
 (refine jjB (jjC ?_))
 (refine jy rfl ?_;intro b3 w_b3 hb_b3 hs_b3 hS_b3 hk_b3;have hA_b3:=At.ofBlock hk_b3)
 (refine jJ (eI rfl) (jJ (eB rfl) (jz (jjB (jjC (jJ (eI rfl) ?_)))));refine jz (jjB (jjB (jjC (jN rfl rfl rfl (jh rfl ?_)))));refine jI (eI rfl) (jz (jjD ?_)))
 refine W.keep0 [(1,.pointer (some ⟨b1,0,none⟩)),(2,.pointer (some ⟨b2,0,none⟩)),(3,.pointer (some ⟨b3,0,none⟩)),(6,.int .i64 0),(10,.slice a out.length c),(11,.int .i64 (out.length:Int)),(12,.int .i64 ((0:Nat):Int))] ⟨eP rfl,eP rfl,eP rfl,eI rfl,eS rfl,eI rfl,eI rfl,trivial⟩ fun s0=>?_
 refine W.loop (13::14::15::8::16::17::18::19::6::20::12::[]) (fun g s' V=>∃ (k:Nat) (n:Int),s' 12=.int .i64 ((k:Nat):Int)∧s' 6=.int .i64 n∧g=out.length-k∧k≤out.length∧0≤n∧n≤k) out.length ⟨0,0,rfl,rfl,rfl,Nat.zero_le _,Int.le_refl _,Int.le_refl _⟩ ?_
 rintro _ sd V hSV ⟨k,n,h12,h6,rfl,hk,hn0,hn1⟩
 refine W.fix h12 (W.fix (d:=6) h6 ?_)
 clear h12 h6
 by_cases hk1:k<out.length
 ·have hy:=ho _ (List.getElem_mem hk1)
  (refine jjB (jjC (jjZ rfl rfl (by omega) (jz (jjB (jjJ rfl ?_)))));refine jjG (jjB (jjD (jjB (jjC ?_))));refine jF rfl rfl rfl (map_get (by omega)) ?_;intro _ _ _;refine jQ rfl rfl (jJ (eI rfl) (jz (jjC (jI (eI rfl) (jI (eI rfl) ?_)))));refine jZ rfl rfl (by omega) (jY rfl rfl (by omega) (jJ (eI rfl) (jz (jjC (jY rfl rfl (by omega) ?_)))));refine jI (eI rfl) (jz ?_))
  exact ⟨rfl,by (((iterate 13 refine Same.upd rfl ?_);exact Same.ovN)),out.length-(k+1),by omega,inferInstance,k+1,n+(1-out[k]),congrArg (Value.int .i64) (by omega),rfl,rfl,by omega,by omega,by omega⟩
 obtain ⟨T,hTT⟩:∃ T,ts.any (fun t=>decide (out.getD t 0=1))=T:=⟨_,rfl⟩
 have iT:RowI V (.slice ta ts.length tc) false 1 (ts.map natV):=inferInstance
 have iO:RowI V (.slice a out.length c) false 1 (out.map intV):=inferInstance
 have i3:At V b3 0 [.slice a out.length c]:=inferInstance
 (refine jjB (jjC (jja rfl rfl (by omega) (jz (jjB (jjK rfl ?_)))));refine jjE (jjB (jjC (jN rfl rfl rfl (jv ?_)))))
 refine jjQ ((ContainsFunc_int _ _ (.func (.func 69) #[] [Value.pointer (some ⟨b3,0,none⟩)].toArray) natV ts (fun t=>decide (out.getD t 0=1)) iT.h ⟨_,_,rfl,inferInstance,fun w' x hx hs'=>again11_hand b3 a c out w' (h3:=i3.ext hs') (hout:=⟨iO.h.ext hs'⟩) x (hT x hx)⟩).mono fun v _ _ h=>h.trans (by rw [hTT])) rfl rfl ?_
 rintro _ w2 hS2 rfl
 cases T with
 | true =>
   (refine jI (eB rfl) (jU rfl rfl rfl rfl (jU rfl rfl rfl rfl (jU rfl rfl rfl rfl (jU rfl rfl rfl rfl (jU rfl rfl rfl rfl ?_)))));refine jK rfl (eB rfl) (jJ (eB rfl) (jz (jjB (jjC (jI (eI rfl) ?_)))));refine jI (eB rfl) (jp rfl (jJ (eI rfl) (jJ (eB rfl) (jz (jjF ?_)))));refine jC rfl rfl rfl ⟨inferInstance,?_⟩)
   exact ⟨_,_,rfl⟩
 | false =>
   (refine jI (eB rfl) (jT rfl rfl rfl (jN rfl rfl rfl (jT rfl rfl rfl (jN rfl rfl rfl (jT rfl rfl rfl ?_))))))
   refine jjQ (pairsOf_hand pa pc ps a c out _ hB hl) rfl rfl ?_
   rintro _ w3 hS3 ⟨qs,qa,qc,rfl,hQ⟩
   have iQ:RowI w3 (.slice qa qs.length qc) true 2 (qs.map encII):=⟨hQ⟩
   (refine jT rfl rfl rfl ?_)
   (refine jjS (cells:=[.int .i64 1,.int .i64 1]) ?_ ?_;exact rfl)
   (refine jT rfl rfl rfl ?_)
   refine jjQ (Contains_pairs qa qc qs (1,1) _) rfl rfl ?_
   rintro _ w4 hS4 ⟨B,rfl⟩
   cases B with
   | true =>
     (refine jL rfl (eB rfl) (jJ (eB rfl) (jz (jjB (jjC (jI (eI rfl) ?_)))));refine jI (eB rfl) (jp rfl (jJ (eI rfl) (jJ (eB rfl) (jz (jjF ?_)))));refine jC rfl rfl rfl ⟨inferInstance,?_⟩)
     exact ⟨_,_,rfl⟩
   | false =>
     (refine jL rfl (eB rfl) (jJ (eB rfl) (jz (jjB (jjC (jI (eI rfl) ?_)))));refine jI (eB rfl) (jq rfl (jJ (eI rfl) (jJ (eB rfl) (jz (jjF ?_)))));refine jC rfl rfl rfl ⟨inferInstance,?_⟩)
     exact ⟨_,_,rfl⟩
end
section
variable (bd:Nat) (v0 v1 v4 v5:Value) (sa:Option Addr) (sc:Nat) (ss:List Shr) (xa:Option Addr) (xc:Nat) (xs:List Sht) (w:World)
 [hd:At w bd 0 [v0,v1,.slice sa ss.length sc,.slice xa xs.length xc,v4,v5]] [hss:RowI w (.slice sa ss.length sc) true 4 (ss.map encShr)] [hxs:RowI w (.slice xa xs.length xc) true 2 (xs.map encSht)] [hxi:ShtI w xs]
include hd hss hxs hxi in
set_option maxHeartbeats 8000000 in
theorem again_hand {nl:Nat} {hs:List Hp} (hp:RoundOk nl hs ss xs):Ct Tryz.prog 30 [.pointer (some ⟨bd,0,none⟩)] w fun v w'=>∃ (l:List Int) (a:Option Addr) (c:Nat),v=.slice a l.length c∧RowV w' false 1 (.slice a l.length c) (l.map intV):=by
 have hs1:=hp.s1
 refine Ct.ofW (by simp) ?_
 (refine jjB (jjC (jJ (eS rfl) (jz (jjB (jjC ?_)))));refine jI (eP rfl) ?_)
 refine jjQ (allTorn_hand bd v0 v1 v4 v5 sa sc ss xa xc xs _ hp.parts (by omega)) rfl rfl ?_
 rintro _ w1 hS1 ⟨ta,tc,rfl,hOt⟩
 (apply jI;exact eP rfl)
 refine jjQ (differ_hand bd v0 v1 v4 v5 sa sc ss xa xc xs _ hp) rfl rfl ?_
 rintro _ w2 hS2 ⟨ps,pa,pc,rfl,hpl,hpb,hRp⟩
 have hRt:=hOt.row.ext hS2.ext
 ((skip);refine jjY ?_;intro b3 w_b3 hb_b3 hs_b3 hS_b3 hk_b3;have hA_b3:=Bk.of hk_b3)
 ((skip);refine jjY ?_;intro b4 w_b4 hb_b4 hs_b4 hS_b4 hk_b4;have hA_b4:=Bk.of hk_b4)
 skip
 refine Ops.store rfl rfl rfl rfl rfl ?_
 intro w5 hp5
 have k4:Bk w5 b4 [.slice none 0 0] 138:=hp5.bk hA_b4 (by have:=hS_b3.size;omega)
 skip
 refine Ops.store rfl rfl rfl rfl rfl ?_
 intro w6 hp6
 have hE4:Ext w2 w_b4:=hS_b3.ext.trans hS_b4.ext
 have z2:=(hS1.ext.trans hS2.ext).size
 have z3:=hS_b3.size
 have z4:=hS_b4.size
 have hE6:Ext w2 w6:=hp6.ext (hp5.ext hE4 (by omega)) (by omega)
 have hE6w:Ext w w6:=(hS1.ext.trans hS2.ext).trans hE6
 have hE6':=hE6w.toStep
 have A3:At w6 b3 0 [.slice ta (tornL ss xs ss.length).length tc]:=hp6.at_ (Bk.toAt (h:=⟨hp5.new⟩)) (by omega)
 have A4:At w6 b4 0 [.slice pa ps.length pc]:=Bk.toAt (h:=⟨hp6.new⟩)
 have T6:=hRt.ext hE6
 have P6:=hRp.ext hE6
 (refine jz (jjB (jjC (jI (eP rfl) (jw rfl (jm ?_)))));refine jn rfl (jm (jn rfl (jN rfl rfl rfl (jh rfl ?_)))))
 refine jjQ (lists_hand ss.length 2 _) rfl rfl ?_
 rintro _ w7 hS7 ⟨b1,b2,rfl,hA1,hA2⟩
 (refine jv ?_)
 refine jjQ (best_hand 107 [.pointer (some ⟨b1,0,none⟩),.pointer (some ⟨b2,0,none⟩)] (lsF 2 ss.length []) 67 [.pointer (some ⟨b3,0,none⟩),.pointer (some ⟨b4,0,none⟩)] (fun N w=>(At w b1 0 [.int .i64 ((ss.length:Nat):Int)]∧At w b2 0 [.int .i64 ((2:Nat):Int)])∧N≤w.heap.size) _ (fun N=>lists1_hand N b1 b2 ss.length 2 (by omega) (by omega)) (fun N w' e hN=>⟨⟨hA1.ext e,hA2.ext e⟩,hN⟩) ?hcost) rfl rfl ?_
 case hcost =>
  intro x hx V a c hV hR
  obtain ⟨r,hr,hrl,hr2⟩:=lsF_mem.1 hx
  rw [List.nil_append] at hr
  subst hr
  have e7:=hS7.ext.trans hV
  exact again1_hand b3 b4 ta tc (tornL ss xs ss.length) pa pc ps a c x V (h1:=A3.ext e7) (h2:=A4.ext e7) (hts:=⟨T6.ext e7⟩) (hps:=⟨P6.ext e7⟩) (hout:=⟨hR⟩) (fun t ht=>by
   rw [tornL,List.mem_filter,List.mem_range] at ht
   omega) (fun p hp'=>by have:=hpb p hp';omega) (by omega) hr2 (by omega)
 rintro _ w8 hS8 ⟨l,a,c,rfl,hR8,hl8⟩
 have hll:l.length≤8:=by
  rcases hl8 with rfl|h
  ·simp
  ·obtain ⟨r,hr,hrl,-⟩:=lsF_mem.1 h
   rw [hr,List.nil_append];omega
 have i8:RowI w8 (.slice a l.length c) false 1 (l.map intV):=⟨hR8⟩
 have hE8:Ext w w8:=hE6w.trans (hS7.ext.trans hS8.ext)
 (refine jJ (eS rfl) (jz (jjB (jjC (jJ (eS rfl) (jz ?_)))));refine jjB (jjB (jjC (jI (eS rfl) (jh rfl (jI (eI rfl) ?_)))));refine jz (jjD ?_))
 refine W.keep0 [(6,.slice none 0 0),(22,.slice a l.length c),(23,.int .i64 (l.length:Int)),(24,.int .i64 ((0:Nat):Int))] ⟨eS rfl,eS rfl,eI rfl,eI rfl,trivial⟩ fun s0=>?_
 refine W.loopG (25::26::27::28::7::8::29::30::31::32::33::34::6::35::24::[]) (fun g s' V=>∃ (k:Nat) (lv:Value) (out:List Int),s' 24=.int .i64 (k:Int)∧s' 6=lv∧g=l.length-k∧k≤l.length∧out.length≤k∧Ext w8 V∧OwnL V w8.heap.size 3 false 1 lv (out.map intV)) l.length ⟨0,_,[],rfl,rfl,rfl,Nat.zero_le _,Nat.le_refl _,.refl _,OwnL.nil _ _ _ _ _⟩ ?_
 rintro _ sd V ⟨k,lv,out,h24,h6,rfl,hk,hlo,hEV,hO⟩
 obtain ⟨la,lc,rfl⟩:=hO.slice
 rw [List.length_map] at hO h6
 refine W.fix h24 (W.fix (d:=6) h6 ?_)
 clear h24 h6
 have hEV':=hEV.toStep
 by_cases hk1:k<l.length
 rotate_left
 ·(refine jjB (jjC (jja rfl rfl (by omega) (jz (jjB (jjK rfl ?_)))));refine jjE (jjB (jjC (jI (eS rfl) (jJ (eS rfl) (jz ?_)))));refine jjF ?_;refine jB rfl rfl ⟨inferInstance,?_⟩)
  exact ⟨out,la,lc,rfl,hO.row⟩
 by_cases h0:l[k]=0
 rotate_left
 ·(refine jjB (jjC (jjZ rfl rfl (by omega) (jz (jjB (jjJ rfl ?_)))));refine jjG (jjB (jjD (jjB (jjC (jI (eI rfl) ?_)))));refine jF rfl rfl rfl (map_get (by omega)) ?_;intro _ _ _;refine jQ rfl rfl (jJ (eI rfl) (jJ (eI rfl) (jz (jjB (jjC ?_)))));refine jI (eI rfl) (jji rfl rfl (by omega) (jz (jjK rfl (jjG (jjC ?_)))));refine jY rfl rfl (by omega) (jI (eI rfl) (jz ?_)))
  exact ⟨rfl,by (((iterate 12 refine Same.upd rfl ?_);exact Same.ovN)),l.length-(k+1),by omega,k+1,_,out,congrArg (Value.int .i64) (by omega),rfl,rfl,by omega,by omega,hEV,hO⟩
 (refine jjB (jjC (jjZ rfl rfl (by omega) (jz (jjB (jjJ rfl ?_)))));refine jjG (jjB (jjD (jjB (jjC (jI (eI rfl) ?_)))));refine jF rfl rfl rfl (map_get (by omega)) ?_;intro _ _ _;refine jQ rfl rfl (jJ (eI rfl) (jJ (eI rfl) (jz (jjB (jjC ?_)))));refine jI (eI rfl) (jjh rfl rfl (by omega) (jz (jjJ rfl (jjC (jI (eS rfl) ?_)))));refine jI (eI rfl) ?_)
 (refine jjP (v:=.int _ _) rfl (by exact rfl) (by exact rfl) (by exact rfl) (by exact rfl) ?_;intro b33 w_b33 hb_b33 hs_b33 hS_b33 hk_b33;have hR_b33:=RowV.one (agg:=false) (k:=1) rfl hk_b33)
 have hE33:=hEV.trans hS_b33.ext
 refine Ops.appendL (hO.ext hS_b33.ext) hE33.size hR_b33 rfl rfl rfl rfl rfl ?_ ?_ ?_
 ·rw [List.length_map];simp only [List.length_cons,List.length_nil];omega
 ·rw [List.length_map];simp only [List.length_cons,List.length_nil];omega
 intro v6 w11 hA11 hO11 _ _
 have e11:out.map intV++[Value.int .i64 (k:Int)]=(out++[(k:Int)]).map intV:=by simp
 rw [e11] at hO11
 (refine jJ rfl (jz (jjC (jY rfl rfl (by omega) (jI (eI rfl) (jz ?_))))))
 exact ⟨rfl,by (((iterate 17 refine Same.upd rfl ?_);exact Same.ovN)),l.length-(k+1),by omega,k+1,_,_,congrArg (Value.int .i64) (by omega),rfl,rfl,by omega,by rw [List.length_append];simp only [List.length_cons,List.length_nil];omega,hA11.ext hE33 (Nat.le_refl _),hO11⟩
end

section
variable {P:Program} {ro:Option Nat} {n:Nat} {X:Ctx} {s:Sl} {ds:List Deferred} {w:World}
theorem W.loopD (D:List Nat) {c:Code} (Q:List Deferred→World→Prop) (I:Nat→Sl→World→Prop) (g0:Nat) (hq:Q ds w) (h0:I g0 s w)
  (hr:∀ g d ds' w',Q ds' w'→I g (ovN D d s) w'→W P ro n c { X with nx:=fun s' ds'' w''=>Q ds'' w''∧Same D s s'∧∃ g',g'<g∧I g' s' w'' } (ovN D d s) ds' w') :
  W P ro n (.loop c) X s ds w:=by
 unfold W at hr ⊢
 refine wpIn_loopJ (fun j a w'=>∃ s' ds',a=mkA n s' ds'∧Q ds' w'∧Same D s s'∧I j s' w') g0 ⟨s,ds,rfl,hq,Same.refl D s,h0⟩ ?_
 rintro j a w' ⟨s',ds',rfl,hq',hs,hI⟩
 have hr':=hr j s' ds' w' hq'
 rw [hs.ov_eq] at hr'
 refine wpIn_mono (hr' hI) fun e a w'' hp=>?_
 cases e with
 | normal =>
   obtain ⟨s'',ds'',rfl,hq'',hs',g',hlt,hI'⟩:=hp
   exact ⟨g',hlt,s'',ds'',rfl,hq'',hs',hI'⟩
 | ret=>exact hp
 | exit i=>exact hp
 | goto l=>exact hp
 | panic c=>exact hp
 | outgrown=>exact hp
end
theorem mget_mem {κ:Type} [DecidableEq κ] {m:List (κ×Value)} {k:κ} {v:Value} (h:mget m k=some v):(k,v)∈m:=by
 induction m with
 | nil=>simp [mget] at h
 | cons q m ih =>
   obtain ⟨x,u⟩:=q
   by_cases e:k=x
   ·subst e
    simp only [mget,if_true,Option.some.injEq] at h
    subst h;exact List.mem_cons_self
   ·simp only [mget,e,if_false] at h
    exact List.mem_cons_of_mem _ (ih h)
theorem of_hand (bd i:Nat) (w:World):Ct Tryz.prog 41 [.pointer (some ⟨bd,0,none⟩),.int .i64 (i:Int)] w fun v w'=>∃ b1 b2,v=.func (.func 80) #[] [Value.pointer (some ⟨b1,0,none⟩),.pointer (some ⟨b2,0,none⟩)].toArray∧w.heap.size≤b1∧w.heap.size≤b2∧At w' b1 0 [.pointer (some ⟨bd,0,none⟩)]∧At w' b2 0 [.int .i64 (i:Int)]:=by
 refine Ct.ofW (by simp) ?_
 (refine jjB (jjC ?_))
 (refine jy rfl ?_;intro b2 w_b2 hb_b2 hs_b2 hS_b2 hk_b2;have hA_b2:=At.ofBlock hk_b2)
 skip
 (refine jy rfl ?_;intro b3 w_b3 hb_b3 hs_b3 hS_b3 hk_b3;have hA_b3:=At.ofBlock hk_b3)
 (refine jJ rfl (jz (jjB (jjC (jv (jJ (eF rfl) ?_)))));refine jz (jjF ?_);refine jB rfl rfl ⟨inferInstance,?_⟩)
 exact ⟨b2,b3,rfl,by omega,by have:=hS_b2.size;omega,inferInstance,inferInstance⟩
abbrev relU (n:Nat) (vs:List Value) (_:World):Prop:=∃ u,vs=[.int .i64 (n:Int),u]
structure DskF (b1 b2 bd i:Nat) (v0 v1 v3 v5:Value) (sa:Option Addr) (sc:Nat) (ss:List Shr) (la:Option Addr) (lc:Nat) (L:List Ln) (w:World):Prop where
 a1:At w b1 0 [.pointer (some ⟨bd,0,none⟩)]
 a2:At w b2 0 [.int .i64 (i:Int)]
 d:At w bd 0 [v0,v1,.slice sa ss.length sc,v3,.slice la L.length lc,v5]
 s:RowV w true 4 (.slice sa ss.length sc) (ss.map encShr)
 l:RowV w false 1 (.slice la L.length lc) (L.map encLn)
set_option maxHeartbeats 8000000 in
theorem of1_hand (b1 b2 bd i:Nat) (v0 v1 v3 v5:Value) (sa:Option Addr) (sc:Nat) (ss:List Shr) (la:Option Addr) (lc:Nat) (L:List Ln) (hi:i<ss.length) (f t:Nat) (hf:ss[i].1=(f:Int)) (ht:ss[i].2.1=(t:Int)) (hft:f≤t) (htl:t<L.length) (hL:L.length≤1000000) :
  IterN Tryz.prog 80 [.pointer (some ⟨b1,0,none⟩),.pointer (some ⟨b2,0,none⟩)] (List.range' f (t+1-f)) relU (DskF b1 b2 bd i v0 v1 v3 v5 sa sc ss la lc L):=by
 intro l J M w hJ hF hM1 hM2 hY h0
 have gs:(ss.map encShr)[i]?=some (encShr ss[i]):=by rw [List.getElem?_map,List.getElem?_eq_getElem hi];rfl
 have f0:=hF 0 w h0
 obtain ⟨pb,po,rfl,-⟩:=f0.s.place' gs
 have A1:∀ k V,J k V→At V pb (po+i * 4) [.int .i64 (f:Int),.int .i64 (t:Int),.int .i64 ss[i].2.2.1,.int .i64 ss[i].2.2.2]:=fun k V hj=>by
  have:=place_k (hF k V hj).s gs
  rw [←hf,←ht];exact this
 have:=f0.a1
 have:=f0.a2
 have:=f0.d
 refine Calls.ofW (by simp) ?_
 (refine jjB ?_)
 refine W.draw (fun w'=>Ext w w') ?_
 intro w1 hS1
 refine jjV [0,1,2,3,4,5] (by decide +kernel) hS1.ext ?_
 (((apply jjT;exact rfl;rintro w' hq;have:=hq.toStep;refine jN rfl rfl rfl (jz ?_);exact ⟨rfl,rfl⟩;apply jjT;exact rfl;rintro w' hq;have:=hq.toStep;refine jw rfl (jz ?_);exact ⟨rfl,rfl⟩;apply jjT;exact rfl;rintro w' hq;have:=hq.toStep;refine jm (jn rfl (jz ?_));exact ⟨rfl,rfl⟩;apply jjT;exact rfl;rintro w' hq;have:=hq.toStep;refine jm (jn rfl (jz ?_));exact ⟨rfl,rfl⟩;apply jjT;exact rfl;rintro w' hq;have:=hq.toStep;refine jN rfl rfl rfl (jz ?_);exact ⟨rfl,rfl⟩;apply jjT;exact rfl;rintro w' hq;have:=hq.toStep;refine jN rfl rfl rfl (jz ?_);exact ⟨rfl,rfl⟩;refine jjU ?_)))
 refine jjV [6] (by decide +kernel) hS1.ext (jjT (v:=.pointer (some ⟨pb,po+i * 4,none⟩)) rfl (fun w' q1=>?_) (jjU ?_));(refine jH i rfl rfl rfl (by omega) ?_;refine jz ?_;exact ⟨rfl,rfl⟩)
 refine jjV [7] (by decide +kernel) hS1.ext ?_
 (((apply jjT;exact rfl;rintro w' hq;refine jm (jn rfl (jz ?_));exact ⟨rfl,rfl⟩;refine jjU ?_)))
 refine jjV [8] (by decide +kernel) hS1.ext (jjT (v:=.int .i64 (f:Int)) rfl (fun w' q1=>?_) (jjU ?_));(refine jR ((A1 0 _ (hJ _ _ _ h0 q1)).get (i:=0) rfl) rfl rfl ?_;refine jz ?_;exact ⟨rfl,rfl⟩)
 refine jjV [9] (by decide +kernel) hS1.ext ?_
 (((refine jjT rfl (fun _ _=>jJ (eI rfl) (jz ⟨rfl,rfl⟩)) (jjU ?_))))
 refine jjX (by decide +kernel) hS1.ext ?_
 (refine jjD ?_)
 refine W.keep0 [(0,.func (.yield l) #[] #[]),(1,.pointer (some ⟨b1,0,none⟩)),(2,.pointer (some ⟨b2,0,none⟩)),(4,.int .i64 ((f+0:Nat):Int))] ⟨eF rfl,eP rfl,eP rfl,eI rfl,trivial⟩ fun s0=>?_
 refine W.loopG (14::15::16::17::18::19::20::21::22::23::24::27::28::29::30::31::32::33::34::35::36::37::25::26::4::[]) (fun g s' V=>∃ k:Nat,s' 4=.int .i64 ((f+k:Nat):Int)∧g=t+1-f-k∧k≤t+1-f∧J k V) (t+1-f) ⟨0,rfl,rfl,Nat.zero_le _,hJ _ _ _ h0 hS1.ext⟩ ?_
 rintro _ sd V ⟨k,h4,rfl,hk,hj⟩
 refine W.fix h4 ?_
 clear h4
 have fk:=hF k V hj
 have:=fk.a1
 have:=fk.a2
 have:=fk.d
 (refine jjB (jjB ?_))
 refine W.draw (fun w'=>Ext V w') ?_
 intro w2 hS2
 refine jjV [0,1,2,3,4,5,6] (by decide +kernel) hS2.ext ?_
 (((refine jjT rfl (fun _ _=>jI (eI rfl) (jz ⟨rfl,rfl⟩)) ?_;apply jjT;exact rfl;rintro w' hq;have:=hq.toStep;refine jN rfl rfl rfl (jz ?_);exact ⟨rfl,rfl⟩;apply jjT;exact rfl;rintro w' hq;have:=hq.toStep;refine jw rfl (jz ?_);exact ⟨rfl,rfl⟩;apply jjT;exact rfl;rintro w' hq;have:=hq.toStep;refine jm (jn rfl (jz ?_));exact ⟨rfl,rfl⟩;apply jjT;exact rfl;rintro w' hq;have:=hq.toStep;refine jm (jn rfl (jz ?_));exact ⟨rfl,rfl⟩;apply jjT;exact rfl;rintro w' hq;have:=hq.toStep;refine jN rfl rfl rfl (jz ?_);exact ⟨rfl,rfl⟩;apply jjT;exact rfl;rintro w' hq;have:=hq.toStep;refine jN rfl rfl rfl (jz ?_);exact ⟨rfl,rfl⟩;refine jjU ?_)))
 refine jjV [7] (by decide +kernel) hS2.ext (jjT (v:=.pointer (some ⟨pb,po+i * 4,none⟩)) rfl (fun w' q1=>?_) (jjU ?_));(refine jH i rfl rfl rfl (by omega) ?_;refine jz ?_;exact ⟨rfl,rfl⟩)
 refine jjV [8] (by decide +kernel) hS2.ext ?_
 (((apply jjT;exact rfl;rintro w' hq;refine jm (jn rfl (jz ?_));exact ⟨rfl,rfl⟩;refine jjU ?_)))
 refine jjV [9] (by decide +kernel) hS2.ext (jjT (v:=.int .i64 (t:Int)) rfl (fun w' q1=>?_) (jjU ?_));(refine jR ((A1 k _ (hJ _ _ _ hj q1)).get (i:=1) rfl) rfl rfl ?_;refine jz ?_;exact ⟨rfl,rfl⟩)
 have hj2:=hJ _ _ _ hj hS2.ext
 by_cases hk1:k<t+1-f
 rotate_left
 ·obtain rfl:k=t+1-f:=by omega
  refine jjV [10] (by decide +kernel) hS2.ext (jjT (v:=.bool false) rfl (fun w' q1=>?_) (jjU ?_));(refine jjc rfl rfl (by omega) (jz ?_);exact ⟨rfl,rfl⟩)
  refine jjX (by decide +kernel) hS2.ext ?_
  (refine jjK rfl (jjE ?_);refine jA rfl ⟨⟨_,rfl⟩,?_⟩)
  rw [List.length_range']
  exact hj2
 refine jjV [10] (by decide +kernel) hS2.ext (jjT (v:=.bool true) rfl (fun w' q1=>?_) (jjU ?_));(refine jjb rfl rfl (by omega) (jz ?_);exact ⟨rfl,rfl⟩)
 refine jjX (by decide +kernel) hS2.ext ?_
 have f2:=hF k w2 hj2
 have:=f2.a1
 have:=f2.a2
 have:=f2.d
 have i2:RowI w2 (.slice la L.length lc) false 1 (L.map encLn):=⟨f2.l⟩
 have hfl:f+k<L.length:=by omega
 (refine jjJ rfl (jjG (jjB (jjD (jjB (jjC ?_)))));refine jI (eF rfl) (jI (eI rfl) (jN rfl rfl rfl (jw rfl (jm (jn rfl ?_)))));refine jN rfl rfl rfl (jI (eI rfl) ?_);refine jF rfl rfl rfl (map_get (by omega)) ?_;intro _ _ _;refine jQ rfl rfl ?_)
 refine Ops.yield (hY k (f+k) _ _ (by rw [List.getElem?_range' (by omega)];simp) ⟨_,rfl⟩ hj2) rfl rfl ?_
 rintro e V' ⟨rfl,h1,h2⟩
 refine ⟨_,rfl,?_⟩
 (refine jp rfl (jz (jjK rfl (jjG (jjC (jI (eI rfl) ?_)))));refine jY rfl rfl (by omega) (jJ (eI rfl) (jz ?_)))
 exact ⟨rfl,by (((iterate 26 refine Same.upd rfl ?_);exact Same.ovN)),t+1-f-(k+1),by omega,k+1,congrArg (Value.int .i64) (by omega),rfl,by omega,h1⟩

def LinM (m:List (Int×Value)):Prop:=∀ p∈m,p.2=.bool true
theorem LinM.get {m:List (Int×Value)} (h:LinM m) (n:Int):(mget m n).getD (.bool false)=.bool (mget m n).isSome:=by
 cases e:mget m n with
 | none=>rfl
 | some v=>exact h _ (mget_mem e)
section
variable (bd:Nat) (v0 v1 v3 v5:Value) (sa:Option Addr) (sc:Nat) (ss:List Shr) (la:Option Addr) (lc:Nat) (L:List Ln) (pg:Nat) (pl:List Value) (w:World)
 [hd:At w bd 0 [v0,v1,.slice sa ss.length sc,v3,.slice la L.length lc,v5]] [hss:RowI w (.slice sa ss.length sc) true 4 (ss.map encShr)] [hll:RowI w (.slice la L.length lc) false 1 (L.map encLn)]
include hd hss hll in
end

theorem inOne_hand (lo hi n:Int) (b:Nat) (w:World) (h:lo≤n∧n≤hi) (hR:RowV w false 1 (.slice (some ⟨b,0,none⟩) 1 1) [.int .i64 n]):Ct Tryz.prog 73 [.int .i64 lo,.int .i64 hi,.slice (some ⟨b,0,none⟩) 1 1] w fun v _=>v=.bool true :=
 (in_hand lo hi _ [n] w hR).mono fun v _ _ e=>e.trans (by rw [all_1,inB,decide_eq_true h])
set_option maxHeartbeats 4000000 in
theorem single_hand (ln:Ln) (w:World) (hw:RowV w false 1 (encLn ln) (ln.2.2.map strV)):Ct Tryz.prog 101 [encLn ln] w fun v w'=>∃ a c cs,v=.agg #[.slice a cs.length c]∧RowV w' true 2 (.slice a cs.length c) (cs.map encCh)∧TextI w' cs∧txF cs=[(0,[ln.2.2])]:=by
 refine Ct.ofW (by simp) ?_
 (((refine jjB (jjC ?_)));refine jjY ?_;intro b2 w_b2 hb_b2 hs_b2 hS_b2 hk_b2;have hA_b2:=Bk.of hk_b2)
 (refine jz (jjB (jjC (jI (eS rfl) ?_))))
 (refine jjP (v:=.slice _ _ _) rfl (by exact rfl) (by exact rfl) (by exact rfl) (by exact rfl) ?_;intro b4 w_b4 hb_b4 hs_b4 hS_b4 hk_b4;have hR_b4:=RowV.one (agg:=false) (k:=1) rfl hk_b4)
 skip
 (refine jjS (cells:=[.int .i64 0,.slice (some ⟨b4,0,none⟩) 1 1]) ?_ ?_;exact rfl)
 (refine jjP (v:=.agg _) rfl (by exact rfl) (by exact rfl) (by exact rfl) (by exact rfl) ?_;intro b6 w_b6 hb_b6 hs_b6 hS_b6 hk_b6;have hR_b6:=RowV.one (agg:=true) (k:=2) rfl hk_b6)
 (refine jjS (cells:=[.slice (some ⟨b6,0,none⟩) 1 1]) ?_ ?_;exact rfl)
 have hb0:Bk w_b6 b2 [.slice none 0 0] 24:=inferInstance
 have hR4:RowV w_b6 false 1 (.slice (some ⟨b4,0,none⟩) 1 1) [encLn ln]:=hR_b4.ext hS_b6.ext
 have hR6:RowV w_b6 true 2 (.slice (some ⟨b6,0,none⟩) 1 1) [encCh (0,some ⟨b4,0,none⟩,1,[ln])]:=hR_b6
 have hE6:Ext w w_b6:=inferInstance
 refine Ops.store rfl rfl rfl rfl rfl ?_
 intro V2 hp2
 have:=Bk.toAt (h:=Bk.of hp2.new)
 have z2:=hS_b2.size
 have z4:=hS_b4.size
 (refine jz (jjF ?_))
 refine fin1C rfl rfl rfl rfl rfl ⟨hp2.ext hE6 (by omega),some ⟨b6,0,none⟩,1,[(0,some ⟨b4,0,none⟩,1,[ln])],rfl,hp2.row hR6 (fun e=>by simp [Value.ownBlock] at e;omega),⟨?_,?_⟩,rfl⟩
 ·intro x hx
  rw [List.mem_singleton] at hx
  subst hx
  exact hp2.row hR4 (fun e=>by simp [Value.ownBlock] at e;omega)
 ·intro x hx
  rw [List.mem_singleton] at hx
  subst hx
  intro y hy
  rw [List.mem_singleton] at hy
  subst hy
  exact hw.ext (hp2.ext hE6 (by omega))
theorem word_small {s:ByteArray} (h:wordB s=true):s.size≤1000:=by
 simp only [wordB,Bool.and_eq_true,decide_eq_true_eq] at h
 omega
set_option maxHeartbeats 4000000 in
theorem right1_hand (ln:Ln) (w:World) (hw:RowV w false 1 (encLn ln) (ln.2.2.map strV)) (hok:lineB ln.2.2=true):Ct Tryz.prog 100 [encLn ln] w fun v _=>v=.bool false:=by
 refine Ct.ofW (by simp) ?_
 (refine jjB (jjC (jJ (eB rfl) (jz (jjB (jjC ?_)))));refine jI (eS rfl) ?_)
 refine jjQ (single_hand ln _ hw) rfl rfl ?_
 rintro _ w1 hS1 ⟨a,c,cs,rfl,hR,hT,ht⟩
 have hl:=hok
 simp only [lineB,Bool.and_eq_true,inB,decide_eq_true_eq,List.all_eq_true] at hl
 have hsm:SmallT cs:=by
  have hlen:cs.length=1:=by rw [←txF_len,ht];rfl
  have hx:∀ x∈cs,x.2.2.2.map (·.2.2)=[ln.2.2]:=fun x hx=>by
   have:txC x∈txF cs:=List.mem_map.2 ⟨x,hx,rfl⟩
   rw [ht,List.mem_singleton] at this
   exact congrArg Prod.snd this
  refine ⟨by omega,fun x h=>⟨?_,fun y hy=>?_⟩⟩
  ·have:=congrArg List.length (hx x h)
   rw [List.length_map] at this
   simp only [List.length_cons,List.length_nil] at this
   omega
  ·have:y.2.2∈x.2.2.2.map (·.2.2):=List.mem_map.2 ⟨y,hy,rfl⟩
   rw [hx x h,List.mem_singleton] at this
   rw [this]
   exact ⟨by omega,fun s hs=>word_small (hl.2 s hs)⟩
 have htx:textB (txF cs)=true:=by
  rw [ht]
  simp [textB,chapB,hok,inB]
 have i1:RowI w1 (.slice a cs.length c) true 2 (cs.map encCh):=⟨hR⟩
 skip
 refine jjQ ((Check_leaf a c cs _ hsm).mono fun v _ _ h=>h.trans (by rw [htx])) rfl rfl ?_
 rintro _ w2 hS2 rfl
 (refine jc rfl rfl (jJ (eB rfl) (jz (jjF ?_)));refine jB rfl rfl ⟨inferInstance,?_⟩)
 exact rfl

theorem any_false' {α:Type} (l:List α):(l.any fun _=>false)=false:=by simp
theorem bef_0 (ss:List Shr) (i:Nat) (k:Nat) (h:i<k):befS ss i k=noP:=by rw [befS,if_neg (by omega)]
theorem bef_k {ss:List Shr} {i k:Nat} (h:k≤i) (hi:i-k<ss.length):befS ss i k=ss[i-k]:=by
 rw [befS,if_pos h,List.getD_eq_getElem?_getD,List.getElem?_eq_getElem hi];rfl
theorem bef_next {ss:List Shr} {i:Nat} (hi:i<ss.length):befS ss (i+1) 1=ss[i]∧befS ss (i+1) 2=befS ss i 1:=by
 refine ⟨bef_k (by omega) (by omega),?_⟩
 by_cases h:1≤i
 ·rw [bef_k (by omega) (by omega),bef_k h (by omega)]
  simp only [show i+1-2=i-1 by omega]
 ·rw [bef_0 _ _ _ (by omega),bef_0 _ _ _ (by omega)]
theorem inTwo_hand (lo hi m n:Int) (b:Nat) (w:World) (h:lo≤m∧m≤hi) (h2:lo≤n∧n≤hi) (hR:RowV w false 1 (.slice (some ⟨b,0,none⟩) 2 2) [.int .i64 m,.int .i64 n]):Ct Tryz.prog 73 [.int .i64 lo,.int .i64 hi,.slice (some ⟨b,0,none⟩) 2 2] w fun v _=>v=.bool true :=
 (in_hand lo hi _ [m,n] w hR).mono fun v _ _ e=>e.trans (by rw [List.all_cons,List.all_cons,List.all_nil,inB,inB,decide_eq_true h,decide_eq_true h2];rfl)
abbrev shC (s:Shr):List Value:=[.int .i64 s.1,.int .i64 s.2.1,.int .i64 s.2.2.1,.int .i64 s.2.2.2]
section
variable (bd:Nat) (v0 v5:Value) (ha:Option Addr) (hc:Nat) (hs:List Hp) (sa:Option Addr) (sc:Nat) (ss:List Shr) (xa:Option Addr) (xc:Nat) (xs:List Sht) (la:Option Addr) (lc:Nat) (L:List Ln) (w:World)
 [hd:At w bd 0 [v0,.slice ha hs.length hc,.slice sa ss.length sc,.slice xa xs.length xc,.slice la L.length lc,v5]] [hhs:RowI w (.slice ha hs.length hc) true 3 (hs.map encHp)] [hss:RowI w (.slice sa ss.length sc) true 4 (ss.map encShr)] [hxs:RowI w (.slice xa xs.length xc) true 2 (xs.map encSht)] [hxi:ShtI w xs]
include hd hhs hss hxs hxi
set_option maxRecDepth 10000 in
set_option maxHeartbeats 40000000 in
theorem right_hand (hp:RoundOk L.length hs ss xs):Ct Tryz.prog 61 [.pointer (some ⟨bd,0,none⟩)] w fun v _=>v=.bool true:=by
 have hh:=hp.h1
 have hs1:=hp.s1
 have hx1:=hp.x1
 have hfew:=hp.few
 refine Ct.ofW (by simp) ?_
 (refine jjB (jjC (jJ (eB rfl) (jz (jjH (jjB ?_)))));refine jjB ?_)
 refine W.draw (fun w'=>Ext w w') ?_
 intro w1 hS1
 refine jjV [0,1,2,3,4,5] (by decide +kernel) hS1.ext ?_
 (((refine jjT rfl (fun _ _=>jI (eP rfl) (jz ⟨rfl,rfl⟩)) ?_;apply jjT;exact rfl;rintro w' hq;have:=hq.toStep;refine jw rfl (jz ?_);exact ⟨rfl,rfl⟩;apply jjT;exact rfl;rintro w' hq;have:=hq.toStep;refine jm (jn rfl (jz ?_));exact ⟨rfl,rfl⟩;apply jjT;exact rfl;rintro w' hq;have:=hq.toStep;refine jm (jn rfl (jz ?_));exact ⟨rfl,rfl⟩;apply jjT;exact rfl;rintro w' hq;have:=hq.toStep;refine jN rfl rfl rfl (jz ?_);exact ⟨rfl,rfl⟩;refine jjT rfl (fun _ _=>jh rfl (jz ⟨rfl,rfl⟩)) (jjU ?_))))
 (apply jjW 6;(decide +kernel);exact rfl;(exact hS1.ext))
 (refine jjP (v:=.int _ _) rfl (by exact rfl) (by exact rfl) (by exact rfl) (by exact rfl) ?_;intro b17 w_b17 hb_b17 hs_b17 hS_b17 hk_b17;have hR_b17:=RowV.one (agg:=false) (k:=1) rfl hk_b17)
 have q17:Ext w w_b17:=hS1.ext.trans hS_b17.ext
 refine jz ?_
 (apply jjW 7;(decide +kernel);exact rfl;(exact q17))
 refine jjQ (inOne_hand 1 4 (hs.length:Int) b17 _ (by omega) hR_b17) rfl rfl ?_
 rintro _ w2 hS2 rfl
 have q2:Ext w w2:=q17.trans hS2.ext
 refine jz ?_
 refine jjV [8,9,10,11,12,13,14,15,16,17,18,19,20,21,22,23,24,25,26,27,28,29,30] (by decide +kernel) q2 ?_
 (((refine jjT rfl (fun _ _=>jp rfl (jz ⟨rfl,rfl⟩)) (jjT rfl (fun _ _=>jI (eB rfl) (jz ⟨rfl,rfl⟩)) (jjT rfl (fun _ _=>jT rfl rfl rfl (jI (eP rfl) (jz ⟨rfl,rfl⟩))) ?_));apply jjT;exact rfl;rintro w' hq;have:=hq.toStep;refine jT rfl rfl rfl (jw rfl (jz ?_));exact ⟨rfl,rfl⟩;apply jjT;exact rfl;rintro w' hq;have:=hq.toStep;refine jT rfl rfl rfl (jm (jn rfl (jz ?_)));exact ⟨rfl,rfl⟩;apply jjT;exact rfl;rintro w' hq;have:=hq.toStep;refine jT rfl rfl rfl (jm (jn rfl (jz ?_)));exact ⟨rfl,rfl⟩;apply jjT;exact rfl;rintro w' hq;have:=hq.toStep;refine jT rfl rfl rfl (jN rfl rfl rfl (jz ?_));exact ⟨rfl,rfl⟩;refine jjT rfl (fun _ _=>jT rfl rfl rfl (jh rfl (jz ⟨rfl,rfl⟩))) (jjT rfl (fun _ _=>jT rfl rfl rfl (jje rfl rfl (by omega) (jz ⟨rfl,rfl⟩))) (jjT rfl (fun _ _=>jL rfl (eB rfl) (jz ⟨rfl,rfl⟩)) (jjT rfl (fun _ _=>jI (eB rfl) (jz ⟨rfl,rfl⟩)) (jjT rfl (fun _ _=>jT rfl rfl rfl (jI (eP rfl) (jz ⟨rfl,rfl⟩))) ?_))));apply jjT;exact rfl;rintro w' hq;have:=hq.toStep;refine jT rfl rfl rfl (jw rfl (jz ?_));exact ⟨rfl,rfl⟩;apply jjT;exact rfl;rintro w' hq;have:=hq.toStep;refine jT rfl rfl rfl (jm (jn rfl (jz ?_)));exact ⟨rfl,rfl⟩;apply jjT;exact rfl;rintro w' hq;have:=hq.toStep;refine jT rfl rfl rfl (jm (jn rfl (jz ?_)));exact ⟨rfl,rfl⟩;apply jjT;exact rfl;rintro w' hq;have:=hq.toStep;refine jT rfl rfl rfl (jN rfl rfl rfl (jz ?_));exact ⟨rfl,rfl⟩;refine jjT rfl (fun _ _=>jT rfl rfl rfl (jh rfl (jz ⟨rfl,rfl⟩))) (jjT rfl (fun _ _=>jT rfl rfl rfl (jI (eP rfl) (jz ⟨rfl,rfl⟩))) ?_);apply jjT;exact rfl;rintro w' hq;have:=hq.toStep;refine jT rfl rfl rfl (jw rfl (jz ?_));exact ⟨rfl,rfl⟩;apply jjT;exact rfl;rintro w' hq;have:=hq.toStep;refine jT rfl rfl rfl (jm (jn rfl (jz ?_)));exact ⟨rfl,rfl⟩;apply jjT;exact rfl;rintro w' hq;have:=hq.toStep;refine jT rfl rfl rfl (jm (jn rfl (jz ?_)));exact ⟨rfl,rfl⟩;apply jjT;exact rfl;rintro w' hq;have:=hq.toStep;refine jT rfl rfl rfl (jN rfl rfl rfl (jz ?_));exact ⟨rfl,rfl⟩;refine jjT rfl (fun _ _=>jT rfl rfl rfl (jh rfl (jz ⟨rfl,rfl⟩))) (jjU ?_))))
 refine jjV [31] (by decide +kernel) q2 (jjT (v:=.bool false) rfl (fun w' q1=>?_) (jjU ?_));(refine jT rfl rfl rfl (jc rfl rfl ?_);rw [decide_eq_false (by omega)];refine jz ?_;exact ⟨rfl,rfl⟩)
 refine jjV [32] (by decide +kernel) q2 ?_
 (((refine jjT rfl (fun _ _=>jL rfl (eB rfl) (jz ⟨rfl,rfl⟩)) (jjU ?_))))
 refine jjX (by decide +kernel) q2 ?_
 (refine jjK rfl (jjG (jjB (jjC ?_))))
 refine Ops.makeMap (Value.int .i64) ?_
 intro mb w3 hmb hs3 hS3 hM3
 have q3:Ext w w3:=q2.trans hS3.ext
 have z2:=q2.size
 (refine jJ (eM rfl) (jz (jjB (jjB (jjC (jI (eP rfl) ?_)))));refine jw rfl (jm (jn rfl (jm (jn rfl (jN rfl rfl rfl ?_)))));refine jh rfl (jI (eI rfl) (jz (jjD ?_))))
 refine W.keep0 [(0,.pointer (some ⟨bd,0,none⟩)),(3,.map (some mb)),(49,.slice ha hs.length hc),(50,.int .i64 (hs.length:Int)),(51,.int .i64 ((0:Nat):Int))] ⟨eP rfl,eM rfl,eS rfl,eI rfl,eI rfl,trivial⟩ fun s0=>?_
 refine W.loopG (52::53::54::5::55::56::57::58::59::60::61::62::63::64::65::66::67::68::69::70::71::72::73::74::75::76::77::78::79::2::80::81::82::83::51::[]) (fun g s' V=>∃ (k:Nat) (m:List (Int×Value)),s' 51=.int .i64 (k:Int)∧g=hs.length-k∧k≤hs.length∧Ext w V∧MapE (Value.int .i64) V mb m∧∀ x v,mget m x=some v→∃ j,∃ (h:j<hs.length),j<k∧hs[j].1=x) hs.length ⟨0,[],rfl,rfl,Nat.zero_le _,q3,hM3,fun x v h=>by cases h⟩ ?_
 rintro _ sd V ⟨k,m,h51,rfl,hk,hEV,hM,hmg⟩
 refine W.fix h51 ?_
 clear h51
 have hEV':=hEV.toStep
 by_cases hk1:k<hs.length
 ·have hh:=hp.hp k hk1
  have hnone:(mget m hs[k].1).getD (.bool false)=.bool false:=by
   cases e:mget m hs[k].1 with
   | none=>rfl
   | some v =>
     obtain ⟨j,h1,h2,h3⟩:=hmg _ _ e
     exact absurd h3 (hp.hd k hk1 j h2)
  (refine jjB (jjC (jjZ rfl rfl (by omega) (jz (jjB (jjJ rfl ?_)))));refine jjG (jjB (jjD (jjB (jjC ?_))));refine jF rfl rfl rfl (map_get (by omega)) ?_;intro _ _ _;refine jQ rfl rfl ?_)
  (apply jjR rfl;(intro _;first|exact eI rfl|exact eB rfl|exact eP rfl|exact eS rfl|exact eT rfl|exact eA rfl|exact eU rfl|exact eF rfl|exact eM rfl|exact eN rfl|exact rfl);exact rfl;exact rfl;exact rfl;exact rfl;intro b5 w_b5 hb_b5 hs_b5 hS_b5 hk_b5;have hA_b5:=Bk.of hk_b5)
  have hA5:At w_b5 b5 0 [.int .i64 hs[k].1,.int .i64 hs[k].2.1,.int .i64 hs[k].2.2]:=Bk.toAt (h:=hA_b5)
  (refine jz (jjB (jjB (jjC (jm (jn rfl ?_)))));refine jN rfl rfl rfl ?_)
  (refine jjP (v:=.int _ _) rfl (by exact rfl) (by exact rfl) (by exact rfl) (by exact rfl) ?_;intro b57 w_b57 hb_b57 hs_b57 hS_b57 hk_b57;have hR_b57:=RowV.one (agg:=false) (k:=1) rfl hk_b57)
  skip
  refine jjQ (inOne_hand 0 9999 hs[k].1 b57 _ (by omega) hR_b57) rfl rfl ?_
  rintro _ w4 hS4 rfl
  have e4:Ext V w4:=hS_b5.ext.trans (hS_b57.ext.trans hS4.ext)
  (refine jp rfl (jI (eB rfl) (jT rfl rfl rfl (jI (eM rfl) (jT rfl rfl rfl (jm ?_)))));refine jn rfl (jT rfl rfl rfl (jN rfl rfl rfl (jT rfl rfl rfl ?_))))
  refine Ops.lookupV (k:=hs[k].1) (v:=.bool false) hnone (hM.ext e4) rfl rfl ?_
  (refine jL rfl (eB rfl) (jI (eB rfl) (jT rfl rfl rfl (jm (jn rfl (jT rfl rfl rfl ?_)))));refine jN rfl rfl rfl (jT rfl rfl rfl ?_))
  (refine jjP (v:=.int _ _) rfl (by exact rfl) (by exact rfl) (by exact rfl) (by exact rfl) ?_;intro b69 w_b69 hb_b69 hs_b69 hS_b69 hk_b69;have hR_b69:=RowV.one (agg:=false) (k:=1) rfl hk_b69)
  (refine jT rfl rfl rfl ?_)
  refine jjQ (inOne_hand 0 30 hs[k].2.1 b69 _ (by omega) hR_b69) rfl rfl ?_
  rintro _ w5 hS5 rfl
  (refine jT rfl rfl rfl (jp rfl (jL rfl (eB rfl) (jI (eB rfl) (jT rfl rfl rfl (jm ?_)))));refine jn rfl (jT rfl rfl rfl (jN rfl rfl rfl (jT rfl rfl rfl ?_))))
  (refine jjP (v:=.int _ _) rfl (by exact rfl) (by exact rfl) (by exact rfl) (by exact rfl) ?_;intro b76 w_b76 hb_b76 hs_b76 hS_b76 hk_b76;have hR_b76:=RowV.one (agg:=false) (k:=1) rfl hk_b76)
  (refine jT rfl rfl rfl ?_)
  refine jjQ (inOne_hand 1 20 hs[k].2.2 b76 _ (by omega) hR_b76) rfl rfl ?_
  rintro _ w6 hS6 rfl
  have e6:Ext V w6:=e4.trans (hS_b69.ext.trans (hS5.ext.trans (hS_b76.ext.trans hS6.ext)))
  (refine jT rfl rfl rfl (jp rfl (jL rfl (eB rfl) (jz (jjK rfl (jjG ?_)))));refine jjC (jI (eM rfl) (jm (jn rfl (jN rfl rfl rfl ?_)))))
  refine Ops.mapUpdate (k:=hs[k].1) (v:=.bool true) (hM.ext e6) rfl rfl rfl ?_
  intro w7 o7 hp7 hM7
  (refine jz (jjC (jY rfl rfl (by omega) (jI (eI rfl) (jz ?_)))))
  refine ⟨rfl,by (((iterate 35 refine Same.upd rfl ?_);exact Same.ovN)),hs.length-(k+1),by omega,k+1,_,congrArg (Value.int .i64) (by omega),rfl,by omega,hp7.ext (hEV.trans e6) (by omega),hM7,fun x v h=>?_⟩
  by_cases e:x=hs[k].1
  ·exact ⟨k,hk1,by omega,e.symm⟩
  ·rw [mget_set_other _ _ e] at h
   obtain ⟨j,h1,h2,h3⟩:=hmg _ _ h
   exact ⟨j,h1,by omega,h3⟩
 (refine jjB (jjC (jja rfl rfl (by omega) (jz (jjB (jjK rfl ?_)))));refine jjE (jjB (jjC ?_)))
 (refine jjS (cells:=[.int .i64 (-1),.int .i64 (-1),.int .i64 0,.int .i64 0]) ?_ ?_;exact rfl)
 (refine jjS (cells:=[.int .i64 (-1),.int .i64 (-1),.int .i64 0,.int .i64 0]) ?_ ?_;exact rfl)
 (refine jjS (cells:=[.int .i64 (-1),.int .i64 (-1),.int .i64 0,.int .i64 0,.int .i64 (-1),.int .i64 (-1),.int .i64 0,.int .i64 0]) ?_ ?_;exact rfl)
 (apply jjR rfl;(intro _;first|exact eI rfl|exact eB rfl|exact eP rfl|exact eS rfl|exact eT rfl|exact eA rfl|exact eU rfl|exact eF rfl|exact eM rfl|exact eN rfl|exact rfl);exact rfl;exact rfl;exact rfl;exact rfl;intro b6 w_b6 hb_b6 hs_b6 hS_b6 hk_b6;have hA_b6:=Bk.of hk_b6)
 have q6:Ext w w_b6:=hEV.trans hS_b6.ext
 have z6:=hEV.size
 have hA6:Bk w_b6 b6 (shC (befS ss 0 2)++shC (befS ss 0 1)) 201:=by
  rw [bef_0 _ _ _ (by omega),bef_0 _ _ _ (by omega)]
  exact hA_b6
 (refine jz (jjB (jjC (jJ (eB rfl) (jz (jjB ?_)))));refine jjI (jjB (jjB (jjC (jI (eP rfl) (jw rfl ?_)))));refine jm (jn rfl (jm (jn rfl (jN rfl rfl rfl (jh rfl ?_)))));refine jI (eI rfl) (jz (jjD ?_)))
 refine W.keep0 [(0,.pointer (some ⟨bd,0,none⟩)),(6,.pointer (some ⟨b6,0,none⟩)),(7,.bool true),(91,.slice sa ss.length sc),(92,.int .i64 (ss.length:Int)),(93,.int .i64 ((0:Nat):Int))] ⟨eP rfl,eP rfl,eB rfl,eS rfl,eI rfl,eI rfl,trivial⟩ fun s1=>?_
 refine W.loopG (94::95::96::97::9::8::98::99::100::101::102::103::104::105::10::106::107::108::109::110::111::112::113::114::115::116::117::118::119::120::121::122::123::124::125::126::127::128::129::130::131::132::133::134::135::136::137::138::139::140::141::142::143::144::145::146::147::148::149::150::151::152::153::154::155::156::157::158::159::160::161::162::163::164::165::166::167::168::169::170::171::172::173::174::175::176::177::178::179::180::181::182::183::7::184::185::186::187::188::189::190::191::192::193::194::195::93::[]) (fun g s' V=>∃ i:Nat,s' 93=.int .i64 (i:Int)∧s' 7=.bool true∧g=ss.length-i∧i≤ss.length∧Ext w V∧Bk V b6 (shC (befS ss i 2)++shC (befS ss i 1)) 201) ss.length ⟨0,rfl,rfl,rfl,Nat.zero_le _,q6,hA6⟩ ?_
 clear hmg hM hEV' hEV hk hk1 hA6 q6
 rintro _ sd2 V ⟨i,h93,h7,rfl,hi,hEV,hB6⟩
 refine W.fix h93 (W.fix (d:=7) h7 ?_)
 clear h93 h7
 have hEV':=hEV.toStep
 by_cases hi1:i<ss.length
 rotate_left
 ·(refine jjB (jjC (jja rfl rfl (by omega) (jz (jjB (jjK rfl ?_)))));refine jjE (jjB (jjC (jI (eB rfl) (jJ (eB rfl) (jz ?_)))));refine jjF ?_;refine jB rfl rfl ⟨inferInstance,?_⟩)
  exact rfl
 have sp:=hp.sp i hi1
 have hix:i<xs.length:=by omega
 have sh:=hp.sh i hix
 obtain ⟨s0',hs0⟩:∃ q,befS ss i 2=q:=⟨_,rfl⟩
 obtain ⟨s1',hs1'⟩:∃ q,befS ss i 1=q:=⟨_,rfl⟩
 have ord:s1'.1<ss[i].1∧s1'.2.1<ss[i].2.1∧s0'.2.1<ss[i].1:=by
  rw [←hs0,←hs1']
  refine ⟨?_,?_,?_⟩
  ·by_cases h:1≤i
   ·rw [bef_k h (by omega)];exact (hp.so i hi1 (by omega)).1
   ·rw [bef_0 _ _ _ (by omega)];simp only;omega
  ·by_cases h:1≤i
   ·rw [bef_k h (by omega)];exact (hp.so i hi1 (by omega)).2
   ·rw [bef_0 _ _ _ (by omega)];simp only;omega
  ·by_cases h:2≤i
   ·rw [bef_k h (by omega)];exact hp.so2 i hi1 (by omega)
   ·rw [bef_0 _ _ _ (by omega)];simp only;omega
 rw [hs0,hs1'] at hB6
 obtain ⟨nx1,nx2⟩:=bef_next hi1
 rw [hs1'] at nx2
 have hA6:At V b6 0 [.int .i64 s0'.1,.int .i64 s0'.2.1,.int .i64 s0'.2.2.1,.int .i64 s0'.2.2.2,.int .i64 s1'.1,.int .i64 s1'.2.1,.int .i64 s1'.2.2.1,.int .i64 s1'.2.2.2]:=Bk.toAt (h:=hB6)
 obtain ⟨B,hB⟩:∃ B,xs[i].1=B:=⟨_,rfl⟩
 (refine jjB (jjC (jjZ rfl rfl (by omega) (jz (jjB (jjJ rfl ?_)))));refine jjG (jjB (jjD (jjB (jjC (jI (eI rfl) ?_)))));refine jF rfl rfl rfl (map_get (by omega)) ?_;intro _ _ _;refine jQ rfl rfl ?_)
 ((skip);refine jjY ?_;intro b9 w_b9 hb_b9 hs_b9 hS_b9 hk_b9;have hA_b9:=Bk.of hk_b9)
 (apply jJ;exact eI rfl)
 refine Ops.store rfl rfl rfl rfl rfl ?_
 intro w8 hp8
 have e8:Ext V w8:=hp8.ext hS_b9.ext (by omega)
 have A9:At w8 b9 0 [.int .i64 ss[i].1,.int .i64 ss[i].2.1,.int .i64 ss[i].2.2.1,.int .i64 ss[i].2.2.2]:=Bk.toAt (h:=⟨hp8.new⟩)
 have e8':=e8.toStep
 have e8w:=(hEV.trans e8).toStep
 (refine jz (jjB (jjC (jI (eP rfl) (jw rfl (jm ?_)))));refine jn rfl (jm (jn rfl (jN rfl rfl rfl (jI (eI rfl) ?_))));refine jF rfl rfl rfl (map_get (by omega)) ?_;intro _ _ _;refine jQ rfl rfl ?_)
 ((skip);refine jjY ?_;intro b10 w_b10 hb_b10 hs_b10 hS_b10 hk_b10;have hA_b10:=Bk.of hk_b10)
 skip
 refine Ops.store rfl rfl rfl rfl rfl ?_
 intro w9 hp9
 have e9:Ext w8 w9:=hp9.ext hS_b10.ext (by omega)
 have A10:At w9 b10 0 [.bool xs[i].1,.slice xs[i].2.1 xs[i].2.2.2.length xs[i].2.2.1]:=Bk.toAt (h:=⟨hp9.new⟩)
 rw [hB] at A10
 have e9':=e9.toStep
 have e9v:=(e8.trans e9).toStep
 have e9w:=(hEV.trans (e8.trans e9)).toStep
 (refine jz (jjB ?_))
 refine W.draw (fun w'=>Ext w9 w') ?_
 intro x1 hX1
 have p1:=hX1.ext
 refine jjV [0,1,2,3,4,5,6,7,8,9] (by decide +kernel) p1 ?_
 (((refine jjT rfl (fun _ _=>jI (eP rfl) (jz ⟨rfl,rfl⟩)) ?_;apply jjT;exact rfl;rintro w' hq;have:=hq.toStep;refine jw rfl (jz ?_);exact ⟨rfl,rfl⟩;apply jjT;exact rfl;rintro w' hq;have:=hq.toStep;refine jm (jn rfl (jz ?_));exact ⟨rfl,rfl⟩;apply jjT;exact rfl;rintro w' hq;have:=hq.toStep;refine jN rfl rfl rfl (jz ?_);exact ⟨rfl,rfl⟩;refine jjT rfl (fun _ _=>jh rfl (jz ⟨rfl,rfl⟩)) (jjT rfl (fun _ _=>jZ rfl rfl (by omega) (jz ⟨rfl,rfl⟩)) ?_);apply jjT;exact rfl;rintro w' hq;have:=hq.toStep;refine jm (jn rfl (jz ?_));exact ⟨rfl,rfl⟩;apply jjT;exact rfl;rintro w' hq;have:=hq.toStep;refine jN rfl rfl rfl (jz ?_);exact ⟨rfl,rfl⟩;apply jjT;exact rfl;rintro w' hq;have:=hq.toStep;refine jm (jn rfl (jz ?_));exact ⟨rfl,rfl⟩;apply jjT;exact rfl;rintro w' hq;have:=hq.toStep;refine jN rfl rfl rfl (jz ?_);exact ⟨rfl,rfl⟩;refine jjU ?_)))
 (apply jjW 10;(decide +kernel);exact rfl;(exact p1))
 refine Ops.buildSliceF (cells:=[.int .i64 ss[i].1,.int .i64 ss[i].2.1]) rfl rfl rfl ?_
 intro b116 x2 hb10 hs10 hX2 hk10
 have R116:RowV x2 false 1 (.slice (some ⟨b116,0,none⟩) 2 2) [.int .i64 ss[i].1,.int .i64 ss[i].2.1]:=row_two (Bk.toAt (h:=hk10))
 have p2:=p1.trans hX2.ext
 refine jz ?_
 (apply jjW 11;(decide +kernel);exact rfl;(exact p2))
 refine jjQ (inTwo_hand 0 ((L.length:Int)-1) ss[i].1 ss[i].2.1 b116 _ (by omega) (by omega) R116) rfl rfl ?_
 rintro _ x3 hX3 rfl
 have p3:=p2.trans hX3.ext
 refine jz ?_
 refine jjV [12,13,14,15,16,17,18,19,20,21,22,23,24,25,26,27,28] (by decide +kernel) p3 ?_
 (((refine jjT rfl (fun _ _=>jI (eB rfl) (jz ⟨rfl,rfl⟩)) ?_;apply jjT;exact rfl;rintro w' hq;have:=hq.toStep;refine jT rfl rfl rfl (jm (jn rfl (jz ?_)));exact ⟨rfl,rfl⟩;apply jjT;exact rfl;rintro w' hq;have:=hq.toStep;refine jT rfl rfl rfl (jN rfl rfl rfl (jz ?_));exact ⟨rfl,rfl⟩;apply jjT;exact rfl;rintro w' hq;have:=hq.toStep;refine jT rfl rfl rfl (jm (jn rfl (jz ?_)));exact ⟨rfl,rfl⟩;apply jjT;exact rfl;rintro w' hq;have:=hq.toStep;refine jT rfl rfl rfl (jN rfl rfl rfl (jz ?_));exact ⟨rfl,rfl⟩;refine jjT rfl (fun _ _=>jT rfl rfl rfl (jjb rfl rfl (by omega) (jz ⟨rfl,rfl⟩))) (jjT rfl (fun _ _=>jK rfl (eB rfl) (jz ⟨rfl,rfl⟩)) (jjT rfl (fun _ _=>jI (eB rfl) (jz ⟨rfl,rfl⟩)) (jjT rfl (fun _ _=>jT rfl rfl rfl (jI (eP rfl) (jz ⟨rfl,rfl⟩))) ?_)));apply jjT;exact rfl;rintro w' hq;have:=hq.toStep;refine jT rfl rfl rfl (jw rfl (jz ?_));exact ⟨rfl,rfl⟩;apply jjT;exact rfl;rintro w' hq;have:=hq.toStep;refine jT rfl rfl rfl (jm (jn rfl (jz ?_)));exact ⟨rfl,rfl⟩;apply jjT;exact rfl;rintro w' hq;have:=hq.toStep;refine jT rfl rfl rfl (jm (jn rfl (jz ?_)));exact ⟨rfl,rfl⟩;apply jjT;exact rfl;rintro w' hq;have:=hq.toStep;refine jT rfl rfl rfl (jN rfl rfl rfl (jz ?_));exact ⟨rfl,rfl⟩;refine jjT rfl (fun _ _=>jT rfl rfl rfl (jh rfl (jz ⟨rfl,rfl⟩))) (jjT rfl (fun _ _=>jT rfl rfl rfl (jZ rfl rfl (by omega) (jz ⟨rfl,rfl⟩))) ?_);apply jjT;exact rfl;rintro w' hq;have:=hq.toStep;refine jT rfl rfl rfl (jm (jn rfl (jz ?_)));exact ⟨rfl,rfl⟩;apply jjT;exact rfl;rintro w' hq;have:=hq.toStep;refine jT rfl rfl rfl (jN rfl rfl rfl (jz ?_));exact ⟨rfl,rfl⟩;refine jjU ?_)))
 (apply jjW 29;(decide +kernel);exact rfl;(exact p3))
 refine jT rfl rfl rfl ?_
 (refine jjP (v:=.int _ _) rfl (by exact rfl) (by exact rfl) (by exact rfl) (by exact rfl) ?_;intro b135 w_b135 hb_b135 hs_b135 hS_b135 hk_b135;have hR_b135:=RowV.one (agg:=false) (k:=1) rfl hk_b135)
 have p4:=p3.trans hS_b135.ext
 refine jz ?_
 (apply jjW 30;(decide +kernel);exact rfl;(exact p4))
 refine jT rfl rfl rfl ?_
 refine jjQ (inOne_hand 0 ((hs.length:Int)-1) ss[i].2.2.1 b135 _ (by omega) hR_b135) rfl rfl ?_
 rintro _ x5 hX5 rfl
 have p5:=p4.trans hX5.ext
 refine jz ?_
 refine jjV [31,32,33,34] (by decide +kernel) p5 ?_
 (((refine jjT rfl (fun _ _=>jK rfl (eB rfl) (jz ⟨rfl,rfl⟩)) (jjT rfl (fun _ _=>jI (eB rfl) (jz ⟨rfl,rfl⟩)) ?_);apply jjT;exact rfl;rintro w' hq;have:=hq.toStep;refine jT rfl rfl rfl (jm (jn rfl (jz ?_)));exact ⟨rfl,rfl⟩;apply jjT;exact rfl;rintro w' hq;have:=hq.toStep;refine jT rfl rfl rfl (jN rfl rfl rfl (jz ?_));exact ⟨rfl,rfl⟩;refine jjU ?_)))
 (apply jjW 35;(decide +kernel);exact rfl;(exact p5))
 refine jT rfl rfl rfl ?_
 (refine jjP (v:=.int _ _) rfl (by exact rfl) (by exact rfl) (by exact rfl) (by exact rfl) ?_;intro b141 w_b141 hb_b141 hs_b141 hS_b141 hk_b141;have hR_b141:=RowV.one (agg:=false) (k:=1) rfl hk_b141)
 have p6:=p5.trans hS_b141.ext
 refine jz ?_
 (apply jjW 36;(decide +kernel);exact rfl;(exact p6))
 refine jT rfl rfl rfl ?_
 refine jjQ (inOne_hand 0 400 ss[i].2.2.2 b141 _ (by omega) hR_b141) rfl rfl ?_
 rintro _ x7 hX7 rfl
 have p7:=p6.trans hX7.ext
 have A6:∀ V',Ext w9 V'→At V' b6 0 [.int .i64 s0'.1,.int .i64 s0'.2.1,.int .i64 s0'.2.2.1,.int .i64 s0'.2.2.2,.int .i64 s1'.1,.int .i64 s1'.2.1,.int .i64 s1'.2.2.1,.int .i64 s1'.2.2.2]:=fun V' e=>hA6.ext (e8.trans (e9.trans e))
 refine jz ?_
 refine jjV [37,38,39,40] (by decide +kernel) p7 ?_
 (((refine jjT rfl (fun _ _=>jK rfl (eB rfl) (jz ⟨rfl,rfl⟩)) (jjT rfl (fun _ _=>jI (eB rfl) (jz ⟨rfl,rfl⟩)) ?_);apply jjT;exact rfl;rintro w' hq;have:=hq.toStep;refine jT rfl rfl rfl (jm (jn rfl (jz ?_)));exact ⟨rfl,rfl⟩;apply jjT;exact rfl;rintro w' hq;have:=hq.toStep;refine jT rfl rfl rfl (jN rfl rfl rfl (jz ?_));exact ⟨rfl,rfl⟩;refine jjU ?_)))
 refine jjV [41] (by decide +kernel) p7 (jjT (v:=.pointer (some ⟨b6,4,none⟩)) rfl (fun w' q1=>?_) (jjU ?_));(refine jT rfl rfl rfl ?_;refine Ops.indexAP 1 rfl rfl rfl rfl ?_;refine jz ?_;exact ⟨rfl,rfl⟩)
 refine jjV [42] (by decide +kernel) p7 ?_
 (((apply jjT;exact rfl;rintro w' hq;refine jT rfl rfl rfl (jm (jn rfl (jz ?_)));exact ⟨rfl,rfl⟩;refine jjU ?_)))
 refine jjV [43] (by decide +kernel) p7 (jjT (v:=.int .i64 s1'.1) rfl (fun w' q1=>?_) (jjU ?_));(refine jT rfl rfl rfl ?_;refine jR ((A6 _ q1).get (i:=4) rfl) rfl rfl ?_;refine jz ?_;exact ⟨rfl,rfl⟩)
 refine jjV [44,45,46,47,48] (by decide +kernel) p7 ?_
 (((refine jjT rfl (fun _ _=>jT rfl rfl rfl (jjd rfl rfl (by omega) (jz ⟨rfl,rfl⟩))) (jjT rfl (fun _ _=>jK rfl (eB rfl) (jz ⟨rfl,rfl⟩)) (jjT rfl (fun _ _=>jI (eB rfl) (jz ⟨rfl,rfl⟩)) ?_));apply jjT;exact rfl;rintro w' hq;have:=hq.toStep;refine jT rfl rfl rfl (jm (jn rfl (jz ?_)));exact ⟨rfl,rfl⟩;apply jjT;exact rfl;rintro w' hq;have:=hq.toStep;refine jT rfl rfl rfl (jN rfl rfl rfl (jz ?_));exact ⟨rfl,rfl⟩;refine jjU ?_)))
 refine jjV [49] (by decide +kernel) p7 (jjT (v:=.pointer (some ⟨b6,4,none⟩)) rfl (fun w' q1=>?_) (jjU ?_));(refine jT rfl rfl rfl ?_;refine Ops.indexAP 1 rfl rfl rfl rfl ?_;refine jz ?_;exact ⟨rfl,rfl⟩)
 refine jjV [50] (by decide +kernel) p7 ?_
 (((apply jjT;exact rfl;rintro w' hq;refine jT rfl rfl rfl (jm (jn rfl (jz ?_)));exact ⟨rfl,rfl⟩;refine jjU ?_)))
 refine jjV [51] (by decide +kernel) p7 (jjT (v:=.int .i64 s1'.2.1) rfl (fun w' q1=>?_) (jjU ?_));(refine jT rfl rfl rfl ?_;refine jR ((A6 _ q1).get (i:=5) rfl) rfl rfl ?_;refine jz ?_;exact ⟨rfl,rfl⟩)
 refine jjV [52,53,54,55,56] (by decide +kernel) p7 ?_
 (((refine jjT rfl (fun _ _=>jT rfl rfl rfl (jjd rfl rfl (by omega) (jz ⟨rfl,rfl⟩))) (jjT rfl (fun _ _=>jK rfl (eB rfl) (jz ⟨rfl,rfl⟩)) (jjT rfl (fun _ _=>jI (eB rfl) (jz ⟨rfl,rfl⟩)) ?_));apply jjT;exact rfl;rintro w' hq;have:=hq.toStep;refine jT rfl rfl rfl (jm (jn rfl (jz ?_)));exact ⟨rfl,rfl⟩;apply jjT;exact rfl;rintro w' hq;have:=hq.toStep;refine jT rfl rfl rfl (jN rfl rfl rfl (jz ?_));exact ⟨rfl,rfl⟩;refine jjU ?_)))
 refine jjV [57] (by decide +kernel) p7 (jjT (v:=.pointer (some ⟨b6,0,none⟩)) rfl (fun w' q1=>?_) (jjU ?_));(refine jT rfl rfl rfl ?_;refine Ops.indexAP 0 rfl rfl rfl rfl ?_;refine jz ?_;exact ⟨rfl,rfl⟩)
 refine jjV [58] (by decide +kernel) p7 ?_
 (((apply jjT;exact rfl;rintro w' hq;refine jT rfl rfl rfl (jm (jn rfl (jz ?_)));exact ⟨rfl,rfl⟩;refine jjU ?_)))
 refine jjV [59] (by decide +kernel) p7 (jjT (v:=.int .i64 s0'.2.1) rfl (fun w' q1=>?_) (jjU ?_));(refine jT rfl rfl rfl ?_;refine jR ((A6 _ q1).get (i:=1) rfl) rfl rfl ?_;refine jz ?_;exact ⟨rfl,rfl⟩)
 refine jjV [60,61,62,63,64,65,66,67,68,69] (by decide +kernel) p7 ?_
 (((refine jjT rfl (fun _ _=>jT rfl rfl rfl (jjd rfl rfl (by omega) (jz ⟨rfl,rfl⟩))) (jjT rfl (fun _ _=>jK rfl (eB rfl) (jz ⟨rfl,rfl⟩)) (jjT rfl (fun _ _=>jI (eB rfl) (jz ⟨rfl,rfl⟩)) ?_));apply jjT;exact rfl;rintro w' hq;have:=hq.toStep;refine jT rfl rfl rfl (jm (jn rfl (jz ?_)));exact ⟨rfl,rfl⟩;apply jjT;exact rfl;rintro w' hq;have:=hq.toStep;refine jT rfl rfl rfl (jN rfl rfl rfl (jz ?_));exact ⟨rfl,rfl⟩;refine jjT rfl (fun _ _=>jT rfl rfl rfl (jh rfl (jz ⟨rfl,rfl⟩))) (jjT rfl (fun _ _=>jT rfl rfl rfl (jjb rfl rfl (by omega) (jz ⟨rfl,rfl⟩))) (jjT rfl (fun _ _=>jK rfl (eB rfl) (jz ⟨rfl,rfl⟩)) (jjT rfl (fun _ _=>jI (eB rfl) (jz ⟨rfl,rfl⟩)) ?_)));apply jjT;exact rfl;rintro w' hq;have:=hq.toStep;refine jT rfl rfl rfl (jm (jn rfl (jz ?_)));exact ⟨rfl,rfl⟩;refine jjU ?_)))
 cases B
 ·have hz:xs[i].2.2.2.length=0:=sh.2.1.resolve_left (by rw [hB];decide)
  refine jjV [70,71,72,73,74] (by decide +kernel) p7 ?_
  (((apply jjT;exact rfl;rintro w' hq;have:=hq.toStep;refine jT rfl rfl rfl (jN rfl rfl rfl (jz ?_));exact ⟨rfl,rfl⟩;refine jjT rfl (fun _ _=>jT rfl rfl rfl (jI (eB rfl) (jz ⟨rfl,rfl⟩))) ?_;apply jjT;exact rfl;rintro w' hq;have:=hq.toStep;refine jT rfl rfl rfl (jm (jn rfl (jz ?_)));exact ⟨rfl,rfl⟩;apply jjT;exact rfl;rintro w' hq;have:=hq.toStep;refine jT rfl rfl rfl (jN rfl rfl rfl (jz ?_));exact ⟨rfl,rfl⟩;refine jjT rfl (fun _ _=>jT rfl rfl rfl (jh rfl (jz ⟨rfl,rfl⟩))) (jjU ?_))))
  refine jjV [75] (by decide +kernel) p7 (jjT (v:=.bool true) rfl (fun w' q1=>?_) (jjU ?_));(refine jT rfl rfl rfl (jb rfl rfl ?_);rw [decide_eq_true (by omega)];refine jz ?_;exact ⟨rfl,rfl⟩)
  refine jjV [76,77,78] (by decide +kernel) p7 ?_
  (((refine jjT rfl (fun _ _=>jT rfl rfl rfl (jL rfl (eB rfl) (jz ⟨rfl,rfl⟩))) (jjT rfl (fun _ _=>jK rfl (eB rfl) (jz ⟨rfl,rfl⟩)) (jjT rfl (fun _ _=>jJ (eB rfl) (jz ⟨rfl,rfl⟩)) (jjU ?_))))))
  have p8:=hX7.ext
  refine jjX (by decide +kernel) p7 ?_
  have P7:=p7.toStep
  have P7v:=(e8.trans (e9.trans p7)).toStep
  have P7w:=(hEV.trans (e8.trans (e9.trans p7))).toStep
  have hB67:Bk x7 b6 (shC s0'++shC s1') 201:=hB6.ext (e8.trans (e9.trans p7))
  (refine jjB (jjB (jjC (jI (eB rfl) (jp rfl (jI (eB rfl) ?_)))));refine jT rfl rfl rfl (jm (jn rfl (jT rfl rfl rfl (jN rfl rfl rfl (jT rfl rfl rfl ?_))))))
  refine jjQ ((ContainsFunc_Slstring _ _ (.func (.func 100) #[] #[]) encLn xs[i].2.2.2 (fun _=>false) ((hxi.line hix).h.ext (hEV.trans (e8.trans (e9.trans p7)))) ⟨_,[],rfl,inferInstance,fun w' y hy hs'=>by
   obtain ⟨n,hn,rfl⟩:=List.mem_iff_getElem.1 hy
   exact right1_hand _ w' ((hxi.word hix hn).h.ext ((hEV.trans (e8.trans (e9.trans p7))).trans hs')) (sh.2.2 n hn)⟩).mono fun v _ _ h=>h.trans (by rw [any_false'])) rfl rfl ?_
  rintro _ x8 hX8 rfl
  have hB68:=hB67.ext hX8.ext
  have A68:At x8 b6 0 [.int .i64 s0'.1,.int .i64 s0'.2.1,.int .i64 s0'.2.2.1,.int .i64 s0'.2.2.2,.int .i64 s1'.1,.int .i64 s1'.2.1,.int .i64 s1'.2.2.1,.int .i64 s1'.2.2.2]:=Bk.toAt (h:=hB68)
  (refine jL rfl (eB rfl) (jz (jjK rfl (jjG (jjC ?_)))))
  refine Ops.indexAP 1 rfl rfl rfl rfl ?_
  (refine jO rfl rfl rfl rfl (jO rfl rfl rfl rfl ?_))
  (refine jjS (cells:=[.int .i64 s1'.1,.int .i64 s1'.2.1,.int .i64 s1'.2.2.1,.int .i64 s1'.2.2.2,.int .i64 ss[i].1,.int .i64 ss[i].2.1,.int .i64 ss[i].2.2.1,.int .i64 ss[i].2.2.2]) ?_ ?_;exact rfl)
  refine Ops.store (hb:=hB68) rfl rfl rfl rfl rfl ?_
  intro y1 hpY
  have eY:Ext w y1:=hpY.ext ((hEV.trans (e8.trans (e9.trans p7))).trans hX8.ext) (by omega)
  have hBY:Bk y1 b6 (shC (befS ss (i+1) 2)++shC (befS ss (i+1) 1)) 201:=by
   rw [nx1,nx2]
   exact ⟨hpY.new⟩
  (refine jz (jjC (jY rfl rfl (by omega) (jI (eI rfl) (jz ?_)))))
  exact ⟨rfl,by (((iterate 109 refine Same.upd rfl ?_);exact Same.ovN)),ss.length-(i+1),by omega,i+1,congrArg (Value.int .i64) (by omega),rfl,rfl,by omega,eY,hBY⟩
 ·refine jjV [70,71,72,73,74,75,76,77,78] (by decide +kernel) p7 ?_
  (((apply jjT;exact rfl;rintro w' hq;have:=hq.toStep;refine jT rfl rfl rfl (jN rfl rfl rfl (jz ?_));exact ⟨rfl,rfl⟩;refine jjT rfl (fun _ _=>jT rfl rfl rfl (jI (eB rfl) (jz ⟨rfl,rfl⟩))) (jjT rfl (fun _ _=>jU rfl rfl rfl rfl (jz ⟨rfl,rfl⟩)) (jjT rfl (fun _ _=>jU rfl rfl rfl rfl (jz ⟨rfl,rfl⟩)) (jjT rfl (fun _ _=>jU rfl rfl rfl rfl (jz ⟨rfl,rfl⟩)) (jjT rfl (fun _ _=>jU rfl rfl rfl rfl (jz ⟨rfl,rfl⟩)) (jjT rfl (fun _ _=>jT rfl rfl rfl (jK rfl (eB rfl) (jz ⟨rfl,rfl⟩))) ?_)))));refine jjT rfl (fun _ _=>jK rfl (eB rfl) (jz ⟨rfl,rfl⟩)) (jjT rfl (fun _ _=>jJ (eB rfl) (jz ⟨rfl,rfl⟩)) (jjU ?_)))))
  have p8:=hX7.ext
  refine jjX (by decide +kernel) p7 ?_
  have P7:=p7.toStep
  have P7v:=(e8.trans (e9.trans p7)).toStep
  have P7w:=(hEV.trans (e8.trans (e9.trans p7))).toStep
  have hB67:Bk x7 b6 (shC s0'++shC s1') 201:=hB6.ext (e8.trans (e9.trans p7))
  (refine jjB (jjB (jjC (jI (eB rfl) (jp rfl (jI (eB rfl) ?_)))));refine jT rfl rfl rfl (jm (jn rfl (jT rfl rfl rfl (jN rfl rfl rfl (jT rfl rfl rfl ?_))))))
  refine jjQ ((ContainsFunc_Slstring _ _ (.func (.func 100) #[] #[]) encLn xs[i].2.2.2 (fun _=>false) ((hxi.line hix).h.ext (hEV.trans (e8.trans (e9.trans p7)))) ⟨_,[],rfl,inferInstance,fun w' y hy hs'=>by
   obtain ⟨n,hn,rfl⟩:=List.mem_iff_getElem.1 hy
   exact right1_hand _ w' ((hxi.word hix hn).h.ext ((hEV.trans (e8.trans (e9.trans p7))).trans hs')) (sh.2.2 n hn)⟩).mono fun v _ _ h=>h.trans (by rw [any_false'])) rfl rfl ?_
  rintro _ x8 hX8 rfl
  have hB68:=hB67.ext hX8.ext
  have A68:At x8 b6 0 [.int .i64 s0'.1,.int .i64 s0'.2.1,.int .i64 s0'.2.2.1,.int .i64 s0'.2.2.2,.int .i64 s1'.1,.int .i64 s1'.2.1,.int .i64 s1'.2.2.1,.int .i64 s1'.2.2.2]:=Bk.toAt (h:=hB68)
  (refine jL rfl (eB rfl) (jz (jjK rfl (jjG (jjC ?_)))))
  refine Ops.indexAP 1 rfl rfl rfl rfl ?_
  (refine jO rfl rfl rfl rfl (jO rfl rfl rfl rfl ?_))
  (refine jjS (cells:=[.int .i64 s1'.1,.int .i64 s1'.2.1,.int .i64 s1'.2.2.1,.int .i64 s1'.2.2.2,.int .i64 ss[i].1,.int .i64 ss[i].2.1,.int .i64 ss[i].2.2.1,.int .i64 ss[i].2.2.2]) ?_ ?_;exact rfl)
  refine Ops.store (hb:=hB68) rfl rfl rfl rfl rfl ?_
  intro y1 hpY
  have eY:Ext w y1:=hpY.ext ((hEV.trans (e8.trans (e9.trans p7))).trans hX8.ext) (by omega)
  have hBY:Bk y1 b6 (shC (befS ss (i+1) 2)++shC (befS ss (i+1) 1)) 201:=by
   rw [nx1,nx2]
   exact ⟨hpY.new⟩
  (refine jz (jjC (jY rfl rfl (by omega) (jI (eI rfl) (jz ?_)))))
  exact ⟨rfl,by (((iterate 109 refine Same.upd rfl ?_);exact Same.ovN)),ss.length-(i+1),by omega,i+1,congrArg (Value.int .i64) (by omega),rfl,rfl,by omega,eY,hBY⟩
end

theorem inOne_chart (lo hi n:Int) (b:Nat) (w:World) (h:lo≤n∧n≤hi) (hR:RowV w false 1 (.slice (some ⟨b,0,none⟩) 1 1) [.int .i64 n]):Ct Tryz.prog 117 [.int .i64 lo,.int .i64 hi,.slice (some ⟨b,0,none⟩) 1 1] w fun v _=>v=.bool true :=
 (in_chart lo hi _ [n] w hR).mono fun v _ _ e=>e.trans (by rw [all_1,inB,decide_eq_true h])
theorem inTwo_chart (lo hi m n:Int) (b:Nat) (w:World) (h:lo≤m∧m≤hi) (h2:lo≤n∧n≤hi) (hR:RowV w false 1 (.slice (some ⟨b,0,none⟩) 2 2) [.int .i64 m,.int .i64 n]):Ct Tryz.prog 117 [.int .i64 lo,.int .i64 hi,.slice (some ⟨b,0,none⟩) 2 2] w fun v _=>v=.bool true :=
 (in_chart lo hi _ [m,n] w hR).mono fun v _ _ e=>e.trans (by rw [List.all_cons,List.all_cons,List.all_nil,inB,inB,decide_eq_true h,decide_eq_true h2];rfl)
theorem tq_len {cs:List Ch} (h:txF cs=tqT):∃ (b:Option Addr) (d:Nat) (ls:List Ln),cs=[(3,b,d,ls)]∧ls.length=2:=by
 have hl:cs.length=1:=by rw [←txF_len,h];rfl
 match cs,hl with
 | [x],_ =>
   obtain ⟨n,b,d,ls⟩:=x
   simp only [txF,List.map_cons,List.map_nil,tqT,List.cons.injEq,Prod.mk.injEq,and_true] at h
   obtain ⟨rfl,h2⟩:=h
   have:=congrArg List.length h2
   rw [List.length_map] at this
   exact ⟨b,d,ls,rfl,this⟩
section
variable (a:Option Addr) (c:Nat) (b:Option Addr) (d:Nat) (ls:List Ln) (w:World) [hrow:RowI w (.slice a ([(3,b,d,ls)]:List Ch).length c) true 2 (([(3,b,d,ls)]:List Ch).map encCh)]
include hrow in
theorem checks1_chart:Ct Tryz.prog 189 [.agg #[.slice a 1 c],encSt tqS] w fun v _=>v=.bool true:=by
 have:=hrow
 refine Ct.ofW (by simp) ?_
 (refine jjB (jjC ?_))
 (refine jy rfl ?_;intro b2 w_b2 hb_b2 hs_b2 hS_b2 hk_b2;have hA_b2:=At.ofBlock hk_b2)
 skip
 (refine jy rfl ?_;intro b3 w_b3 hb_b3 hs_b3 hS_b3 hk_b3;have hA_b3:=At.ofBlock hk_b3)
 have A2:At w_b3 b2 0 [.slice a 1 c]:=(At.ofBlock hk_b2).ext hS_b3.ext
 have A3:At w_b3 b3 0 [.int .i64 0,.int .i64 1,.int .i64 2,.int .i64 4,.int .i64 7]:=At.ofBlock hk_b3
 (refine jJ (eB rfl) (jz (jjB (jjC (jm (jn rfl ?_)))));refine jN rfl rfl rfl (jh rfl (jZ rfl rfl (by omega) (jm (jn rfl (jN rfl rfl rfl ?_))))))
 (refine jjP (v:=.int _ _) rfl (by exact rfl) (by exact rfl) (by exact rfl) (by exact rfl) ?_;intro b11 w_b11 hb_b11 hs_b11 hS_b11 hk_b11;have hR_b11:=RowV.one (agg:=false) (k:=1) rfl hk_b11)
 skip
 refine jjQ (inOne_chart 0 _ 0 b11 _ ⟨by omega,?_⟩ hR_b11) rfl rfl ?_
 ·decide
 rintro _ w4 hS4 rfl
 (refine jJ (eB rfl) (jz (jjF ?_));refine jB rfl rfl ⟨inferInstance,?_⟩)
 exact rfl
include hrow in
theorem checks2_chart (hl:ls.length=2):Ct Tryz.prog 190 [.agg #[.slice a 1 c],encSt tqS] w fun v _=>v=.bool true:=by
 have gp:(([(3,b,d,ls)]:List Ch).map encCh)[0]?=some (encCh (3,b,d,ls)):=rfl
 obtain ⟨pb,po,rfl,-⟩:=hrow.h.place' gp
 have AC:∀ V,Ext w V→At V pb (po+0 * 2) [.int .i64 3,.slice b ls.length d]:=fun V hE=>place_k (hrow.h.ext hE) gp
 clear hrow
 refine Ct.ofW (by simp) ?_
 (refine jjB (jjC ?_))
 (refine jy rfl ?_;intro b2 w_b2 hb_b2 hs_b2 hS_b2 hk_b2;have hA_b2:=At.ofBlock hk_b2)
 skip
 (refine jy rfl ?_;intro b3 w_b3 hb_b3 hs_b3 hS_b3 hk_b3;have hA_b3:=At.ofBlock hk_b3)
 have A2:At w_b3 b2 0 [.slice (some ⟨pb,po,none⟩) 1 c]:=(At.ofBlock hk_b2).ext hS_b3.ext
 have A3:At w_b3 b3 0 [.int .i64 0,.int .i64 1,.int .i64 2,.int .i64 4,.int .i64 7]:=At.ofBlock hk_b3
 (refine jJ (eB rfl) (jz (jjB (jjC (jm (jn rfl ?_)))));refine jN rfl rfl rfl (jm (jn rfl (jN rfl rfl rfl ?_))))
 refine jH 0 rfl rfl rfl (by omega) ?_
 have A4:=AC _ (hS_b2.ext.trans hS_b3.ext)
 (refine jm (jn rfl (jP rfl rfl rfl (jh rfl (jJ (eI rfl) (jz ?_)))));refine jjB (jjC (jI (eI rfl) (jZ rfl rfl (by omega) (jm (jn rfl ?_)))));refine jN rfl rfl rfl ?_)
 (refine jjP (v:=.int _ _) rfl (by exact rfl) (by exact rfl) (by exact rfl) (by exact rfl) ?_;intro b18 w_b18 hb_b18 hs_b18 hS_b18 hk_b18;have hR_b18:=RowV.one (agg:=false) (k:=1) rfl hk_b18)
 skip
 refine jjQ (inOne_chart 0 ((ls.length:Int)-1) 1 b18 _ (by omega) hR_b18) rfl rfl ?_
 rintro _ w5 hS5 rfl
 (refine jI (eB rfl) (jT rfl rfl rfl (jm (jn rfl (jT rfl rfl rfl (jN rfl rfl rfl ?_)))));refine jT rfl rfl rfl (jY rfl rfl (by omega) (jT rfl rfl rfl (jI (eI rfl) (jT rfl rfl rfl (jm ?_)))));refine jn rfl (jT rfl rfl rfl (jN rfl rfl rfl (jT rfl rfl rfl ?_))))
 (refine jjP (v:=.int _ _) rfl (by exact rfl) (by exact rfl) (by exact rfl) (by exact rfl) ?_;intro b27 w_b27 hb_b27 hs_b27 hS_b27 hk_b27;have hR_b27:=RowV.one (agg:=false) (k:=1) rfl hk_b27)
 (refine jT rfl rfl rfl ?_)
 refine jjQ (inOne_chart 2 (ls.length:Int) 2 b27 _ (by omega) hR_b27) rfl rfl ?_
 rintro _ w6 hS6 rfl
 (refine jK rfl (eB rfl) (jJ (eB rfl) (jz (jjF ?_)));refine jB rfl rfl ⟨inferInstance,?_⟩)
 exact rfl
theorem checks3_chart:Ct Tryz.prog 191 [.agg #[.slice a 1 c],encSt tqS] w fun v _=>v=.bool true:=by
 refine Ct.ofW (by simp) ?_
 (refine jjB (jjC ?_))
 (refine jy rfl ?_;intro b2 w_b2 hb_b2 hs_b2 hS_b2 hk_b2;have hA_b2:=At.ofBlock hk_b2)
 skip
 (refine jy rfl ?_;intro b3 w_b3 hb_b3 hs_b3 hS_b3 hk_b3;have hA_b3:=At.ofBlock hk_b3)
 have A2:At w_b3 b2 0 [.slice a 1 c]:=(At.ofBlock hk_b2).ext hS_b3.ext
 have A3:At w_b3 b3 0 [.int .i64 0,.int .i64 1,.int .i64 2,.int .i64 4,.int .i64 7]:=At.ofBlock hk_b3
 (refine jJ (eB rfl) (jz (jjB (jjC (jm (jn rfl ?_)))));refine jN rfl rfl rfl (jm (jn rfl (jN rfl rfl rfl ?_))))
 refine Ops.buildSliceF (cells:=[.int .i64 4,.int .i64 7]) rfl rfl rfl ?_
 intro b9 w4 hb9 hs9 hS4 hk9
 have R9:RowV w4 false 1 (.slice (some ⟨b9,0,none⟩) 2 2) [.int .i64 4,.int .i64 7]:=row_two (Bk.toAt (h:=hk9))
 skip
 refine jjQ (inTwo_chart 1 999 4 7 b9 _ (by omega) (by omega) R9) rfl rfl ?_
 rintro _ w5 hS5 rfl
 (refine jI (eB rfl) (jT rfl rfl rfl (jm (jn rfl (jT rfl rfl rfl (jN rfl rfl rfl ?_)))));refine jT rfl rfl rfl (jm (jn rfl (jT rfl rfl rfl (jN rfl rfl rfl (jT rfl rfl rfl ?_)))));refine jY rfl rfl (by omega) (jT rfl rfl rfl (jm (jn rfl (jT rfl rfl rfl (jN rfl rfl rfl ?_)))));refine jT rfl rfl rfl (jZ rfl rfl (by omega) (jT rfl rfl rfl (jZ rfl rfl (by omega) (jT rfl rfl rfl (jjb rfl rfl (by omega) ?_)))));refine jK rfl (eB rfl) (jJ (eB rfl) (jz (jjF ?_)));refine jB rfl rfl ⟨inferInstance,?_⟩)
 exact rfl
abbrev checksC:List Value:=[.func (.func 189) #[] #[],.func (.func 190) #[] #[],.func (.func 191) #[] #[]]
include hrow in
set_option maxHeartbeats 4000000 in
theorem right_chart [hg:At w 3 0 checksC] (hl:ls.length=2):Ct Tryz.prog 145 [.agg #[.slice a 1 c],encSt tqS] w fun v _=>v=.bool true:=by
 refine Ct.ofW (by simp) ?_
 (refine jjB (jjC ?_))
 (refine jy rfl ?_;intro b2 w_b2 hb_b2 hs_b2 hS_b2 hk_b2;have hA_b2:=At.ofBlock hk_b2)
 skip
 (refine jy rfl ?_;intro b3 w_b3 hb_b3 hs_b3 hS_b3 hk_b3;have hA_b3:=At.ofBlock hk_b3)
 have A2:At w_b3 b2 0 [.slice a 1 c]:=(At.ofBlock hk_b2).ext hS_b3.ext
 have A3:At w_b3 b3 0 [.int .i64 0,.int .i64 1,.int .i64 2,.int .i64 4,.int .i64 7]:=At.ofBlock hk_b3
 (refine jJ (eB rfl) (jz (jjB (jjB (jjC (jO rfl rfl rfl rfl ?_)))));refine jI (eI rfl) (jz (jjD ?_)))
 refine W.keep0 [(2,.pointer (some ⟨b2,0,none⟩)),(3,.pointer (some ⟨b3,0,none⟩)),(7,.agg checksC.toArray),(8,.int .i64 ((0:Nat):Int))] ⟨eP rfl,eP rfl,eA rfl,eI rfl,trivial⟩ fun s0=>?_
 refine W.loop (9::10::6::11::12::13::14::15::16::4::17::8::[]) (fun g s' V=>∃ k:Nat,s' 8=.int .i64 ((k:Nat):Int)∧g=3-k∧k≤3) 3 ⟨0,rfl,rfl,Nat.zero_le _⟩ ?_
 rintro _ sd V hSV ⟨k,h8,rfl,hk⟩
 refine W.fix h8 ?_
 clear h8
 by_cases hk1:k<3
 rotate_left
 ·(refine jjB (jjC (jja rfl rfl (by omega) (jz (jjB (jjK rfl ?_)))));refine jjE (jjB (jjC (jJ (eB rfl) (jz (jjF ?_)))));refine jB rfl rfl ⟨inferInstance,?_⟩)
  exact rfl
 rcases (by omega:k=0∨k=1∨k=2) with rfl|rfl|rfl
 ·(refine jjB (jjC (jjZ rfl rfl (by omega) (jz (jjB (jjJ rfl ?_)))));refine jjG (jjB (jjD (jjB (jjC ?_)))))
  refine Ops.indexA (cells:=checksC) (j:=0) rfl rfl rfl rfl rfl rfl ?_
  skip
  (apply jjR rfl;(intro _;first|exact eI rfl|exact eB rfl|exact eP rfl|exact eS rfl|exact eT rfl|exact eA rfl|exact eU rfl|exact eF rfl|exact eM rfl|exact eN rfl|exact rfl);exact rfl;exact rfl;exact rfl;exact rfl;intro b6 w_b6 hb_b6 hs_b6 hS_b6 hk_b6;have hA_b6:=Bk.of hk_b6)
  have A6:At w_b6 b6 0 [.func (.func 189) #[] #[]]:=Bk.toAt (h:=hA_b6)
  (refine jz (jjB (jjC (jm (jn rfl (jN rfl rfl rfl ?_)))));refine jO rfl rfl rfl rfl (jO rfl rfl rfl rfl ?_))
  refine jjQ (checks1_chart a c b d ls _) rfl rfl ?_
  rintro _ w4 hS4 rfl
  (refine jp rfl (jz (jjK rfl (jjG (jjC (jY rfl rfl (by omega) ?_)))));refine jI (eI rfl) (jz ?_))
  exact ⟨rfl,by (((iterate 12 refine Same.upd rfl ?_);exact Same.ovN)),2-0,by omega,inferInstance,1,rfl,rfl,by omega⟩
 ·(refine jjB (jjC (jjZ rfl rfl (by omega) (jz (jjB (jjJ rfl ?_)))));refine jjG (jjB (jjD (jjB (jjC ?_)))))
  refine Ops.indexA (cells:=checksC) (j:=1) rfl rfl rfl rfl rfl rfl ?_
  skip
  (apply jjR rfl;(intro _;first|exact eI rfl|exact eB rfl|exact eP rfl|exact eS rfl|exact eT rfl|exact eA rfl|exact eU rfl|exact eF rfl|exact eM rfl|exact eN rfl|exact rfl);exact rfl;exact rfl;exact rfl;exact rfl;intro b6 w_b6 hb_b6 hs_b6 hS_b6 hk_b6;have hA_b6:=Bk.of hk_b6)
  have A6:At w_b6 b6 0 [.func (.func 190) #[] #[]]:=Bk.toAt (h:=hA_b6)
  (refine jz (jjB (jjC (jm (jn rfl (jN rfl rfl rfl ?_)))));refine jO rfl rfl rfl rfl (jO rfl rfl rfl rfl ?_))
  refine jjQ (checks2_chart a c b d ls _ hl) rfl rfl ?_
  rintro _ w4 hS4 rfl
  (refine jp rfl (jz (jjK rfl (jjG (jjC (jY rfl rfl (by omega) ?_)))));refine jI (eI rfl) (jz ?_))
  exact ⟨rfl,by (((iterate 12 refine Same.upd rfl ?_);exact Same.ovN)),2-1,by omega,inferInstance,2,rfl,rfl,by omega⟩
 ·(refine jjB (jjC (jjZ rfl rfl (by omega) (jz (jjB (jjJ rfl ?_)))));refine jjG (jjB (jjD (jjB (jjC ?_)))))
  refine Ops.indexA (cells:=checksC) (j:=2) rfl rfl rfl rfl rfl rfl ?_
  skip
  (apply jjR rfl;(intro _;first|exact eI rfl|exact eB rfl|exact eP rfl|exact eS rfl|exact eT rfl|exact eA rfl|exact eU rfl|exact eF rfl|exact eM rfl|exact eN rfl|exact rfl);exact rfl;exact rfl;exact rfl;exact rfl;intro b6 w_b6 hb_b6 hs_b6 hS_b6 hk_b6;have hA_b6:=Bk.of hk_b6)
  have A6:At w_b6 b6 0 [.func (.func 191) #[] #[]]:=Bk.toAt (h:=hA_b6)
  (refine jz (jjB (jjC (jm (jn rfl (jN rfl rfl rfl ?_)))));refine jO rfl rfl rfl rfl (jO rfl rfl rfl rfl ?_))
  refine jjQ (checks3_chart a c _) rfl rfl ?_
  rintro _ w4 hS4 rfl
  (refine jp rfl (jz (jjK rfl (jjG (jjC (jY rfl rfl (by omega) ?_)))));refine jI (eI rfl) (jz ?_))
  exact ⟨rfl,by (((iterate 12 refine Same.upd rfl ?_);exact Same.ovN)),2-2,by omega,inferInstance,3,rfl,rfl,by omega⟩
end
end Go.Proofs.YtbafmbpmiiplkaaGreatDoor

namespace Go.Proofs.YtbafmbpmiiplkaaGreatDoor
open Go.ChangeShapes Go.WideShapes Go.ChangeAt Go.RowKit Go.WideElems

theorem array3q {cs:Array Value} (h:cs.size=3):∃ a b c,cs=#[a,b,c]:=by
 obtain ⟨l⟩:=cs
 match l,h with
 | [a,b,c],_=>exact ⟨a,b,c,rfl⟩
theorem array6q {cs:Array Value} (h:cs.size=6):∃ a b c d e f,cs=#[a,b,c,d,e,f]:=by
 obtain ⟨l⟩:=cs
 match l,h with
 | [a,b,c,d,e,f],_=>exact ⟨a,b,c,d,e,f,rfl⟩
theorem byte_of_trod {H:Type} {tok:TypeId×Value→H} {W:World} {n:Nat} {v:Value} {m:Int} {q:List MemPlace} (h:DataW.trod tok Tryz.prog W 0 (fun _=>true) true n 5 [v]=some (.lit (.int .u8 m),q)):v=.int .u8 m:=by
 obtain ⟨m',e,h2,_⟩:=DataW.trod_int Tryz.underlying5 h
 cases e
 simp at h2
 obtain ⟨h2,_⟩:=h2
 rw [h2]
theorem g_checks:Tryz.prog.globalNamed "postil/chart.checks" = some 3:=by kernel_rfl
theorem t_checks:(Tryz.prog.globals[3]?).map (·.type)=some 262:=by kernel_rfl
theorem checks_laid {W:World} {laid:List (String×DataW Unit)} (h:laidMetH Tryz.prog laid W) (hx:("postil/chart.checks", Rows.laid_postil_chart_checks)∈laid):At W 3 0 checksC:=by
 obtain ⟨g,t,cs,fuel,p,hg,ht,hv,hd⟩:=laidMetH.funcs (d:=.agg [.agg [.iface "func" (.lit (.string [112,111,115,116,105,108,47,99,104,97,114,116,46,99,104,101,99,107,115,36,49]))],.agg [.iface "func" (.lit (.string [112,111,115,116,105,108,47,99,104,97,114,116,46,99,104,101,99,107,115,36,50]))],.agg [.iface "func" (.lit (.string [112,111,115,116,105,108,47,99,104,97,114,116,46,99,104,101,99,107,115,36,51]))]]) h hx
 obtain rfl:=Option.some.inj (g_checks.symm.trans hg)
 obtain rfl:=Option.some.inj (t_checks.symm.trans ht)
 have hd':DataW.trod (funcToken Tryz.prog) Tryz.prog W 0 (fun _=>true) true fuel 262 cs.toList=some (.agg [.agg [.held [112,111,115,116,105,108,47,99,104,97,114,116,46,99,104,101,99,107,115,36,49]],.agg [.held [112,111,115,116,105,108,47,99,104,97,114,116,46,99,104,101,99,107,115,36,50]],.agg [.held [112,111,115,116,105,108,47,99,104,97,114,116,46,99,104,101,99,107,115,36,51]]],p):=hd
 obtain ⟨xs,m,_,hxs,hl,hn,hel⟩:=DataW.trod_array Tryz.underlying262 hd'
 have kT:Tryz.prog.cellsOf 262=3:=by kernel_rfl
 have kE:Tryz.prog.cellsOf 261=1:=by kernel_rfl
 have kF:Tryz.prog.cellsOf 255=1:=by kernel_rfl
 obtain ⟨c0,c1,c2,rfl⟩:=array3q (cs:=cs) (by simpa [kT] using hl)
 simp only [Prod.mk.injEq,DataW.agg.injEq] at hxs
 have key:∀ (i:Nat) (c:Value) (b:DataW (List UInt8)),i<3→(([c0,c1,c2].drop (i * 1)).take 1)=[c]→(xs.map (·.1))[i]?=some (.agg [b])→∃ n q,DataW.trod (funcToken Tryz.prog) Tryz.prog W 0 (fun _=>true) true n 255 [c]=some (b,q):=fun i c b hi hc hb=>by
  have h0:=hel i hi
  rw [kE,hc] at h0
  rw [List.getElem?_map] at hb
  obtain ⟨x,hx1,hx2⟩:=Option.map_eq_some_iff.1 hb
  rw [hx1] at h0
  obtain ⟨y0,n,e,_,h1⟩:=trod_struct1 Tryz.underlying261 h0
  rw [e] at hx2
  simp only [DataW.agg.injEq,List.cons.injEq,and_true] at hx2
  obtain ⟨y1,y2⟩:=y0
  simp only at hx2
  subst hx2
  exact ⟨n,y2,by simpa [kF] using h1⟩
 obtain ⟨n1,q1,k1⟩:=key 0 c0 (.held [112,111,115,116,105,108,47,99,104,97,114,116,46,99,104,101,99,107,115,36,49]) (by omega) rfl (by rw [←hxs.1];rfl)
 obtain ⟨n2,q2,k2⟩:=key 1 c1 (.held [112,111,115,116,105,108,47,99,104,97,114,116,46,99,104,101,99,107,115,36,50]) (by omega) rfl (by rw [←hxs.1];rfl)
 obtain ⟨n3,q3,k3⟩:=key 2 c2 (.held [112,111,115,116,105,108,47,99,104,97,114,116,46,99,104,101,99,107,115,36,51]) (by omega) rfl (by rw [←hxs.1];rfl)
 obtain rfl:=func_of_trod (f0:=189) Tryz.underlying255 (by kernel_rfl) k1
 obtain rfl:=func_of_trod (f0:=190) Tryz.underlying255 (by kernel_rfl) k2
 obtain rfl:=func_of_trod (f0:=191) Tryz.underlying255 (by kernel_rfl) k3
 exact ⟨fun i v hv'=>by have:=World.var?_cell hg hv i;rw [Nat.zero_add,this];simpa using hv'⟩

abbrev stepsC:List Value:=[.int .u8 2,.func (.func 169) #[] #[],.int .u8 3,.func (.func 170) #[] #[],.int .u8 1,.func (.func 172) #[] #[]]
theorem g_steps:Tryz.prog.globalNamed "postil/hand.steps" = some 0:=by kernel_rfl
theorem t_steps:(Tryz.prog.globals[0]?).map (·.type)=some 168:=by kernel_rfl
theorem steps_laid {W:World} {laid:List (String×DataW Unit)} (h:laidMetH Tryz.prog laid W) (hx:("postil/hand.steps", Rows.laid_postil_hand_steps)∈laid):At W 0 0 stepsC:=by
 obtain ⟨g,t,cs,fuel,p,hg,ht,hv,hd⟩:=laidMetH.funcs (d:=.agg [.agg [.lit (.int .u8 2),.iface "func" (.lit (.string [112,111,115,116,105,108,47,104,97,110,100,46,115,116,101,112,115,36,49]))],.agg [.lit (.int .u8 3),.iface "func" (.lit (.string [112,111,115,116,105,108,47,104,97,110,100,46,115,116,101,112,115,36,50]))],.agg [.lit (.int .u8 1),.iface "func" (.lit (.string [112,111,115,116,105,108,47,104,97,110,100,46,115,116,101,112,115,36,51]))]]) h hx
 obtain rfl:=Option.some.inj (g_steps.symm.trans hg)
 obtain rfl:=Option.some.inj (t_steps.symm.trans ht)
 have hd':DataW.trod (funcToken Tryz.prog) Tryz.prog W 0 (fun _=>true) true fuel 168 cs.toList=some (.agg [.agg [.lit (.int .u8 2),.held [112,111,115,116,105,108,47,104,97,110,100,46,115,116,101,112,115,36,49]],.agg [.lit (.int .u8 3),.held [112,111,115,116,105,108,47,104,97,110,100,46,115,116,101,112,115,36,50]],.agg [.lit (.int .u8 1),.held [112,111,115,116,105,108,47,104,97,110,100,46,115,116,101,112,115,36,51]]],p):=hd
 obtain ⟨xs,m,_,hxs,hl,hn,hel⟩:=DataW.trod_array Tryz.underlying168 hd'
 have kT:Tryz.prog.cellsOf 168=6:=by kernel_rfl
 have kE:Tryz.prog.cellsOf 167=2:=by kernel_rfl
 have kB:Tryz.prog.cellsOf 5=1:=by kernel_rfl
 have kF:Tryz.prog.cellsOf 165=1:=by kernel_rfl
 obtain ⟨c0,c1,c2,c3,c4,c5,rfl⟩:=array6q (cs:=cs) (by simpa [kT] using hl)
 simp only [Prod.mk.injEq,DataW.agg.injEq] at hxs
 have key:∀ (i:Nat) (u0 u1:Value) (b0 b1:DataW (List UInt8)),i<3→(([c0,c1,c2,c3,c4,c5].drop (i * 2)).take 2)=[u0,u1]→(xs.map (·.1))[i]?=some (.agg [b0,b1]) →
   (∃ n q,DataW.trod (funcToken Tryz.prog) Tryz.prog W 0 (fun _=>true) true n 5 [u0]=some (b0,q))∧∃ n q,DataW.trod (funcToken Tryz.prog) Tryz.prog W 0 (fun _=>true) true n 165 [u1]=some (b1,q):=fun i u0 u1 b0 b1 hi hc hb=>by
  have h0:=hel i hi
  rw [kE,hc] at h0
  rw [List.getElem?_map] at hb
  obtain ⟨x,hx1,hx2⟩:=Option.map_eq_some_iff.1 hb
  rw [hx1] at h0
  obtain ⟨y0,y1,n,e,_,h1,h2⟩:=trod_struct2 Tryz.underlying167 h0
  rw [e] at hx2
  simp only [DataW.agg.injEq,List.cons.injEq,and_true] at hx2
  obtain ⟨y01,y02⟩:=y0
  obtain ⟨y11,y12⟩:=y1
  simp only at hx2
  obtain ⟨rfl,rfl⟩:=hx2
  exact ⟨⟨n,y02,by simpa [kB] using h1⟩,⟨n,y12,by simpa [kF] using h2⟩⟩
 obtain ⟨⟨_,_,i0⟩,⟨_,_,f0⟩⟩:=key 0 c0 c1 (.lit (.int .u8 2)) (.held [112,111,115,116,105,108,47,104,97,110,100,46,115,116,101,112,115,36,49]) (by omega) rfl (by rw [←hxs.1];rfl)
 obtain ⟨⟨_,_,i1⟩,⟨_,_,f1⟩⟩:=key 1 c2 c3 (.lit (.int .u8 3)) (.held [112,111,115,116,105,108,47,104,97,110,100,46,115,116,101,112,115,36,50]) (by omega) rfl (by rw [←hxs.1];rfl)
 obtain ⟨⟨_,_,i2⟩,⟨_,_,f2⟩⟩:=key 2 c4 c5 (.lit (.int .u8 1)) (.held [112,111,115,116,105,108,47,104,97,110,100,46,115,116,101,112,115,36,51]) (by omega) rfl (by rw [←hxs.1];rfl)
 obtain rfl:=byte_of_trod i0
 obtain rfl:=byte_of_trod i1
 obtain rfl:=byte_of_trod i2
 obtain rfl:=func_of_trod (f0:=169) Tryz.underlying165 (by kernel_rfl) f0
 obtain rfl:=func_of_trod (f0:=170) Tryz.underlying165 (by kernel_rfl) f1
 obtain rfl:=func_of_trod (f0:=172) Tryz.underlying165 (by kernel_rfl) f2
 exact ⟨fun i v hv'=>by have:=World.var?_cell hg hv i;rw [Nat.zero_add,this];simpa using hv'⟩
end Go.Proofs.YtbafmbpmiiplkaaGreatDoor

namespace Go.Proofs.YtbafmbpmiiplkaaGreatDoor
open Go.ChangeShapes Go.WideShapes Go.ChangeAt Go.RowKit Go.WideElems

set_option maxRecDepth 100000 in
theorem read_chaps {H:Type} {enc:TypeId×Value→H} {W:World} {n:Nat} {v:Value} {z:DataW H×List MemPlace} (h:DataW.trod enc Tryz.prog W 0 (fun _=>true) true n 22 [v]=some z)
  (hw:∀ q∈z.1.weights Tryz.prog 22,q≤reachBytes):∃ (a:Option Addr) (c:Nat) (cs:List Ch),v=.slice a cs.length c∧RowV W true 2 (.slice a cs.length c) (cs.map encCh)∧TextI W cs:=by
 obtain ⟨a,c,vs,rfl,hR,hE⟩:=rowV_of_trod (t:=22) (k:=2) (agg:=true) (by kernel_rfl) (by omega) (fun e=>by cases e) (fun _ _ _ e=>by cases e) (of_decide_eq_true (by kernel_rfl)) h hw
 obtain ⟨cs,rfl,hq⟩:=exists_map (enc:=encCh) (Q:=fun x=>RowV W false 1 (.slice x.2.1 x.2.2.2.length x.2.2.1) (x.2.2.2.map encLn)∧∀ y∈x.2.2.2,RowV W false 1 (encLn y) (y.2.2.map strV)) (vs:=vs) fun y hy=>by
  obtain ⟨n',z,hz,hzw⟩:=hE y hy
  have hfit:=hR.fit y hy
  cases y<;>simp [fitsV] at hfit
  case agg ys =>
   obtain ⟨d0,d1,rfl⟩:=Joins.array2 hfit
   obtain ⟨z0,z1,n2,rfl,_,g0,g1⟩:=trod_struct2 Tryz.underlying99 hz
   have k3:Tryz.prog.cellsOf 3=1:=by kernel_rfl
   have k4:Tryz.prog.cellsOf 67=1:=by kernel_rfl
   have g0':DataW.trod enc Tryz.prog W 0 (fun _=>true) true n2 3 [d0]=some z0:=by simpa [Value.cells,k3] using g0
   have g1':DataW.trod enc Tryz.prog W 0 (fun _=>true) true n2 67 [d1]=some z1:=by simpa [Value.cells,k4] using g1
   obtain ⟨m,e0,_,_⟩:=DataW.trod_int Tryz.underlying3 g0'
   cases e0
   obtain ⟨a',c',l',rfl,hR',hQ'⟩:=read_lines' g1' (fun q hq=>hzw q (by
    simp only [DataW.weights,Tryz.underlying99,DataW.weightsEach,List.map_cons,List.map_nil,List.mem_append]
    exact .inr (.inl hq)))
   exact ⟨(m,a',c',l'),rfl,hR',hQ'⟩
 rw [List.length_map] at hR ⊢
 exact ⟨a,c,cs,rfl,hR,⟨fun x hx=>(hq x hx).1,fun x hx=>(hq x hx).2⟩⟩
set_option maxRecDepth 100000 in
theorem read_sheets {H:Type} {enc:TypeId×Value→H} {W:World} {n:Nat} {v:Value} {z:DataW H×List MemPlace} (h:DataW.trod enc Tryz.prog W 0 (fun _=>true) true n 27 [v]=some z)
  (hw:∀ q∈z.1.weights Tryz.prog 27,q≤reachBytes):∃ (a:Option Addr) (c:Nat) (xs:List Sht),v=.slice a xs.length c∧RowV W true 2 (.slice a xs.length c) (xs.map encSht)∧ShtI W xs:=by
 obtain ⟨a,c,vs,rfl,hR,hE⟩:=rowV_of_trod (t:=27) (k:=2) (agg:=true) (by kernel_rfl) (by omega) (fun e=>by cases e) (fun _ _ _ e=>by cases e) (of_decide_eq_true (by kernel_rfl)) h hw
 obtain ⟨cs,rfl,hq⟩:=exists_map (enc:=encSht) (Q:=fun x=>RowV W false 1 (.slice x.2.1 x.2.2.2.length x.2.2.1) (x.2.2.2.map encLn)∧∀ y∈x.2.2.2,RowV W false 1 (encLn y) (y.2.2.map strV)) (vs:=vs) fun y hy=>by
  obtain ⟨n',z,hz,hzw⟩:=hE y hy
  have hfit:=hR.fit y hy
  cases y<;>simp [fitsV] at hfit
  case agg ys =>
   obtain ⟨d0,d1,rfl⟩:=Joins.array2 hfit
   obtain ⟨z0,z1,n2,rfl,_,g0,g1⟩:=trod_struct2 Tryz.underlying69 hz
   have k3:Tryz.prog.cellsOf 4=1:=by kernel_rfl
   have k4:Tryz.prog.cellsOf 67=1:=by kernel_rfl
   have g0':DataW.trod enc Tryz.prog W 0 (fun _=>true) true n2 4 [d0]=some z0:=by simpa [Value.cells,k3] using g0
   have g1':DataW.trod enc Tryz.prog W 0 (fun _=>true) true n2 67 [d1]=some z1:=by simpa [Value.cells,k4] using g1
   obtain ⟨m,e0,_,_⟩:=DataW.trod_bool Tryz.underlying4 g0'
   cases e0
   obtain ⟨a',c',l',rfl,hR',hQ'⟩:=read_lines' g1' (fun q hq=>hzw q (by
    simp only [DataW.weights,Tryz.underlying69,DataW.weightsEach,List.map_cons,List.map_nil,List.mem_append]
    exact .inr (.inl hq)))
   exact ⟨(m,a',c',l'),rfl,hR',hQ'⟩
 rw [List.length_map] at hR ⊢
 exact ⟨a,c,cs,rfl,hR,⟨fun x hx=>(hq x hx).1,fun x hx=>(hq x hx).2⟩⟩
set_option maxRecDepth 100000 in
theorem read_helpers {H:Type} {enc:TypeId×Value→H} {W:World} {n:Nat} {v:Value} {z:DataW H×List MemPlace} (h:DataW.trod enc Tryz.prog W 0 (fun _=>true) true n 25 [v]=some z)
  (hw:∀ q∈z.1.weights Tryz.prog 25,q≤reachBytes):∃ (a:Option Addr) (c:Nat) (xs:List Hp),v=.slice a xs.length c∧RowV W true 3 (.slice a xs.length c) (xs.map encHp):=by
 have kI:Tryz.prog.cellsOf 3=1:=by kernel_rfl
 obtain ⟨a,c,vs,rfl,hR,hE⟩:=rowV_of_trod (t:=25) (k:=3) (agg:=true) (by kernel_rfl) (by omega) (fun e=>by cases e) (fun _ _ _ e=>by cases e) (of_decide_eq_true (by kernel_rfl)) h hw
 obtain ⟨cs,rfl,hq⟩:=exists_map (enc:=encHp) (Q:=fun _=>True) (vs:=vs) fun y hy=>by
  obtain ⟨n',z,hz,hzw⟩:=hE y hy
  have hfit:=hR.fit y hy
  cases y<;>simp [fitsV] at hfit
  case agg ys =>
   obtain ⟨d0,d1,d2,e⟩:∃ d0 d1 d2,ys=#[d0,d1,d2]:=by
    match ys,hfit with
    | ⟨[d0,d1,d2]⟩,_=>exact ⟨d0,d1,d2,rfl⟩
   subst e
   obtain ⟨y0,y1,y2,n',_,_,h0,h1,h2⟩:=Deep.trod_struct3 Tryz.underlying109 hz
   have h0':DataW.trod enc Tryz.prog W 0 (fun _=>true) true n' 3 [d0]=some y0:=by simpa [Value.cells,kI] using h0
   have h1':DataW.trod enc Tryz.prog W 0 (fun _=>true) true n' 3 [d1]=some y1:=by simpa [Value.cells,kI] using h1
   have h2':DataW.trod enc Tryz.prog W 0 (fun _=>true) true n' 3 [d2]=some y2:=by simpa [Value.cells,kI] using h2
   obtain ⟨m0,e0,_,_⟩:=DataW.trod_int Tryz.underlying3 h0'
   obtain ⟨m1,e1,_,_⟩:=DataW.trod_int Tryz.underlying3 h1'
   obtain ⟨m2,e2,_,_⟩:=DataW.trod_int Tryz.underlying3 h2'
   cases e0;cases e1;cases e2
   exact ⟨(m0,m1,m2),rfl,trivial⟩
 rw [List.length_map] at hR ⊢
 exact ⟨a,c,cs,rfl,hR⟩
set_option maxRecDepth 100000 in
theorem read_shares {H:Type} {enc:TypeId×Value→H} {W:World} {n:Nat} {v:Value} {z:DataW H×List MemPlace} (h:DataW.trod enc Tryz.prog W 0 (fun _=>true) true n 26 [v]=some z)
  (hw:∀ q∈z.1.weights Tryz.prog 26,q≤reachBytes):∃ (a:Option Addr) (c:Nat) (xs:List Shr),v=.slice a xs.length c∧RowV W true 4 (.slice a xs.length c) (xs.map encShr):=by
 have kI:Tryz.prog.cellsOf 3=1:=by kernel_rfl
 obtain ⟨a,c,vs,rfl,hR,hE⟩:=rowV_of_trod (t:=26) (k:=4) (agg:=true) (by kernel_rfl) (by omega) (fun e=>by cases e) (fun _ _ _ e=>by cases e) (of_decide_eq_true (by kernel_rfl)) h hw
 obtain ⟨cs,rfl,hq⟩:=exists_map (enc:=encShr) (Q:=fun _=>True) (vs:=vs) fun y hy=>by
  obtain ⟨n',z,hz,hzw⟩:=hE y hy
  have hfit:=hR.fit y hy
  cases y<;>simp [fitsV] at hfit
  case agg ys =>
   obtain ⟨d0,d1,d2,d3,e⟩:∃ d0 d1 d2 d3,ys=#[d0,d1,d2,d3]:=by
    match ys,hfit with
    | ⟨[d0,d1,d2,d3]⟩,_=>exact ⟨d0,d1,d2,d3,rfl⟩
   subst e
   obtain ⟨y0,y1,y2,y3,n',_,_,h0,h1,h2,h3⟩:=Joins.trod_struct4 Tryz.underlying46 hz
   have h0':DataW.trod enc Tryz.prog W 0 (fun _=>true) true n' 3 [d0]=some y0:=by simpa [Value.cells,kI] using h0
   have h1':DataW.trod enc Tryz.prog W 0 (fun _=>true) true n' 3 [d1]=some y1:=by simpa [Value.cells,kI] using h1
   have h2':DataW.trod enc Tryz.prog W 0 (fun _=>true) true n' 3 [d2]=some y2:=by simpa [Value.cells,kI] using h2
   have h3':DataW.trod enc Tryz.prog W 0 (fun _=>true) true n' 3 [d3]=some y3:=by simpa [Value.cells,kI] using h3
   obtain ⟨m0,e0,_,_⟩:=DataW.trod_int Tryz.underlying3 h0'
   obtain ⟨m1,e1,_,_⟩:=DataW.trod_int Tryz.underlying3 h1'
   obtain ⟨m2,e2,_,_⟩:=DataW.trod_int Tryz.underlying3 h2'
   obtain ⟨m3,e3,_,_⟩:=DataW.trod_int Tryz.underlying3 h3'
   cases e0;cases e1;cases e2;cases e3
   exact ⟨(m0,m1,m2,m3),rfl,trivial⟩
 rw [List.length_map] at hR ⊢
 exact ⟨a,c,cs,rfl,hR⟩
set_option maxRecDepth 100000 in
theorem read_round {H:Type} {enc:TypeId×Value→H} {W:World} {base:Nat} {v:Value} {d:DataW H} {p:List MemPlace} (hv:Value.okWide Tryz.prog W .any base 29 v) (h:DataW.Trod enc Tryz.prog W 0 (fun _=>true) true 29 v d p)
  (hw:∀ q∈d.weights Tryz.prog 29,q≤reachBytes):∃ (a:Option Addr) (c:Nat) (cs:List Ch) (ha:Option Addr) (hc:Nat) (hs:List Hp) (sa:Option Addr) (sc:Nat) (ss:List Shr) (xa:Option Addr) (xc:Nat) (xs:List Sht),
   v=.agg #[.slice a cs.length c,.slice ha hs.length hc,.slice sa ss.length sc,.slice xa xs.length xc]∧(RowV W true 2 (.slice a cs.length c) (cs.map encCh)∧TextI W cs)∧RowV W true 3 (.slice ha hs.length hc) (hs.map encHp)∧RowV W true 4 (.slice sa ss.length sc) (ss.map encShr)∧RowV W true 2 (.slice xa xs.length xc) (xs.map encSht)∧ShtI W xs:=by
 have kR:Tryz.prog.cellsOf 29=4:=by kernel_rfl
 have kT:Tryz.prog.cellsOf 24=1:=by kernel_rfl
 have kC:Tryz.prog.cellsOf 22=1:=by kernel_rfl
 have kH:Tryz.prog.cellsOf 25=1:=by kernel_rfl
 have kS:Tryz.prog.cellsOf 26=1:=by kernel_rfl
 have kX:Tryz.prog.cellsOf 27=1:=by kernel_rfl
 obtain ⟨ys,rfl,hsz⟩:=okWide_struct Tryz.underlying29 hv
 rw [kR] at hsz
 obtain ⟨c0,c1,c2,c3,e⟩:∃ d0 d1 d2 d3,ys=#[d0,d1,d2,d3]:=by
  match ys,hsz with
  | ⟨[d0,d1,d2,d3]⟩,_=>exact ⟨d0,d1,d2,d3,rfl⟩
 subst e
 obtain ⟨fuel,hf⟩:=h
 obtain ⟨y0,y1,y2,y3,n',hd,_,h0,h1,h2,h3⟩:=Joins.trod_struct4 Tryz.underlying29 hf
 simp only [Prod.mk.injEq] at hd
 obtain ⟨rfl,rfl⟩:=hd
 have h0':DataW.trod enc Tryz.prog W 0 (fun _=>true) true n' 24 [c0]=some y0:=by simpa [Value.cells,kT] using h0
 have h1':DataW.trod enc Tryz.prog W 0 (fun _=>true) true n' 25 [c1]=some y1:=by simpa [Value.cells,kT,kH] using h1
 have h2':DataW.trod enc Tryz.prog W 0 (fun _=>true) true n' 26 [c2]=some y2:=by simpa [Value.cells,kT,kH,kS] using h2
 have h3':DataW.trod enc Tryz.prog W 0 (fun _=>true) true n' 27 [c3]=some y3:=by simpa [Value.cells,kT,kH,kS,kX] using h3
 obtain ⟨z0,m,hx,_,g0⟩:=trod_struct1 Tryz.underlying24 h0'
 have g0':DataW.trod enc Tryz.prog W 0 (fun _=>true) true m 22 [c0]=some z0:=by simpa [Value.cells,kC] using g0
 subst hx
 have hwm:∀ q,q∈DataW.weights Tryz.prog 24 (DataW.agg [z0.1])∨q∈DataW.weights Tryz.prog 25 y1.1∨q∈DataW.weights Tryz.prog 26 y2.1∨q∈DataW.weights Tryz.prog 27 y3.1→q≤reachBytes:=fun q hq=>hw q (by
  simp only [DataW.weights,Tryz.underlying29,DataW.weightsEach,List.map_cons,List.map_nil,List.mem_append]
  rcases hq with h|h|h|h
  ·exact .inl h
  ·exact .inr (.inl h)
  ·exact .inr (.inr (.inl h))
  ·exact .inr (.inr (.inr (.inl h))))
 obtain ⟨a,c,cs,rfl,hR,hT⟩:=read_chaps g0' (fun q hq=>hwm q (.inl (by
  simp only [DataW.weights,Tryz.underlying24,DataW.weightsEach,List.map_cons,List.map_nil,List.mem_append]
  exact .inl hq)))
 obtain ⟨ha,hc,hs,rfl,hH⟩:=read_helpers h1' (fun q hq=>hwm q (.inr (.inl hq)))
 obtain ⟨sa,sc,ss,rfl,hS⟩:=read_shares h2' (fun q hq=>hwm q (.inr (.inr (.inl hq))))
 obtain ⟨xa,xc,xs,rfl,hX,hXI⟩:=read_sheets h3' (fun q hq=>hwm q (.inr (.inr (.inr hq))))
 exact ⟨a,c,cs,ha,hc,hs,sa,sc,ss,xa,xc,xs,rfl,⟨hR,hT⟩,hH,hS,hX,hXI⟩
end Go.Proofs.YtbafmbpmiiplkaaGreatDoor
namespace Go.Proofs.YtbafmbpmiiplkaaGreatDoor
open Go.RowKit

section
variable {P:Program} {κ:Type} [DecidableEq κ] {enc:κ→Value} {kt:Nat}
theorem keyL_arr {m el:Nat} (hu:P.underlying kt=some (.array m el)) [he:EqT P kt enc] (hag:∀ k,∃ cs,enc k=.agg cs) (hc:∀ (em:Bool) (w:World) (k:κ),(Instr.checkKey em 10000 kt (enc k)).run P w=.ok () w) (hb:∀ k,Instr.sameBits 10000 (enc k) (enc k)=true):KeyL P kt enc where
 chk:=hc
 find w k es ks hk:=by
  have h1:=findAsking_of (P:=P) (enc:=enc) (kt:=kt) w k es ks 0 hk
  simp only [Instr.findKey,Sem.run_bind,run_underlying hu,Result.andThen]
  cases es with
  | nil =>
    cases ks with
    | nil=>rfl
    | cons x ks=>simp at hk
  | cons e es =>
    have:Instr.findNow (.array m el) (enc k) (e::es) 0=none:=by
     obtain ⟨cs,h⟩:=hag k
     simp [Instr.findNow,Instr.sameNow]
    rw [this]
    simpa using h1
 bits:=hb
end
instance eqT_line:EqT Tryz.prog 215 encII:=eqT_arr2 Tryz.underlying215 inferInstance inferInstance (of_decide_eq_true (by kernel_rfl))
theorem chk_line (em:Bool) (w:World) (n:Nat) (p:Int×Int):(Instr.checkKey em (n+2) 215 (encII p)).run Tryz.prog w=.ok () w:=by
 have h:=Tryz.underlying215
 have hi:=Tryz.underlying3
 simp [encII,Instr.checkKey,run_underlying h,run_underlying hi,part,run_isAgg w tu3,TypeDesc.isAgg,Std.Legacy.Range.forIn_eq_forIn_range',Std.Legacy.Range.size,show List.range' 0 2=[0,1] from rfl,List.forIn_cons,run_sizeOf' w ts3,Result.andThen]
instance keyL_line:KeyL Tryz.prog 215 encII:=keyL_arr Tryz.underlying215 (fun k=>⟨_,rfl⟩) (fun em w k=>chk_line em w 9998 k) (fun k=>by simp [encII,Instr.sameBits])

structure RdC where
 ba:Nat
 bb:Nat
 bw:Nat
 bk:Nat
 bf:Nat
 bn:Nat
 mb:Nat
 a1:Option Addr
 c1:Nat
 a2:Option Addr
 c2:Nat
 A:List ByteArray
 B:List ByteArray
def RdC.fa (c:RdC):List Value:=[.pointer (some ⟨c.bk,0,none⟩),.pointer (some ⟨c.ba,0,none⟩),.pointer (some ⟨c.bb,0,none⟩),.pointer (some ⟨c.bf,0,none⟩),.pointer (some ⟨c.bn,0,none⟩)]
def RdC.na (c:RdC):List Value:=[.pointer (some ⟨c.ba,0,none⟩),.pointer (some ⟨c.bb,0,none⟩),.pointer (some ⟨c.bw,0,none⟩),.pointer (some ⟨c.bf,0,none⟩)]
abbrev waysC:List Value:=[.int .u8 3,.int .i64 1,.int .i64 1,.int .u8 1,.int .i64 1,.int .i64 0,.int .u8 2,.int .i64 0,.int .i64 1]
def fewOk (m:List ((Int×Int)×Value)):Prop:=∀ k v,mget m k=some v→∃ n:Int,v=.int .i64 n∧0≤n∧n≤8∧(k=(3,3)→n=0)
structure RF (c:RdC) (w:World):Prop where
 ha:At w c.ba 0 [.slice c.a1 3 c.c1]
 hb:At w c.bb 0 [.slice c.a2 3 c.c2]
 hw:At w c.bw 0 waysC
 hk:At w c.bk 0 [.map (some c.mb)]
 hf:At w c.bf 0 [.func (.func 179) #[] c.fa.toArray]
 hn:At w c.bn 0 [.func (.func 178) #[] c.na.toArray]
 ra:RowV w false 1 (.slice c.a1 3 c.c1) (c.A.map strV)
 rb:RowV w false 1 (.slice c.a2 3 c.c2) (c.B.map strV)
 km:∃ m,MapE encII w c.mb m∧fewOk m
 ne:c.ba≠c.mb∧c.bb≠c.mb∧c.bw≠c.mb∧c.bk≠c.mb∧c.bf≠c.mb∧c.bn≠c.mb
 oa:(Value.slice c.a1 3 c.c1).ownBlock≠some c.mb
 ob:(Value.slice c.a2 3 c.c2).ownBlock≠some c.mb
 la:c.A.length=3
 lb:c.B.length=3
theorem RF.only {c:RdC} {w w':World} (f:RF c w) (o:Only c.mb w w') (h:∃ m,MapE encII w' c.mb m∧fewOk m):RF c w' :=
 ⟨o.at_ f.ha f.ne.1,o.at_ f.hb f.ne.2.1,o.at_ f.hw f.ne.2.2.1,o.at_ f.hk f.ne.2.2.2.1,o.at_ f.hf f.ne.2.2.2.2.1,o.at_ f.hn f.ne.2.2.2.2.2,o.row f.ra f.oa,o.row f.rb f.ob,h,f.ne,f.oa,f.ob,f.la,f.lb⟩
theorem RF.ext {c:RdC} {w w':World} (f:RF c w) (e:Ext w w'):RF c w':=f.only (.ofExt e) (f.km.imp fun _ h=>⟨h.1.ext e,h.2⟩)
def FewR (c:RdC) (i k:Int) (w:World) (e:Ending) (w':World):Prop:=∃ n:Int,e=.returned (.int .i64 n)∧0≤n∧n≤8∧(i=3∧k=3→n=0)∧Only c.mb w w'∧RF c w'
def wayK (j:Nat):Int×Int×Int:=if j=0 then (3,1,1) else if j=1 then (1,1,0) else (2,0,1)
abbrev encWay (x:Int×Int×Int):Value:=.agg #[.int .u8 x.1,.int .i64 x.2.1,.int .i64 x.2.2]
theorem wayK_idx {j:Nat} (hj:j<3):(waysC.drop (j * 3)).take 3=[.int .u8 (wayK j).1,.int .i64 (wayK j).2.1,.int .i64 (wayK j).2.2]:=by
 have:j=0∨j=1∨j=2:=by omega
 rcases this with rfl|rfl|rfl<;>rfl
theorem wayK_ok {j:Nat} (hj:j<3):∃ kd o t:Int,wayK j=(kd,o,t)∧0≤o∧o≤1∧0≤t∧t≤1∧1≤o+t∧(j=0→kd=3∧o=1∧t=1):=by
 have:j=0∨j=1∨j=2:=by omega
 rcases this with rfl|rfl|rfl<;>exact ⟨_,_,_,rfl,by decide,by decide,by decide,by decide,by decide,by decide⟩
set_option maxHeartbeats 8000000 in
theorem next_leaf (c:RdC) (i k:Int) (hi:0≤i∧i≤3) (hk:0≤k∧k≤3) (hfew:∀ (i' k':Int) (w:World),i+k<i'+k'→0≤i'∧i'≤3→0≤k'∧k'≤3→RF c w→Calls Tryz.prog 179 ([Value.int .i64 i',.int .i64 k']++c.fa).toArray w (FewR c i' k' w)) (w:World) (hK:RF c w) :
  Calls Tryz.prog 178 ([Value.int .i64 i,.int .i64 k]++c.na).toArray w fun e w'=>∃ (wy:Int×Int×Int) (n:Int),e=.returned (.tuple #[encWay wy,.int .i64 n])∧0≤n∧n≤7∧(i=2∧k=2→wy=(3,1,1))∧Only c.mb w w'∧RF c w':=by
 have h1:=hK.ha
 have h2:=hK.hb
 have h3:=hK.hw
 have h4:=hK.hf
 obtain ⟨m0,hm0,-⟩:=hK.km
 have hlt:=hm0.lt
 refine Calls.ofW (by simp [RdC.na]) ?_
 (((refine jjB (jjC ?_)));refine jjY ?_;intro b8 w_b8 hb_b8 hs_b8 hS_b8 hk_b8;have hA_b8:=Bk.of hk_b8)
 have hB8:Bk w_b8 b8 [.int .u8 0,.int .i64 0,.int .i64 0] 284:=inferInstance
 have e8:Ext w w_b8:=hS_b8.ext
 (refine jJ (eI rfl) (jz (jjB (jjC (jN rfl rfl rfl (jh rfl ?_)))));refine jN rfl rfl rfl (jh rfl (jY rfl rfl (by omega) (jY rfl rfl (by omega) (jJ (eI rfl) (jz ?_)))));refine jjB (jjB (jjC (jO rfl rfl rfl rfl (jI (eI rfl) (jz ?_)))));refine jjD ?_)
 refine W.keep0 [(0,.int .i64 i),(1,.int .i64 k),(2,.pointer (some ⟨c.ba,0,none⟩)),(3,.pointer (some ⟨c.bb,0,none⟩)),(5,.pointer (some ⟨c.bf,0,none⟩)),(8,.pointer (some ⟨b8,0,none⟩)),(9,.int .i64 7),(19,.agg waysC.toArray),(20,.int .i64 ((0:Nat):Int))] ⟨eI rfl,eI rfl,eP rfl,eP rfl,eP rfl,eP rfl,eI rfl,eA rfl,eI rfl,trivial⟩ fun s0=>?_
 refine W.loopG (21::22::11::23::24::25::26::27::28::29::30::31::32::33::34::35::36::37::38::39::40::41::42::43::44::45::46::47::48::12::49::50::51::52::53::9::54::20::[]) (fun g s' V=>∃ (j:Nat) (n:Int) (wy:Int×Int×Int),s' 20=.int .i64 (j:Int)∧s' 9=.int .i64 n∧g=3-j∧j≤3∧0≤n∧n≤7∧(j=0→n=7)∧(i=2∧k=2∧1≤j→wy=(3,1,1)∧n=0)∧Only c.mb w V∧RF c V∧Bk V b8 [.int .u8 wy.1,.int .i64 wy.2.1,.int .i64 wy.2.2] 284) 3 ⟨0,7,(0,0,0),rfl,rfl,rfl,by omega,by omega,by omega,fun _=>rfl,fun h=>by omega,.ofExt e8,hK.ext e8,hB8⟩ ?_
 rintro _ sd V ⟨j,n,wy,h20,h9,rfl,hj,hn0,hn7,hj0,hw2,hOn,hKj,hB⟩
 refine W.fix h20 (W.fix (d:=9) h9 ?_)
 clear h20 h9
 have g1:=hKj.ha
 have g2:=hKj.hb
 have g3:=hKj.hf
 by_cases hj1:j<3
 ·obtain ⟨kd,o,t,hwk,ho0,ho1,ht0,ht1,hot,hk0⟩:=wayK_ok hj1
  have hidx:=wayK_idx hj1
  rw [hwk] at hidx
  (refine jjB (jjC (jjZ rfl rfl (by omega) (jz (jjB (jjJ rfl ?_)))));refine jjG (jjB (jjD (jjB (jjC ?_)))))
  refine Ops.indexA (j:=j) rfl rfl rfl (by simp;omega) rfl hidx ?_
  (apply jjR rfl;(intro _;first|exact eI rfl|exact eB rfl|exact eP rfl|exact eS rfl|exact eT rfl|exact eA rfl|exact eU rfl|exact eF rfl|exact eM rfl|exact eN rfl|exact rfl);exact rfl;exact rfl;exact rfl;exact rfl;intro b11 w_b11 hb_b11 hs_b11 hS_b11 hk_b11;have hA_b11:=Bk.of hk_b11)
  have A11:At w_b11 b11 0 [.int .u8 kd,.int .i64 o,.int .i64 t]:=Bk.toAt (h:=hA_b11)
  have zb11:b11≠c.mb:=by have:=hOn.size;omega
  have e11:=hS_b11.ext
  have hK11:=hKj.ext e11
  have hB11:=hB.ext e11
  have hOn11:=hOn.trans (.ofExt e11)
  have g1:=hK11.ha
  have g2:=hK11.hb
  have g3:=hK11.hf
  by_cases c1:3<i+o
  ·(refine jz (jjB (jjB (jjC (jI (eI rfl) (jm ?_)))));refine jn rfl (jN rfl rfl rfl (jY rfl rfl (by omega) (jN rfl rfl rfl (jh rfl (jjd rfl rfl (by omega) ?_)))));refine jI (eB rfl) (jU rfl rfl rfl rfl (jU rfl rfl rfl rfl (jU rfl rfl rfl rfl (jU rfl rfl rfl rfl (jU rfl rfl rfl rfl ?_)))));refine jU rfl rfl rfl rfl (jU rfl rfl rfl rfl (jK rfl (eB rfl) (jz (jjJ rfl (jjE ?_)))));refine jjC (jY rfl rfl (by omega) (jI (eI rfl) (jz ?_))))
   exact ⟨rfl,by (((iterate 23 refine Same.upd rfl ?_);exact Same.ovN)),3-(j+1),by omega,j+1,n,wy,congrArg (Value.int .i64) (by omega),rfl,rfl,by omega,hn0,hn7,fun h=>by omega,fun h=>hw2 ⟨h.1,h.2.1,by omega⟩,hOn11,hK11,hB11⟩
  by_cases c2:3<k+t
  ·(refine jz (jjB (jjB (jjC (jI (eI rfl) (jm ?_)))));refine jn rfl (jN rfl rfl rfl (jY rfl rfl (by omega) (jN rfl rfl rfl (jh rfl (jje rfl rfl (by omega) ?_)))));refine jI (eB rfl) (jT rfl rfl rfl (jI (eI rfl) (jT rfl rfl rfl (jm (jn rfl ?_)))));refine jT rfl rfl rfl (jN rfl rfl rfl (jT rfl rfl rfl (jY rfl rfl (by omega) (jT rfl rfl rfl (jN rfl rfl rfl ?_)))));refine jT rfl rfl rfl (jh rfl (jT rfl rfl rfl (jjd rfl rfl (by omega) (jL rfl (eB rfl) (jz ?_)))));refine jjJ rfl (jjE (jjC (jY rfl rfl (by omega) (jI (eI rfl) (jz ?_))))))
   exact ⟨rfl,by (((iterate 23 refine Same.upd rfl ?_);exact Same.ovN)),3-(j+1),by omega,j+1,n,wy,congrArg (Value.int .i64) (by omega),rfl,rfl,by omega,hn0,hn7,fun h=>by omega,fun h=>hw2 ⟨h.1,h.2.1,by omega⟩,hOn11,hK11,hB11⟩
  (refine jz (jjB (jjB (jjC (jI (eI rfl) (jm ?_)))));refine jn rfl (jN rfl rfl rfl (jY rfl rfl (by omega) (jN rfl rfl rfl (jh rfl (jje rfl rfl (by omega) ?_)))));refine jI (eB rfl) (jT rfl rfl rfl (jI (eI rfl) (jT rfl rfl rfl (jm (jn rfl ?_)))));refine jT rfl rfl rfl (jN rfl rfl rfl (jT rfl rfl rfl (jY rfl rfl (by omega) (jT rfl rfl rfl (jN rfl rfl rfl ?_)))));refine jT rfl rfl rfl (jh rfl (jT rfl rfl rfl (jje rfl rfl (by omega) (jL rfl (eB rfl) (jz ?_)))));refine jjK rfl (jjG (jjB (jjC (jN rfl rfl rfl (jI (eI rfl) ?_)))));refine jm (jn rfl (jN rfl rfl rfl (jY rfl rfl (by omega) (jI (eI rfl) (jm ?_)))));refine jn rfl (jN rfl rfl rfl (jY rfl rfl (by omega) ?_)))
  refine Ops.callR rfl (Enters.h (P:=Tryz.prog) (g:=179)) rfl (hfew (i+o) (k+t) _ (by omega) (by omega) (by omega) hK11) ?_
  rintro _ w2 ⟨m,rfl,hm0,hm8,hm3,hOn2,hK2⟩
  refine ⟨_,rfl,?_⟩
  have hOn3:=hOn11.trans hOn2
  have zb8:b8≠c.mb:=by omega
  have hB2:=hOn2.bk hB11 zb8
  have A12:=hOn2.at_ A11 zb11
  by_cases c3:m<n
  rotate_left
  ·(refine jJ (eI rfl) (jz (jjB (jjC (jI (eI rfl) (jI (eI rfl) ?_)))));refine jja rfl rfl (by omega) (jz (jjK rfl (jjG (jjC (jY rfl rfl (by omega) ?_)))));refine jI (eI rfl) (jz ?_))
   exact ⟨rfl,by (((iterate 37 refine Same.upd rfl ?_);exact Same.ovN)),3-(j+1),by omega,j+1,n,wy,congrArg (Value.int .i64) (by omega),rfl,rfl,by omega,hn0,hn7,fun h=>by omega,fun h=>by
    by_cases hz:j=0
    ·have:=hk0 hz;have:=hm3 ⟨by omega,by omega⟩;have:=hj0 hz;omega
    ·exact hw2 ⟨h.1,h.2.1,by omega⟩,hOn3,hK2,hB2⟩
  (refine jJ (eI rfl) (jz (jjB (jjC (jI (eI rfl) (jI (eI rfl) ?_)))));refine jjZ rfl rfl (by omega) (jz (jjJ rfl (jjC (jO rfl rfl rfl rfl (jI (eI rfl) ?_))))))
  refine Ops.store rfl rfl rfl rfl rfl ?_
  intro w3 hp3
  have hB3:Bk w3 b8 [.int .u8 kd,.int .i64 o,.int .i64 t] 284:=Bk.of hp3.new
  have zz:w.heap.size≤b8:=by omega
  have hOn4:Only c.mb w w3:=⟨hp3.os.trans hOn3.os,hp3.tape.trans hOn3.tape,hp3.output.trans hOn3.output,by rw [hp3.size];exact hOn3.size,fun q hq hne=>(hp3.other q (by omega)).trans (hOn3.other q hq hne)⟩
  obtain ⟨m2,hm2,hok2⟩:=hK2.km
  have hK4:RF c w3:=hK.only hOn4 ⟨m2,hm2.put hp3 (by omega),hok2⟩
  (refine jJ (eI rfl) (jz (jjC (jY rfl rfl (by omega) (jI (eI rfl) (jz ?_))))))
  exact ⟨rfl,by (((iterate 40 refine Same.upd rfl ?_);exact Same.ovN)),3-(j+1),by omega,j+1,m,(kd,o,t),congrArg (Value.int .i64) (by omega),rfl,rfl,by omega,hm0,by omega,fun h=>by omega,fun h=>by
    by_cases hz:j=0
    ·obtain ⟨rfl,rfl,rfl⟩:=hk0 hz
     exact ⟨rfl,hm3 ⟨by omega,by omega⟩⟩
    ·have:=(hw2 ⟨h.1,h.2.1,by omega⟩).2;omega,hOn4,hK4,hB3⟩
 obtain rfl:j=3:=by omega
 (refine jjB (jjC (jja rfl rfl (by omega) (jz (jjB (jjK rfl ?_)))));refine jjE (jjB (jjC (jO rfl rfl rfl rfl (jI (eI rfl) ?_)))))
 refine Ops.store rfl rfl rfl rfl rfl ?_
 intro w3 hp3
 have hB3:Bk w3 b8 [.int .u8 wy.1,.int .i64 wy.2.1,.int .i64 wy.2.2] 284:=Bk.of hp3.new
 have zz:w.heap.size≤b8:=by omega
 have hOn4:Only c.mb w w3:=⟨hp3.os.trans hOn.os,hp3.tape.trans hOn.tape,hp3.output.trans hOn.output,by rw [hp3.size];exact hOn.size,fun q hq hne=>(hp3.other q (by omega)).trans (hOn.other q hq hne)⟩
 obtain ⟨m2,hm2,hok2⟩:=hKj.km
 have hK4:RF c w3:=hK.only hOn4 ⟨m2,hm2.put hp3 (by omega),hok2⟩
 (refine jJ (eI rfl) (jz (jjF ?_)))
 have:=hB3.toAt
 refine fin2C rfl rfl rfl rfl rfl rfl ⟨wy,n,rfl,hn0,hn7,fun h=>(hw2 ⟨h.1,h.2,by omega⟩).1,hOn4,hK4⟩

theorem chk_pair2 (em:Bool) (w:World) (n:Nat) (p:Int×Int):(Instr.checkKey em (n+2) 146 (encII p)).run Tryz.prog w=.ok () w:=by
 have h:=Tryz.underlying146
 have hi:=Tryz.underlying3
 simp [encII,Instr.checkKey,run_underlying h,run_underlying hi,part,run_isAgg w tu3,TypeDesc.isAgg,Std.Legacy.Range.forIn_eq_forIn_range',Std.Legacy.Range.size,show List.range' 0 2=[0,1] from rfl,List.forIn_cons,run_sizeOf' w ts3,Result.andThen]
instance keyL_pair2:KeyL Tryz.prog 146 encII:=keyL_arr Tryz.underlying146 (fun k=>⟨_,rfl⟩) (fun em w k=>chk_pair2 em w 9998 k) (fun k=>by simp [encII,Instr.sameBits])
set_option maxHeartbeats 16000000 in
theorem fewest_leaf (c:RdC):∀ (d:Nat) (i k:Int) (w:World),(6-i-k).toNat≤d→0≤i∧i≤3→0≤k∧k≤3→RF c w→Calls Tryz.prog 179 ([Value.int .i64 i,.int .i64 k]++c.fa).toArray w (FewR c i k w):=by
 intro d
 induction d using Nat.strongRecOn with
 | _ d ih =>
 intro i k w hd hi hk hK
 have hfew:∀ (i' k':Int) (w:World),i+k<i'+k'→0≤i'∧i'≤3→0≤k'∧k'≤3→RF c w→Calls Tryz.prog 179 ([Value.int .i64 i',.int .i64 k']++c.fa).toArray w (FewR c i' k' w):=fun i' k' w' h h1 h2 hK'=>ih (d-1) (by omega) i' k' w' (by omega) h1 h2 hK'
 have h1:=hK.ha
 have h2:=hK.hb
 have h3:=hK.hk
 have h4:=hK.hf
 have h5:=hK.hn
 refine Calls.ofW (by simp [RdC.fa]) ?_
 obtain ⟨m,hm,hok⟩:=hK.km
 (refine jjB (jjC (jJ (eI rfl) (jz (jjB (jjB ?_)))));refine jjC (jN rfl rfl rfl (jI (eI rfl) (jI (eI rfl) ?_))))
 (refine jjS (cells:=[.int .i64 i,.int .i64 k]) ?_ ?_;exact rfl)
 have hlt:=hm.lt
 refine Ops.lookupOk (k:=(i,k)) hm rfl rfl ?_
 cases hg:mget m (i,k) with
 | some v =>
   obtain ⟨n,rfl,hn0,hn8,hn3⟩:=hok _ _ hg
   (refine jI (eU rfl) (ju rfl rfl (ju rfl rfl (jJ (eI rfl) (jJ (eB rfl) (jz ?_)))));refine jjB (jjC (jI (eB rfl) (jz (jjJ rfl (jjB ?_)))));refine jjC (jI (eI rfl) (jJ (eI rfl) (jz (jjF ?_)))))
   exact jB rfl rfl ⟨n,rfl,hn0,hn8,fun h=>hn3 (by rw [h.1,h.2]),.ofExt inferInstance,hK⟩
 | none =>
 by_cases c1:i=3∧k=3
 ·obtain ⟨rfl,rfl⟩:=c1
  have hO0:Only c.mb w w:=.ofExt (.refl _)
  (refine jI (eU rfl) (ju rfl rfl (ju rfl rfl (jJ (eI rfl) (jJ (eB rfl) (jz ?_)))));refine jjB (jjC (jI (eB rfl) (jz (jjK rfl (jjG ?_)))));refine jjB (jjC (jJ (eI rfl) (jz (jjB (jjD ?_)))));refine jjB (jjC (jI (eI rfl) (jN rfl rfl rfl (jh rfl (jjh rfl rfl (by omega) ?_)))));refine jI (eB rfl) (jT rfl rfl rfl (jI (eI rfl) (jT rfl rfl rfl (jN rfl rfl rfl (jT rfl rfl rfl ?_)))));refine jh rfl (jT rfl rfl rfl (jjh rfl rfl (by omega) (jK rfl (eB rfl) (jJ (eB rfl) (jz ?_)))));refine jjJ rfl (jjG (jjB (jjC (jN rfl rfl rfl (jI (eI rfl) ?_)))));refine jI (eI rfl) ?_)
  (refine jjS (cells:=[.int .i64 3,.int .i64 3]) ?_ ?_;exact rfl)
  (apply jI;exact eI rfl)
  refine Ops.mapUpdate (k:=(3,3)) (v:=.int .i64 (0)) hm rfl rfl rfl ?_
  intro w7 o7 hp7 hM7
  have hOn7:Only c.mb w w7:=hO0.trans (.ofPut hp7)
  have hok7:fewOk (mset m (3,3) (.int .i64 (0))):=fun q v hq=>by
   by_cases e:q=(3,3)
   ·subst e;rw [mget_set_same] at hq;cases hq;exact ⟨_,rfl,by omega,by omega,fun h=>by simp at h;omega⟩
   ·rw [mget_set_other _ _ e] at hq;exact hok q v hq
  have hK7:=hK.only hOn7 ⟨_,hM7,hok7⟩
  (refine jz (jjB (jjC (jI (eI rfl) (jJ (eI rfl) (jz ?_)))));refine jjF ?_)
  exact jB rfl rfl ⟨0,rfl,by omega,by omega,fun h=>by omega,hOn7,hK7⟩
 by_cases c2:i<3∧k<3
 ·obtain ⟨i0,rfl⟩:∃ i0:Nat,i=(i0:Int):=⟨i.toNat,by omega⟩
  obtain ⟨k0,rfl⟩:∃ k0:Nat,k=(k0:Int):=⟨k.toNat,by omega⟩
  have hi0:i0<c.A.length:=by have:=hK.la;omega
  have hk0:k0<c.B.length:=by have:=hK.lb;omega
  have ga:(c.A.map strV)[i0]?=some (strV c.A[i0]):=by rw [List.getElem?_map,List.getElem?_eq_getElem hi0];rfl
  have gb:(c.B.map strV)[k0]?=some (strV c.B[k0]):=by rw [List.getElem?_map,List.getElem?_eq_getElem hk0];rfl
  obtain ⟨pa,oa,hpa,Aa⟩:=hK.ra.place' ga
  obtain ⟨pb,ob,hpb,Ab⟩:=hK.rb.place' gb
  obtain ⟨X,hX⟩:∃ X,c.A[i0]=X:=⟨_,rfl⟩
  obtain ⟨Y,hY⟩:∃ X,c.B[k0]=X:=⟨_,rfl⟩
  rw [hX] at Aa
  rw [hY] at Ab
  obtain ⟨B,hB⟩:∃ B,decide (X=Y)=B:=⟨_,rfl⟩
  have l1:At w c.ba 0 [.slice (some ⟨pa,oa,none⟩) 3 c.c1]:=by rw [←hpa];exact h1
  have l2:At w c.bb 0 [.slice (some ⟨pb,ob,none⟩) 3 c.c2]:=by rw [←hpb];exact h2
  clear h1 h2
  (refine jI (eU rfl) (ju rfl rfl (ju rfl rfl (jJ (eI rfl) (jJ (eB rfl) (jz ?_)))));refine jjB (jjC (jI (eB rfl) (jz (jjK rfl (jjG ?_)))));refine jjB (jjC (jJ (eI rfl) (jz (jjB (jjD ?_)))));refine jjB (jjC (jI (eI rfl) (jN rfl rfl rfl (jh rfl (jji rfl rfl (by omega) ?_)))));refine jI (eB rfl) (jU rfl rfl rfl rfl (jU rfl rfl rfl rfl (jU rfl rfl rfl rfl (jU rfl rfl rfl rfl (jL rfl (eB rfl) ?_)))));refine jJ (eB rfl) (jz (jjK rfl (jjB ?_))))
  refine W.draw (fun w'=>Ext w w') ?_
  intro u1 hu1
  (refine jjV [0,1,2] ?_ ?_ ?_;(decide +kernel);(exact hu1.ext);(((refine jjT rfl (fun _ _=>jI (eI rfl) (jz ⟨rfl,rfl⟩)) ?_;apply jjT;exact rfl;rintro w' hq;have:=hq.toStep;refine jN rfl rfl rfl (jz ?_);exact ⟨rfl,rfl⟩;refine jjT rfl (fun _ _=>jh rfl (jz ⟨rfl,rfl⟩)) (jjU ?_)))))
  refine jjV [3] (by decide +kernel) hu1.ext (jjT (v:=.bool true) rfl (fun w' q1=>?_) (jjU ?_));(refine jX rfl rfl ?_;rw [decide_eq_true (by omega)];refine jz ?_;exact ⟨rfl,rfl⟩)
  (refine jjV [4,5,6,7] ?_ ?_ ?_;(decide +kernel);(exact hu1.ext);(((refine jjT rfl (fun _ _=>jI (eB rfl) (jz ⟨rfl,rfl⟩)) (jjT rfl (fun _ _=>jT rfl rfl rfl (jI (eI rfl) (jz ⟨rfl,rfl⟩))) ?_);apply jjT;exact rfl;rintro w' hq;have:=hq.toStep;refine jT rfl rfl rfl (jN rfl rfl rfl (jz ?_));exact ⟨rfl,rfl⟩;refine jjT rfl (fun _ _=>jT rfl rfl rfl (jh rfl (jz ⟨rfl,rfl⟩))) (jjU ?_)))))
  refine jjV [8] (by decide +kernel) hu1.ext (jjT (v:=.bool true) rfl (fun w' q1=>?_) (jjU ?_));(refine jT rfl rfl rfl (jX rfl rfl ?_);rw [decide_eq_true (by omega)];refine jz ?_;exact ⟨rfl,rfl⟩)
  (refine jjV [9,10,11,12] ?_ ?_ ?_;(decide +kernel);(exact hu1.ext);(((refine jjT rfl (fun _ _=>jK rfl (eB rfl) (jz ⟨rfl,rfl⟩)) (jjT rfl (fun _ _=>jI (eB rfl) (jz ⟨rfl,rfl⟩)) ?_);apply jjT;exact rfl;rintro w' hq;have:=hq.toStep;refine jT rfl rfl rfl (jN rfl rfl rfl (jz ?_));exact ⟨rfl,rfl⟩;refine jjT rfl (fun _ _=>jT rfl rfl rfl (jI (eI rfl) (jz ⟨rfl,rfl⟩))) (jjU ?_)))))
  refine jjV [13] (by decide +kernel) hu1.ext (jjT (v:=.pointer (some ⟨pa,oa+i0 * 1,none⟩)) rfl (fun w' q1=>?_) (jjU ?_));(refine jT rfl rfl rfl ?_;refine jH i0 rfl rfl rfl (by omega) ?_;refine jz ?_;exact ⟨rfl,rfl⟩)
  refine jjV [14] (by decide +kernel) hu1.ext (jjT (v:=.string X) rfl (fun w' q1=>?_) (jjU ?_));(refine jT rfl rfl rfl ?_;refine jR ((Aa.ext q1).get (i:=0) rfl) rfl rfl ?_;refine jz ?_;exact ⟨rfl,rfl⟩)
  (refine jjV [15,16] ?_ ?_ ?_;(decide +kernel);(exact hu1.ext);(((apply jjT;exact rfl;rintro w' hq;have:=hq.toStep;refine jT rfl rfl rfl (jN rfl rfl rfl (jz ?_));exact ⟨rfl,rfl⟩;refine jjT rfl (fun _ _=>jT rfl rfl rfl (jI (eI rfl) (jz ⟨rfl,rfl⟩))) (jjU ?_)))))
  refine jjV [17] (by decide +kernel) hu1.ext (jjT (v:=.pointer (some ⟨pb,ob+k0 * 1,none⟩)) rfl (fun w' q1=>?_) (jjU ?_));(refine jT rfl rfl rfl ?_;refine jH k0 rfl rfl rfl (by omega) ?_;refine jz ?_;exact ⟨rfl,rfl⟩)
  refine jjV [18] (by decide +kernel) hu1.ext (jjT (v:=.string Y) rfl (fun w' q1=>?_) (jjU ?_));(refine jT rfl rfl rfl ?_;refine jR ((Ab.ext q1).get (i:=0) rfl) rfl rfl ?_;refine jz ?_;exact ⟨rfl,rfl⟩)
  refine jjV [19] (by decide +kernel) hu1.ext (jjT (v:=.bool B) rfl (fun w' q1=>?_) (jjU ?_));(refine jT rfl rfl rfl ?_;refine Ops.eqlSV hB rfl rfl ?_;refine jz ?_;exact ⟨rfl,rfl⟩)
  (refine jjV [20,21] ?_ ?_ ?_;(decide +kernel);(exact hu1.ext);(((refine jjT rfl (fun _ _=>jK rfl (eB rfl) (jz ⟨rfl,rfl⟩)) (jjT rfl (fun _ _=>jJ (eB rfl) (jz ⟨rfl,rfl⟩)) (jjU ?_))))))
  refine jjX (by decide +kernel) hu1.ext ?_
  have hKu:=hK.ext hu1.ext
  have k1:=hKu.hf
  have k2:=hKu.hn
  cases B with
  | true =>
    (refine jjJ rfl (jjC (jN rfl rfl rfl (jI (eI rfl) (jY rfl rfl (by omega) (jI (eI rfl) ?_)))));refine jY rfl rfl (by omega) ?_)
    refine Ops.callR rfl (Enters.h (P:=Tryz.prog) (g:=179)) rfl (hfew ((i0:Int)+1) ((k0:Int)+1) _ (by omega) (by omega) (by omega) hKu) ?_
    rintro _ w2 ⟨n,rfl,hn0,hn8,hn3,hOn2,hK2⟩
    refine ⟨_,rfl,?_⟩
    have k3:=hK2.hk
    obtain ⟨m2,hm2,hok2⟩:=hK2.km
    have hOnu:Only c.mb w w2:=.trans (.ofExt hu1.ext) hOn2
    (refine jJ (eI rfl) (jz (jjB (jjC (jN rfl rfl rfl (jI (eI rfl) ?_)))));refine jI (eI rfl) ?_)
    (refine jjS (cells:=[.int .i64 (i0:Int),.int .i64 (k0:Int)]) ?_ ?_;exact rfl)
    (apply jI;exact eI rfl)
    refine Ops.mapUpdate (k:=((i0:Int),(k0:Int))) (v:=.int .i64 (n)) hm2 rfl rfl rfl ?_
    intro w7 o7 hp7 hM7
    have hOn7:Only c.mb w w7:=hOnu.trans (.ofPut hp7)
    have hok7:fewOk (mset m2 ((i0:Int),(k0:Int)) (.int .i64 (n))):=fun q v hq=>by
     by_cases e:q=((i0:Int),(k0:Int))
     ·subst e;rw [mget_set_same] at hq;cases hq;exact ⟨_,rfl,by omega,by omega,fun h=>by simp at h;omega⟩
     ·rw [mget_set_other _ _ e] at hq;exact hok2 q v hq
    have hK7:=hK.only hOn7 ⟨_,hM7,hok7⟩
    (refine jz (jjB (jjC (jI (eI rfl) (jJ (eI rfl) (jz ?_)))));refine jjF ?_)
    exact jB rfl rfl ⟨n,rfl,by omega,by omega,fun h=>by omega,hOn7,hK7⟩
  | false =>
    (refine jjK rfl (jjB (jjC (jN rfl rfl rfl (jI (eI rfl) (jI (eI rfl) ?_))))))
    refine Ops.callR rfl (Enters.h (P:=Tryz.prog) (g:=178)) rfl (next_leaf c i0 k0 (by omega) (by omega) hfew _ hKu) ?_
    rintro _ w2 ⟨wy,n,rfl,hn0,hn7,-,hOn2,hK2⟩
    refine ⟨_,rfl,?_⟩
    (refine jI (eU rfl) (ju rfl rfl (ju rfl rfl ?_)))
    (apply jjR rfl;(intro _;first|exact eI rfl|exact eB rfl|exact eP rfl|exact eS rfl|exact eT rfl|exact eA rfl|exact eU rfl|exact eF rfl|exact eM rfl|exact eN rfl|exact rfl);exact rfl;exact rfl;exact rfl;exact rfl;intro b13 w_b13 hb_b13 hs_b13 hS_b13 hk_b13;have hA_b13:=Bk.of hk_b13)
    have hK3:=hK2.ext hS_b13.ext
    have k3:=hK3.hk
    obtain ⟨m2,hm2,hok2⟩:=hK3.km
    have hOnu:Only c.mb w w_b13:=(Only.trans (.ofExt hu1.ext) hOn2).trans (.ofExt hS_b13.ext)
    (refine jJ (eI rfl) (jz (jjC (jI (eI rfl) (jY rfl rfl (by omega) (jJ (eI rfl) ?_)))));refine jz (jjB (jjC (jN rfl rfl rfl (jI (eI rfl) (jI (eI rfl) ?_))))))
    (refine jjS (cells:=[.int .i64 (i0:Int),.int .i64 (k0:Int)]) ?_ ?_;exact rfl)
    (apply jI;exact eI rfl)
    refine Ops.mapUpdate (k:=((i0:Int),(k0:Int))) (v:=.int .i64 (n+1)) hm2 rfl rfl rfl ?_
    intro w7 o7 hp7 hM7
    have hOn7:Only c.mb w w7:=hOnu.trans (.ofPut hp7)
    have hok7:fewOk (mset m2 ((i0:Int),(k0:Int)) (.int .i64 (n+1))):=fun q v hq=>by
     by_cases e:q=((i0:Int),(k0:Int))
     ·subst e;rw [mget_set_same] at hq;cases hq;exact ⟨_,rfl,by omega,by omega,fun h=>by simp at h;omega⟩
     ·rw [mget_set_other _ _ e] at hq;exact hok2 q v hq
    have hK7:=hK.only hOn7 ⟨_,hM7,hok7⟩
    (refine jz (jjB (jjC (jI (eI rfl) (jJ (eI rfl) (jz ?_)))));refine jjF ?_)
    exact jB rfl rfl ⟨n+1,rfl,by omega,by omega,fun h=>by omega,hOn7,hK7⟩
 have hor:i=3∨(i<3∧k=3):=by omega
 rcases hor with c3|⟨c3,c4⟩
 ·subst c3
  (refine jI (eU rfl) (ju rfl rfl (ju rfl rfl (jJ (eI rfl) (jJ (eB rfl) (jz ?_)))));refine jjB (jjC (jI (eB rfl) (jz (jjK rfl (jjG ?_)))));refine jjB (jjC (jJ (eI rfl) (jz (jjB (jjD ?_)))));refine jjB (jjC (jI (eI rfl) (jN rfl rfl rfl (jh rfl (jjh rfl rfl (by omega) ?_)))));refine jI (eB rfl) (jT rfl rfl rfl (jI (eI rfl) (jT rfl rfl rfl (jN rfl rfl rfl (jT rfl rfl rfl ?_)))));refine jh rfl (jT rfl rfl rfl (jji rfl rfl (by omega) (jK rfl (eB rfl) (jJ (eB rfl) (jz ?_)))));refine jjK rfl (jjB ?_))
  refine W.draw (fun w'=>Ext w w') ?_
  intro u1 hu1
  (refine jjV [0,1,2,3,4,5,6,7,8,9,10,11,12,13,14,15,16,17,18,19,20,21] ?_ ?_ ?_;(decide +kernel);(exact hu1.ext);(((refine jjT rfl (fun _ _=>jI (eI rfl) (jz ⟨rfl,rfl⟩)) ?_;apply jjT;exact rfl;rintro w' hq;have:=hq.toStep;refine jN rfl rfl rfl (jz ?_);exact ⟨rfl,rfl⟩;refine jjT rfl (fun _ _=>jh rfl (jz ⟨rfl,rfl⟩)) (jjT rfl (fun _ _=>jX rfl rfl (jz ⟨rfl,rfl⟩)) (jjT rfl (fun _ _=>jI (eB rfl) (jz ⟨rfl,rfl⟩)) (jjT rfl (fun _ _=>jU rfl rfl rfl rfl (jz ⟨rfl,rfl⟩)) (jjT rfl (fun _ _=>jU rfl rfl rfl rfl (jz ⟨rfl,rfl⟩)) (jjT rfl (fun _ _=>jU rfl rfl rfl rfl (jz ⟨rfl,rfl⟩)) ?_)))));refine jjT rfl (fun _ _=>jU rfl rfl rfl rfl (jz ⟨rfl,rfl⟩)) (jjT rfl (fun _ _=>jL rfl (eB rfl) (jz ⟨rfl,rfl⟩)) (jjT rfl (fun _ _=>jI (eB rfl) (jz ⟨rfl,rfl⟩)) (jjT rfl (fun _ _=>jU rfl rfl rfl rfl (jz ⟨rfl,rfl⟩)) (jjT rfl (fun _ _=>jU rfl rfl rfl rfl (jz ⟨rfl,rfl⟩)) (jjT rfl (fun _ _=>jU rfl rfl rfl rfl (jz ⟨rfl,rfl⟩)) ?_)))));refine jjT rfl (fun _ _=>jU rfl rfl rfl rfl (jz ⟨rfl,rfl⟩)) (jjT rfl (fun _ _=>jU rfl rfl rfl rfl (jz ⟨rfl,rfl⟩)) (jjT rfl (fun _ _=>jU rfl rfl rfl rfl (jz ⟨rfl,rfl⟩)) (jjT rfl (fun _ _=>jU rfl rfl rfl rfl (jz ⟨rfl,rfl⟩)) (jjT rfl (fun _ _=>jU rfl rfl rfl rfl (jz ⟨rfl,rfl⟩)) (jjT rfl (fun _ _=>jU rfl rfl rfl rfl (jz ⟨rfl,rfl⟩)) ?_)))));refine jjT rfl (fun _ _=>jL rfl (eB rfl) (jz ⟨rfl,rfl⟩)) (jjT rfl (fun _ _=>jJ (eB rfl) (jz ⟨rfl,rfl⟩)) (jjU ?_))))))
  refine jjX (by decide +kernel) hu1.ext ?_
  have hKu:=hK.ext hu1.ext
  have k2:=hKu.hn
  (refine jjK rfl (jjB (jjC (jN rfl rfl rfl (jI (eI rfl) (jI (eI rfl) ?_))))))
  refine Ops.callR rfl (Enters.h (P:=Tryz.prog) (g:=178)) rfl (next_leaf c _ _ (by omega) (by omega) hfew _ hKu) ?_
  rintro _ w2 ⟨wy,n,rfl,hn0,hn7,-,hOn2,hK2⟩
  refine ⟨_,rfl,?_⟩
  (refine jI (eU rfl) (ju rfl rfl (ju rfl rfl ?_)))
  (apply jjR rfl;(intro _;first|exact eI rfl|exact eB rfl|exact eP rfl|exact eS rfl|exact eT rfl|exact eA rfl|exact eU rfl|exact eF rfl|exact eM rfl|exact eN rfl|exact rfl);exact rfl;exact rfl;exact rfl;exact rfl;intro b13 w_b13 hb_b13 hs_b13 hS_b13 hk_b13;have hA_b13:=Bk.of hk_b13)
  have hK3:=hK2.ext hS_b13.ext
  have k3:=hK3.hk
  obtain ⟨m2,hm2,hok2⟩:=hK3.km
  have hOnu:Only c.mb w w_b13:=(Only.trans (.ofExt hu1.ext) hOn2).trans (.ofExt hS_b13.ext)
  (refine jJ (eI rfl) (jz (jjC (jI (eI rfl) (jY rfl rfl (by omega) (jJ (eI rfl) ?_)))));refine jz (jjB (jjC (jN rfl rfl rfl (jI (eI rfl) (jI (eI rfl) ?_))))))
  (refine jjS (cells:=[.int .i64 3,.int .i64 k]) ?_ ?_;exact rfl)
  (apply jI;exact eI rfl)
  refine Ops.mapUpdate (k:=(3,k)) (v:=.int .i64 (n+1)) hm2 rfl rfl rfl ?_
  intro w7 o7 hp7 hM7
  have hOn7:Only c.mb w w7:=hOnu.trans (.ofPut hp7)
  have hok7:fewOk (mset m2 (3,k) (.int .i64 (n+1))):=fun q v hq=>by
   by_cases e:q=(3,k)
   ·subst e;rw [mget_set_same] at hq;cases hq;exact ⟨_,rfl,by omega,by omega,fun h=>by simp at h;omega⟩
   ·rw [mget_set_other _ _ e] at hq;exact hok2 q v hq
  have hK7:=hK.only hOn7 ⟨_,hM7,hok7⟩
  (refine jz (jjB (jjC (jI (eI rfl) (jJ (eI rfl) (jz ?_)))));refine jjF ?_)
  exact jB rfl rfl ⟨n+1,rfl,by omega,by omega,fun h=>by omega,hOn7,hK7⟩
 ·subst c4
  (refine jI (eU rfl) (ju rfl rfl (ju rfl rfl (jJ (eI rfl) (jJ (eB rfl) (jz ?_)))));refine jjB (jjC (jI (eB rfl) (jz (jjK rfl (jjG ?_)))));refine jjB (jjC (jJ (eI rfl) (jz (jjB (jjD ?_)))));refine jjB (jjC (jI (eI rfl) (jN rfl rfl rfl (jh rfl (jji rfl rfl (by omega) ?_)))));refine jI (eB rfl) (jU rfl rfl rfl rfl (jU rfl rfl rfl rfl (jU rfl rfl rfl rfl (jU rfl rfl rfl rfl (jL rfl (eB rfl) ?_)))));refine jJ (eB rfl) (jz (jjK rfl (jjB ?_))))
  refine W.draw (fun w'=>Ext w w') ?_
  intro u1 hu1
  (refine jjV [0,1,2] ?_ ?_ ?_;(decide +kernel);(exact hu1.ext);(((refine jjT rfl (fun _ _=>jI (eI rfl) (jz ⟨rfl,rfl⟩)) ?_;apply jjT;exact rfl;rintro w' hq;have:=hq.toStep;refine jN rfl rfl rfl (jz ?_);exact ⟨rfl,rfl⟩;refine jjT rfl (fun _ _=>jh rfl (jz ⟨rfl,rfl⟩)) (jjU ?_)))))
  refine jjV [3] (by decide +kernel) hu1.ext (jjT (v:=.bool true) rfl (fun w' q1=>?_) (jjU ?_));(refine jX rfl rfl ?_;rw [decide_eq_true (by omega)];refine jz ?_;exact ⟨rfl,rfl⟩)
  (refine jjV [4,5,6,7] ?_ ?_ ?_;(decide +kernel);(exact hu1.ext);(((refine jjT rfl (fun _ _=>jI (eB rfl) (jz ⟨rfl,rfl⟩)) (jjT rfl (fun _ _=>jT rfl rfl rfl (jI (eI rfl) (jz ⟨rfl,rfl⟩))) ?_);apply jjT;exact rfl;rintro w' hq;have:=hq.toStep;refine jT rfl rfl rfl (jN rfl rfl rfl (jz ?_));exact ⟨rfl,rfl⟩;refine jjT rfl (fun _ _=>jT rfl rfl rfl (jh rfl (jz ⟨rfl,rfl⟩))) (jjU ?_)))))
  refine jjV [8] (by decide +kernel) hu1.ext (jjT (v:=.bool false) rfl (fun w' q1=>?_) (jjU ?_));(refine jT rfl rfl rfl (jX rfl rfl ?_);rw [decide_eq_false (by omega)];refine jz ?_;exact ⟨rfl,rfl⟩)
  (refine jjV [9,10,11,12,13,14,15,16,17,18,19,20,21] ?_ ?_ ?_;(decide +kernel);(exact hu1.ext);(((refine jjT rfl (fun _ _=>jK rfl (eB rfl) (jz ⟨rfl,rfl⟩)) (jjT rfl (fun _ _=>jI (eB rfl) (jz ⟨rfl,rfl⟩)) (jjT rfl (fun _ _=>jU rfl rfl rfl rfl (jz ⟨rfl,rfl⟩)) (jjT rfl (fun _ _=>jU rfl rfl rfl rfl (jz ⟨rfl,rfl⟩)) (jjT rfl (fun _ _=>jU rfl rfl rfl rfl (jz ⟨rfl,rfl⟩)) (jjT rfl (fun _ _=>jU rfl rfl rfl rfl (jz ⟨rfl,rfl⟩)) ?_)))));refine jjT rfl (fun _ _=>jU rfl rfl rfl rfl (jz ⟨rfl,rfl⟩)) (jjT rfl (fun _ _=>jU rfl rfl rfl rfl (jz ⟨rfl,rfl⟩)) (jjT rfl (fun _ _=>jU rfl rfl rfl rfl (jz ⟨rfl,rfl⟩)) (jjT rfl (fun _ _=>jU rfl rfl rfl rfl (jz ⟨rfl,rfl⟩)) (jjT rfl (fun _ _=>jU rfl rfl rfl rfl (jz ⟨rfl,rfl⟩)) (jjT rfl (fun _ _=>jL rfl (eB rfl) (jz ⟨rfl,rfl⟩)) ?_)))));refine jjT rfl (fun _ _=>jJ (eB rfl) (jz ⟨rfl,rfl⟩)) (jjU ?_)))))
  refine jjX (by decide +kernel) hu1.ext ?_
  have hKu:=hK.ext hu1.ext
  have k2:=hKu.hn
  (refine jjK rfl (jjB (jjC (jN rfl rfl rfl (jI (eI rfl) (jI (eI rfl) ?_))))))
  refine Ops.callR rfl (Enters.h (P:=Tryz.prog) (g:=178)) rfl (next_leaf c _ _ (by omega) (by omega) hfew _ hKu) ?_
  rintro _ w2 ⟨wy,n,rfl,hn0,hn7,-,hOn2,hK2⟩
  refine ⟨_,rfl,?_⟩
  (refine jI (eU rfl) (ju rfl rfl (ju rfl rfl ?_)))
  (apply jjR rfl;(intro _;first|exact eI rfl|exact eB rfl|exact eP rfl|exact eS rfl|exact eT rfl|exact eA rfl|exact eU rfl|exact eF rfl|exact eM rfl|exact eN rfl|exact rfl);exact rfl;exact rfl;exact rfl;exact rfl;intro b13 w_b13 hb_b13 hs_b13 hS_b13 hk_b13;have hA_b13:=Bk.of hk_b13)
  have hK3:=hK2.ext hS_b13.ext
  have k3:=hK3.hk
  obtain ⟨m2,hm2,hok2⟩:=hK3.km
  have hOnu:Only c.mb w w_b13:=(Only.trans (.ofExt hu1.ext) hOn2).trans (.ofExt hS_b13.ext)
  (refine jJ (eI rfl) (jz (jjC (jI (eI rfl) (jY rfl rfl (by omega) (jJ (eI rfl) ?_)))));refine jz (jjB (jjC (jN rfl rfl rfl (jI (eI rfl) (jI (eI rfl) ?_))))))
  (refine jjS (cells:=[.int .i64 i,.int .i64 3]) ?_ ?_;exact rfl)
  (apply jI;exact eI rfl)
  refine Ops.mapUpdate (k:=(i,3)) (v:=.int .i64 (n+1)) hm2 rfl rfl rfl ?_
  intro w7 o7 hp7 hM7
  have hOn7:Only c.mb w w7:=hOnu.trans (.ofPut hp7)
  have hok7:fewOk (mset m2 (i,3) (.int .i64 (n+1))):=fun q v hq=>by
   by_cases e:q=(i,3)
   ·subst e;rw [mget_set_same] at hq;cases hq;exact ⟨_,rfl,by omega,by omega,fun h=>by simp at h;omega⟩
   ·rw [mget_set_other _ _ e] at hq;exact hok2 q v hq
  have hK7:=hK.only hOn7 ⟨_,hM7,hok7⟩
  (refine jz (jjB (jjC (jI (eI rfl) (jJ (eI rfl) (jz ?_)))));refine jjF ?_)
  exact jB rfl rfl ⟨n+1,rfl,by omega,by omega,fun h=>by omega,hOn7,hK7⟩

section
variable (a:Option Addr) (c:Nat) (cs:List Ch) (ha:Option Addr) (hc:Nat) (hs:List Hp) (sa:Option Addr) (sc:Nat) (ss:List Shr) (xa:Option Addr) (xc:Nat) (xs:List Sht) (w:World)
 [hrow:RowI w (.slice a cs.length c) true 2 (cs.map encCh)] [hT:TextI w cs] [hhs:RowI w (.slice ha hs.length hc) true 3 (hs.map encHp)] [hss:RowI w (.slice sa ss.length sc) true 4 (ss.map encShr)] [hxs:RowI w (.slice xa xs.length xc) true 2 (xs.map encSht)] [hxi:ShtI w xs]
theorem DeskR.ext {bd:Nat} {w w':World} (h:DeskR bd a c cs ha hc hs sa sc ss xa xc xs w) (e:Ext w w'):DeskR bd a c cs ha hc hs sa sc ss xa xc xs w':=by
 obtain ⟨la,lc,pa,pc,h1,h2,h3⟩:=h.h
 exact ⟨la,lc,pa,pc,h1.ext e,h2.ext e,h3.ext e⟩
set_option maxHeartbeats 8000000 in
theorem open_hand (hsm:SmallT cs) (ht:textB (txF cs)=true) (hp:RoundOk (lnK cs cs.length).length hs ss xs):Ct Tryz.prog 26 [.agg #[.slice a cs.length c,.slice ha hs.length hc,.slice sa ss.length sc,.slice xa xs.length xc]] w fun v w'=>∃ bd,v=.tuple #[.pointer (some ⟨bd,0,none⟩),.int .i64 0]∧DeskR bd a c cs ha hc hs sa sc ss xa xc xs w':=by
 refine Ct.ofW (by simp) ?_
 (refine jjB (jjC ?_))
 (refine jy rfl ?_;intro b1 w_b1 hb_b1 hs_b1 hS_b1 hk_b1;have hA_b1:=At.ofBlock hk_b1)
 have A1:At w_b1 b1 0 [.slice a cs.length c,.slice ha hs.length hc,.slice sa ss.length sc,.slice xa xs.length xc]:=At.ofBlock hk_b1
 (refine jJ (eN rfl) (jJ (eI rfl) (jz (jjB (jjB (jjC ?_)))));refine jm (jn rfl (jO rfl rfl rfl rfl ?_)))
 refine jjQ ((Check_leaf a c cs _ hsm).mono fun v _ _ h=>h.trans (by rw [ht])) rfl rfl ?_
 rintro _ w2 hS2 rfl
 (refine jJ (eI rfl) (jz (jjB (jjC (jI (eI rfl) (jc rfl rfl ?_)))));refine jz (jjK rfl (jjG (jjB (jjC (jO rfl rfl rfl rfl ?_))))))
 refine jjQ (laid_hand a c cs ha hc hs sa sc ss xa xc xs _ hsm) rfl rfl ?_
 rintro _ w3 hS3 ⟨bd,rfl,hbd,hD⟩
 obtain ⟨la,lc,pa,pc,h1,h2,h3⟩:=hD.h
 (refine jJ (eP rfl) (jz (jjB (jjB (jjC (jI (eP rfl) ?_))))))
 refine jjQ (right_hand bd _ _ ha hc hs sa sc ss xa xc xs la lc (lnK cs cs.length) _ hp) rfl rfl ?_
 rintro _ w4 hS4 rfl
 (refine jp rfl (jz (jjK rfl (jjG (jjB (jjC ?_)))));refine jI (eP rfl) (jJ (eP rfl) (jJ (eI rfl) (jz (jjF ?_))));refine jC rfl rfl rfl ⟨inferInstance,?_⟩)
 exact ⟨bd,rfl,hD.ext (e:=hS4.ext)⟩
end

theorem make_slP {t:Tx} {side W:Int} {k j q:Nat} (hk:k<t.length) (hj:j<(wsT t k).length) (hq:q<((wsT t k).getD j []).length):makeF t side W ((k:Int),(j:Int),(q:Int))=some (slP t side W ((k:Int),(j:Int),(q:Int))):=by
 have hm:((k:Int),(j:Int),(q:Int))∈runA k (wsT t k):=by
  rw [runA,runAn,List.mem_flatMap]
  refine ⟨j,List.mem_range.2 hj,?_⟩
  rw [lnP,List.mem_map]
  exact ⟨q,List.mem_range.2 hq,rfl⟩
 obtain ⟨i,hi⟩:=List.getElem?_of_mem hm
 rw [makeF_yes hk hi,slP_eq hk hi]
theorem lnK_words (cs:List Ch):∀ k,k≤cs.length→(lnK cs k).map (·.2.2)=(prL (txF cs) k).map fun p=>(wsT (txF cs) p.1).getD p.2 []:=fun k=>by
 induction k with
 | zero=>intro _;rfl
 | succ k ih =>
   intro hk
   rw [lnK_succ (by omega),prL_succ,List.map_append,List.map_append,ih (by omega)]
   congr 1
   rw [List.map_map]
   have e:wsT (txF cs) k=cs[k].2.2.2.map (·.2.2):=by rw [wsT_get (by omega)]
   rw [←e]
   exact (range_get (wsT (txF cs) k) []).symm
theorem line_at {cs:List Ch} {n:Nat} (hn:n<(lnK cs cs.length).length):∃ k j:Nat,(prL (txF cs) (txF cs).length)[n]?=some (k,j)∧k<(txF cs).length∧j<(wsT (txF cs) k).length∧(lnK cs cs.length)[n].2.2=(wsT (txF cs) k).getD j []∧(atK cs cs.length)[n]?=some ((k:Int),(j:Int),0):=by
 have hl:=lnK_len (cs:=cs) (Nat.le_refl _)
 have hn':n<(prL (txF cs) cs.length).length:=by omega
 obtain ⟨⟨k,j⟩,hp⟩:∃ p,(prL (txF cs) cs.length)[n]?=some p:=⟨_,List.getElem?_eq_getElem hn'⟩
 have hm:=prL_mem.1 (List.mem_of_getElem? hp)
 have hw:=congrArg (fun l=>l[n]?) (lnK_words cs cs.length (Nat.le_refl _))
 simp only [List.getElem?_map,hp,List.getElem?_eq_getElem hn,Option.map_some,Option.some.injEq] at hw
 refine ⟨k,j,by rw [txF_len];exact hp,by rw [txF_len];exact hm.1,hm.2,hw,?_⟩
 rw [atK,List.getElem?_map,hp];rfl
section
variable (bd:Nat) (v0 v1 v2 v4 v5:Value) (xa:Option Addr) (xc:Nat) (xs:List Sht) (a:Option Addr) (c:Nat) (l:List Int) (b1 b2:Nat) (w:World)
 [hd:At w bd 0 [v0,v1,v2,.slice xa xs.length xc,v4,v5]] [hxs:RowI w (.slice xa xs.length xc) true 2 (xs.map encSht)] [hl:RowI w (.slice a l.length c) false 1 (l.map intV)] [h1:At w b1 0 [.pointer (some ⟨bd,0,none⟩)]] [h2:At w b2 0 [.slice a l.length c]]
include hd hxs hl h1 h2
end

theorem doubtL_len {t:Tx} {side W:Int} {D:Nat→Bool} (h:∀ p:Nat×Nat,((wsT t p.1).getD p.2 []).length≤1000):∀ n,(doubtL t side W D n).length≤n * 1000
 | 0=>by simp [doubtL]
 | n+1=>by
   rw [doubtL_succ,List.length_append]
   have:=doubtL_len h (side:=side) (W:=W) (D:=D) n
   have h2:(if D n then lnS t side W ((prL t t.length).getD n (0,0)) else []).length≤1000:=by
    by_cases e:D n=true
    ·rw [if_pos e,lnS,List.length_map,lnP,List.length_map,List.length_range];exact h _
    ·rw [if_neg e];simp
   omega
noncomputable def lnQ (t:Tx) (side W:Int) (k j q:Nat):List Slp:=(List.range q).map fun (w:Nat)=>slP t side W ((k:Int),(j:Int),(w:Int))
theorem lnQ_succ (t:Tx) (side W:Int) (k j q:Nat):lnQ t side W k j (q+1)=lnQ t side W k j q++[slP t side W ((k:Int),(j:Int),(q:Int))]:=by simp [lnQ,List.range_succ]
theorem lnQ_len (t:Tx) (side W:Int) (k j q:Nat):(lnQ t side W k j q).length=q:=by simp [lnQ]
theorem lnQ_all (t:Tx) (side W:Int) (k j:Nat):lnQ t side W k j ((wsT t k).getD j []).length=lnS t side W (k,j):=by
 simp only [lnS,lnP,List.map_map,lnQ];rfl
section
variable (a:Option Addr) (c:Nat) (cs:List Ch) (ha:Option Addr) (hc:Nat) (hs:List Hp) (sa:Option Addr) (sc:Nat) (ss:List Shr) (xa:Option Addr) (xc:Nat) (xs:List Sht) (wd side:Int) (w:World)
 [hrow:RowI w (.slice a cs.length c) true 2 (cs.map encCh)] [hT:TextI w cs] [hhs:RowI w (.slice ha hs.length hc) true 3 (hs.map encHp)] [hss:RowI w (.slice sa ss.length sc) true 4 (ss.map encShr)] [hxs:RowI w (.slice xa xs.length xc) true 2 (xs.map encSht)] [hxi:ShtI w xs] [hgs:At w 1 0 sidesC]
end

set_option maxHeartbeats 8000000 in
theorem bestX_hand (f:List Int→Int×Bool) (gf:Nat) (lb:List Value) (xs:List (List Int)) (cg:Nat) (cl:List Value) (Fct:Nat→World→Prop) (w:World) (hit:∀ N,IterN Tryz.prog gf lb xs (relL N) (fun w=>Fct N w)) [he:Enters Tryz.prog gf] [hc:Enters Tryz.prog cg] (hF:∀ N w',Ext w w'→N≤w'.heap.size→Fct N w')
  (hcost:∀ x∈xs,∀ (V:World) (a:Option Addr) (c:Nat),Ext w V→RowV V false 1 (.slice a x.length c) (x.map intV)→Ct Tryz.prog cg ([.slice a x.length c]++cl) V fun r _=>r=.tuple #[.int .i64 (f x).1,.bool (f x).2]) :
  Ct Tryz.prog 65 [.func (.func gf) #[] lb.toArray,.func (.func cg) #[] cl.toArray] w fun v w'=>∃ (a:Option Addr) (c:Nat),v=.slice a (bestHF f xs).1.length c∧RowV w' false 1 (.slice a (bestHF f xs).1.length c) ((bestHF f xs).1.map intV):=by
 refine Ct.ofWM (by simp) ?_
 (refine jjB (jjC ?_))
 (refine jy rfl ?_;intro b3 w_b3 hb_b3 hs_b3 hS_b3 hk_b3;have hA_b3:=At.ofBlock hk_b3)
 (refine jJ (eS rfl) (jz (jjB (jjC ?_))))
 ((skip);refine jjY ?_;intro b5 w_b5 hb_b5 hs_b5 hS_b5 hk_b5;have hA_b5:=Bk.of hk_b5)
 (refine jz (jjB (jjC ?_)))
 (apply jjR rfl;(intro _;first|exact eI rfl|exact eB rfl|exact eP rfl|exact eS rfl|exact eT rfl|exact eA rfl|exact eU rfl|exact eF rfl|exact eM rfl|exact eN rfl|exact rfl);exact rfl;exact rfl;exact rfl;exact rfl;intro b6 w_b6 hb_b6 hs_b6 hS_b6 hk_b6;have hA_b6:=Bk.of hk_b6)
 (refine jz (jjB (jjB (jjC (jI (eF rfl) (jz ?_)))));refine jjD ?_)
 have z5:=hS_b5.size
 have z6:=hS_b6.size
 have z3:=hS_b3.size
 have hE6:Ext w w_b6:=inferInstance
 have hB3:At w_b6 b3 0 [.func (.func cg) #[] cl.toArray]:=inferInstance
 have hB5:Bk w_b6 b5 [.slice none 0 0] 40:=inferInstance
 have hB6:Bk w_b6 b6 [.int .i64 (-1)] 3:=inferInstance
 refine W.rangeMN w.heap.size xs (relL w_b6.heap.size) (hit w_b6.heap.size) rfl (fun x vs V ⟨a,c,h,_⟩=>by rw [h];rfl) trivial inferInstance hE6.size
  (fun i V=>Ext w V∧w_b6.heap.size≤V.heap.size∧At V b3 0 [.func (.func cg) #[] cl.toArray]∧∃ (l:List Int) (a:Option Addr) (c:Nat) (n:Int),Bk V b5 [.slice a l.length c] 40∧Bk V b6 [.int .i64 n] 3∧OwnL V w_b6.heap.size 3 false 1 (.slice a l.length c) (l.map intV)∧(l,n)=bestHF f (xs.take i))
  ?hJ ?hF ⟨hE6,Nat.le_refl _,hB3,[],none,0, -1,hB5,hB6,OwnL.nil _ _ _ _ _,rfl⟩
  (fun _ k=>k=b5∨k=b6) ?hW1 (fun _ _ _ _ _ _ h=>h) (fun _ _ _ _ h=>.inl h) (fun x s' V=>∃ (a:Option Addr) (c:Nat),s' 3=.pointer (some ⟨b3,0,none⟩)∧s' 5=.pointer (some ⟨b5,0,none⟩)∧s' 6=.pointer (some ⟨b6,0,none⟩)∧s' 7=.slice a x.length c∧OwnL V w_b6.heap.size 3 false 1 (.slice a x.length c) (x.map intV))
  (fun x s V V' ⟨a,c,h1,h2,h3,h4,h5⟩ g=>⟨a,c,h1,h2,h3,h4,h5.grow g⟩) ?hassign ?hbody ?hdone
 case hJ =>
  rintro i V V' ⟨h1,h2,h3,l,a,c,n,k5,k6,hO,hl⟩ g
  exact ⟨h1.ofGrow g hE6.size,Nat.le_trans h2 g.size,h3.grow g,l,a,c,n,k5.grow g,k6.grow g,hO.grow g,hl⟩
 case hF =>
  rintro i V ⟨h1,h2,-⟩
  exact hF _ _ h1 h2
 case hW1 =>
  rintro i V k ⟨h1,h2,h3,l,a,c,n,k5,k6,hO,hl⟩ (rfl|rfl)
  ·exact Bk.lt (h:=k5)
  ·exact Bk.lt (h:=k6)
 case hassign =>
  rintro l' i x vs V hx ⟨a',c',rfl,hO'⟩ ⟨h1,h2,h3,l,a,c,n,k5,k6,hO,hl⟩ hl' hr
  (refine jjC (jJ (eS rfl) (jz ?_)))
  exact ⟨rfl,Tr.refl _,Fr.refl _ _,⟨h1,h2,h3,l,a,c,n,k5,k6,hO,hl⟩,a',c',rfl,rfl,rfl,rfl,hO'⟩
 case hbody =>
  rintro l' i x s' V hx ⟨h1,h2,h3,l,a,c,n,k5,k6,hO,hl⟩ ⟨a',c',hs3,hs5,hs6,hs7,hO'⟩ hl' hr
  refine W.fix (d:=3) hs3 (W.fix (d:=5) hs5 (W.fix (d:=6) hs6 (W.fix (d:=7) hs7 ?_)))
  clear hs3 hs5 hs6 hs7
  have hxm:=List.mem_of_getElem? hx
  (refine jjD (jjB (jjC (jN rfl rfl rfl (jI (eS rfl) ?_)))))
  refine jjQ (hcost x hxm _ a' c' h1 hO'.row) rfl rfl ?_
  rintro _ V2 hS2 rfl
  obtain ⟨m,hm'⟩:∃ m,(f x).1=m:=⟨_,rfl⟩
  obtain ⟨B,hB'⟩:∃ B,(f x).2=B:=⟨_,rfl⟩
  have hsn:bestHF f (xs.take (i+1))=bestHS f (l,n) x:=by rw [take_snoc_get hx,bestHF_snoc,←hl]
  simp only [bestHS,hm',hB'] at hsn
  rw [hm',hB']
  have e2:=hS2.ext
  have k5':=k5.ext e2
  have k6':=k6.ext e2
  have A6:At V2 b6 0 [.int .i64 n]:=Bk.toAt (h:=k6')
  cases B with
  | false =>
    rw [if_neg (by simp)] at hsn
    (refine jI (eU rfl) (ju rfl rfl (ju rfl rfl (jJ (eI rfl) (jJ (eB rfl) (jz ?_)))));refine jjB (jjC (jI (eB rfl) (jI (eB rfl) (jU rfl rfl rfl rfl (jU rfl rfl rfl rfl ?_)))));refine jU rfl rfl rfl rfl (jV rfl rfl (jV rfl rfl (jV rfl rfl (jU rfl rfl rfl rfl (jL rfl (eB rfl) ?_)))));refine jz (jjK rfl (jjG ?_)))
    exact ⟨e2.tr,Fr.ext e2,h1.trans e2,by have:=e2.size;omega,h3.ext e2,l,a,c,n,k5',k6',hO.ext e2,hsn.symm⟩
  | true =>
  have nb:∀ b,b<w_b6.heap.size→(Value.slice a' x.length c').ownBlock≠some b:=fun b hb e=>by have:=(hO'.block b e).1;omega
  rcases (by omega:(¬ n<0∧¬ m<n)∨n<0∨(¬ n<0∧m<n)) with ⟨hn,hm⟩|hn|⟨hn,hm⟩
  ·rw [if_neg (by omega)] at hsn
   (refine jI (eU rfl) (ju rfl rfl (ju rfl rfl (jJ (eI rfl) (jJ (eB rfl) (jz ?_)))));refine jjB (jjC (jI (eB rfl) (jI (eB rfl) (jT rfl rfl rfl (jN rfl rfl rfl ?_)))));refine jT rfl rfl rfl (jja rfl rfl (by omega) (jT rfl rfl rfl (jI (eB rfl) (jT rfl rfl rfl (jI (eI rfl) ?_)))));refine jT rfl rfl rfl (jN rfl rfl rfl (jT rfl rfl rfl (jja rfl rfl (by omega) (jT rfl rfl rfl (jL rfl (eB rfl) ?_)))));refine jK rfl (eB rfl) (jz (jjK rfl (jjG ?_))))
   exact ⟨e2.tr,Fr.ext e2,h1.trans e2,by have:=e2.size;omega,h3.ext e2,l,a,c,n,k5',k6',hO.ext e2,hsn.symm⟩
  all_goals
   rw [if_pos ⟨rfl,by omega⟩] at hsn
   repeat' (first|(refine jW ?_;(first|refine jjZ rfl rfl (by omega) ?_|refine jja rfl rfl (by omega) ?_))|((first|apply jI|apply jJ|apply jK rfl|apply jL rfl);(first|exact eI rfl|exact eB rfl|exact eS rfl|exact eU rfl))|(refine jM (jN rfl rfl rfl ?_))|(refine jS ?_;(first|refine jT rfl rfl rfl ?_|refine jU rfl rfl rfl rfl ?_))|refine ju rfl rfl ?_|refine jz ?_|(refine jjA ?_;(first|refine jjB ?_|refine jjC ?_|refine jjJ rfl ?_)))
   refine Ops.store rfl rfl rfl rfl rfl ?_
   intro V3 hp3
   have k63:Bk V3 b6 [.int .i64 n] 3:=hp3.bk k6' (by omega)
   skip
   refine Ops.store rfl rfl rfl rfl rfl ?_
   intro V4 hp4
   repeat' (first|refine jz ?_)
   refine ⟨(e2.tr.trans (hp3.tr ⟨_,k5'.h,rfl⟩)).trans (hp4.tr ⟨_,k63.h,rfl⟩),((Fr.ext e2).trans (hp3.frS (M:=fun k=>k=b5∨k=b6) (.inl rfl))).trans (hp4.frS (M:=fun k=>k=b5∨k=b6) (.inr rfl)),hp4.ext (hp3.ext (h1.trans e2) (by omega)) (by omega),?_,hp4.at_ (hp3.at_ (h3.ext e2) (by omega)) (by omega),x,a',c',m,hp4.bk ⟨hp3.new⟩ (by omega),⟨hp4.new⟩,((hO'.ext e2).put hp3 (nb _ (by omega))).put hp4 (nb _ (by omega)),hsn.symm⟩
   rw [hp4.size,hp3.size]
   exact Nat.le_trans h2 e2.size
 case hdone =>
  rintro ds' V hmk htr ⟨h1,h2,h3,l,a,c,n,k5,k6,hO,hl⟩
  have A5:At V b5 0 [.slice a l.length c]:=Bk.toAt (h:=k5)
  (refine jjB (jjC (jN rfl rfl rfl (jJ (eS rfl) (jz (jjF ?_))))))
  rw [List.take_length] at hl
  have el:l=(bestHF f xs).1:=congrArg Prod.fst hl
  exact fin1M rfl rfl hmk fun w' g=>⟨h1.ofGrow g (Nat.le_refl _),a,c,by rw [←el];exact rfl,by rw [←el];exact (hO.grow g).row⟩

section
variable (bd:Nat) (v0 v1 v4 v5:Value) (sa:Option Addr) (sc:Nat) (ss:List Shr) (xa:Option Addr) (xc:Nat) (xs:List Sht) (w:World)
 [hd:At w bd 0 [v0,v1,.slice sa ss.length sc,.slice xa xs.length xc,v4,v5]] [hss:RowI w (.slice sa ss.length sc) true 4 (ss.map encShr)] [hxs:RowI w (.slice xa xs.length xc) true 2 (xs.map encSht)] [hxi:ShtI w xs]
include hd hss hxs hxi in
set_option maxHeartbeats 8000000 in
theorem differ0_hand {nl:Nat} {hs:List Hp} (hp:RoundOk nl hs ss xs) (hno:∀ j,j+1<ss.length→[j,j+1].any (difB ss xs)=true):Ct Tryz.prog 64 [.pointer (some ⟨bd,0,none⟩)] w fun v w'=>v=.slice none 0 0:=by
 have:=hxi
 have hs1:=hp.s1
 have hx1:=hp.x1
 refine Ct.ofW (by simp) ?_
 (refine jjB (jjC ?_))
 (refine jy rfl ?_;intro b1 w_b1 hb_b1 hs_b1 hS_b1 hk_b1;have hA_b1:=At.ofBlock hk_b1)
 (refine jJ (eS rfl) (jz (jjB (jjC (jJ (eS rfl) (jz ?_)))));refine jjB (jjB (jjC (jJ (eI rfl) (jz (jjD ?_))))))
 have z1:=hS_b1.size
 refine W.keep0 [(1,.pointer (some ⟨b1,0,none⟩)),(3,.slice none 0 0),(4,.int .i64 ((1:Nat):Int))] ⟨eP rfl,eS rfl,eI rfl,trivial⟩ fun s0=>?_
 refine W.loopG (9::10::11::12::13::14::15::16::19::20::21::22::5::23::24::25::26::27::28::29::30::31::32::33::34::35::36::37::38::39::40::41::42::43::44::6::7::45::46::47::48::49::50::51::52::53::54::55::56::57::58::59::60::61::62::63::64::65::66::8::67::68::69::70::71::72::73::74::75::76::77::78::79::80::81::3::17::18::4::[]) (fun g s' V=>∃ (i:Nat),s' 4=.int .i64 (i:Int)∧s' 3=.slice none 0 0∧g=ss.length+1-i∧1≤i∧i≤ss.length+1∧Ext w_b1 V) ss.length ⟨1,rfl,rfl,by omega,by omega,by omega,.refl _⟩ ?_
 rintro _ sd V ⟨i,h4,h3,rfl,hi1,hi2,hEV⟩
 refine W.fix h4 (W.fix (d:=3) h3 ?_)
 clear h4 h3
 have hEV':=hEV.toStep
 have hEw:Ext w V:=hS_b1.ext.trans hEV
 have hEw':=hEw.toStep
 have zV:=hEV.size
 by_cases hk:i<ss.length
 rotate_left
 ·(refine jjB (jjB (jjC (jI (eI rfl) (jN rfl rfl rfl (jw rfl ?_)))));refine jm (jn rfl (jm (jn rfl (jN rfl rfl rfl (jh rfl ?_)))));refine jja rfl rfl (by omega) (jz (jjK rfl (jjE (jjB (jjC ?_)))));refine jI (eS rfl) (jJ (eS rfl) (jz (jjF ?_)));refine jB rfl rfl ⟨inferInstance,?_⟩)
  exact rfl
 obtain ⟨j,rfl⟩:∃ j,i=j+1:=⟨i-1,by omega⟩
 have hj:j<ss.length:=by omega
 have ej:(((j+1:Nat):Int)-1)=(j:Int):=by omega
 (refine jjB (jjB (jjC (jI (eI rfl) (jN rfl rfl rfl (jw rfl ?_)))));refine jm (jn rfl (jm (jn rfl (jN rfl rfl rfl (jh rfl ?_)))));refine jjZ rfl rfl (by omega) (jz (jjJ rfl (jjG (jjB (jjD ?_)))));refine jjB (jjC (jI (eI rfl) (jZ rfl rfl (by omega) (jI (eI rfl) ?_)))))
 (refine jjS (cells:=[.int .i64 (((j+1:Nat):Int)-1),.int .i64 ((j+1:Nat):Int)]) ?_ ?_;exact rfl)
 (apply jjR rfl;(intro _;first|exact eI rfl|exact eB rfl|exact eP rfl|exact eS rfl|exact eT rfl|exact eA rfl|exact eU rfl|exact eF rfl|exact eM rfl|exact eN rfl|exact rfl);exact rfl;exact rfl;exact rfl;exact rfl;intro b5 w_b5 hb_b5 hs_b5 hS_b5 hk_b5;have hA_b5:=Bk.of hk_b5)
 have hE5:Ext w_b1 w_b5:=hEV.trans hS_b5.ext
 have hE5':=hE5.toStep
 have hE5w:Ext w w_b5:=hS_b1.ext.trans hE5
 have hE5w':=hE5w.toStep
 have A5:At w_b5 b5 0 [.int .i64 (((j+1:Nat):Int)-1),.int .i64 ((j+1:Nat):Int)]:=Bk.toAt (h:=hA_b5)
 rw [ej] at A5
 have R5:RowV w_b5 false 1 (.slice (some ⟨b5,0,none⟩) [j,j+1].length 2) ([j,j+1].map natV):=row_two A5
 have hC:=hno j hk
 have A1:At w_b5 b1 0 [.pointer (some ⟨bd,0,none⟩)]:=inferInstance
 have D5:At w_b5 bd 0 [v0,v1,.slice sa ss.length sc,.slice xa xs.length xc,v4,v5]:=inferInstance
 have S5:RowI w_b5 (.slice sa ss.length sc) true 4 (ss.map encShr):=inferInstance
 have X5:RowI w_b5 (.slice xa xs.length xc) true 2 (xs.map encSht):=inferInstance
 (refine jz (jjB (jjB (jjC ?_))))
 refine Ops.sliceArr rfl rfl ?_
 (refine jv ?_)
 refine jjQ ((ContainsFunc_int _ _ (.func (.func 104) #[] [Value.pointer (some ⟨b1,0,none⟩)].toArray) natV [j,j+1] (difB ss xs) R5 ⟨_,_,rfl,inferInstance,fun w' x hx hs'=>differ1_hand bd v0 v1 v4 v5 sa sc ss xa xc xs w' (hd:=D5.ext hs') (hss:=⟨S5.h.ext hs'⟩) (hxs:=⟨X5.h.ext hs'⟩) b1 (hb:=A1.ext hs') hp.parts x (by simp only [List.mem_cons,List.not_mem_nil,or_false] at hx;omega)⟩).mono fun v _ _ h=>h.trans (by rw [hC])) rfl rfl ?_
 rintro _ w6 hS6 rfl
 have hE6:Ext w_b1 w6:=hE5.trans hS6.ext
 have hE6w:Ext w w6:=hS_b1.ext.trans hE6
 have hE6':=hE6.toStep
 (refine jz (jjJ rfl (jjE (jjC (jI (eI rfl) (jY rfl rfl (by omega) ?_)))));refine jJ (eI rfl) (jz ?_))
 exact ⟨rfl,by (((iterate 21 refine Same.upd rfl ?_);exact Same.ovN)),ss.length+1-(j+1+1),by omega,j+1+1,congrArg (Value.int .i64) (by omega),rfl,by omega,by omega,by omega,hE6⟩
end

theorem pairsOf0_hand (pa:Option Addr) (pc:Nat) (o:Value) (w:World):Ct Tryz.prog 71 [.slice pa 0 pc,o] w fun v _=>v=.slice none 0 0:=by
 refine Ct.ofW (by simp) ?_
 (refine jjB (jjC (jJ (eS rfl) (jz (jjB (jjC ?_)))));refine jJ (eS rfl) (jz (jjB (jjB (jjC (jI (eS rfl) ?_)))));refine jh rfl (jI (eI rfl) (jz (jjD ?_))))
 refine W.keep0 [(5,.slice none 0 0),(9,.int .i64 ((0:Nat):Int)),(10,.int .i64 ((0:Nat):Int))] ⟨eS rfl,eI rfl,eI rfl,trivial⟩ fun s0=>?_
 refine W.loop (11::12::13::7::14::15::16::17::18::19::20::21::22::23::24::25::26::27::5::28::10::[]) (fun g s' _=>s' 10=.int .i64 ((0:Nat):Int)∧s' 5=.slice none 0 0) 0 ⟨rfl,rfl⟩ ?_
 rintro _ sd V hSV ⟨h10,h5⟩
 refine W.fix h10 (W.fix (d:=5) h5 ?_)
 clear h10 h5
 (refine jjB (jjC (jja rfl rfl (by omega) (jz (jjB (jjK rfl ?_)))));refine jjE (jjB (jjC (jI (eS rfl) (jJ (eS rfl) (jz ?_)))));refine jjF ?_;refine jB rfl rfl ⟨inferInstance,?_⟩)
 exact rfl
theorem Index0_pairs (a:Option Addr) (c:Nat) (q:Int×Int) (w:World):Ct Tryz.prog 111 [.slice a 0 c,encII q] w fun v _=>v=.int .i64 (-1):=by
 refine Ct.ofW (by simp) ?_
 (refine jjB (jjC ?_))
 (refine jy rfl ?_;intro b3 w_b3 hb_b3 hs_b3 hS_b3 hk_b3;have hA_b3:=At.ofBlock hk_b3)
 (refine jJ (eI rfl) (jz (jjB (jjB (jjC (jI (eS rfl) ?_)))));refine jh rfl (jI (eI rfl) (jz (jjD ?_))))
 refine W.keep0 [(7,.int .i64 ((0:Nat):Int)),(8,.int .i64 ((0:Nat):Int))] ⟨eI rfl,eI rfl,trivial⟩ fun s0=>?_
 refine W.loop (9::10::5::11::12::13::14::15::16::17::4::18::8::[]) (fun g s' _=>s' 8=.int .i64 ((0:Nat):Int)) 0 rfl ?_
 rintro _ sd V hSV h8
 refine W.fix h8 ?_
 clear h8
 (refine jjB (jjC (jja rfl rfl (by omega) (jz (jjB (jjK rfl ?_)))));refine jjE (jjB (jjC (jJ (eI rfl) (jz (jjF ?_)))));refine jB rfl rfl ⟨inferInstance,?_⟩)
 exact rfl
theorem Contains0_pairs (a:Option Addr) (c:Nat) (q:Int×Int) (w:World):Ct Tryz.prog 70 [.slice a 0 c,encII q] w fun v _=>v=.bool false:=by
 refine Ct.ofW (by simp) ?_
 (refine jjB (jjC ?_))
 (refine jy rfl ?_;intro b3 w_b3 hb_b3 hs_b3 hS_b3 hk_b3;have hA_b3:=At.ofBlock hk_b3)
 (refine jJ (eB rfl) (jz (jjB (jjC (jI (eS rfl) (jO rfl rfl rfl rfl ?_))))))
 refine jjQ (Index0_pairs a c q _) rfl rfl ?_
 rintro _ w1 hS1 rfl
 (refine jjg rfl rfl (by omega) (jJ (eB rfl) (jz (jjF ?_)));refine jB rfl rfl ⟨inferInstance,?_⟩)
 exact rfl
section
variable (b1 b2:Nat) (ta:Option Addr) (tc:Nat) (pa:Option Addr) (pc:Nat) (a:Option Addr) (c:Nat) (out:List Int) (w:World) [h1:At w b1 0 [.slice ta 0 tc]] [h2:At w b2 0 [.slice pa 0 pc]] [hout:RowI w (.slice a out.length c) false 1 (out.map intV)]
include h1 h2 hout
set_option maxHeartbeats 8000000 in
theorem again10_hand (ho:∀ y∈out,0≤y∧y<2) (hlo:out.length≤1000):Ct Tryz.prog 67 [.slice a out.length c,.pointer (some ⟨b1,0,none⟩),.pointer (some ⟨b2,0,none⟩)] w fun r _=>r=.tuple #[.int .i64 (agC [] [] out).1,.bool (agC [] [] out).2]:=by
 have hsum:∀ k,k≤out.length→0≤((out.take k).map fun x:Int=>1-x).sum∧((out.take k).map fun x:Int=>1-x).sum≤((k:Nat):Int):=fun k=>by
  induction k with
  | zero=>intro _;simp
  | succ k ih =>
    intro hk
    have hk':k<out.length:=by omega
    have:=ih (by omega)
    have:=ho _ (List.getElem_mem hk')
    rw [take_snoc_get (List.getElem?_eq_getElem hk'),List.map_append,List.sum_append]
    simp only [List.map_cons,List.map_nil,List.sum_cons,List.sum_nil]
    omega
 have hend:agC [] [] out=((out.map fun x:Int=>1-x).sum,true):=by simp [agC]
 rw [hend]
 refine Ct.ofW (by simp) ?_
 (refine jjB (jjC ?_))
 (refine jy rfl ?_;intro b3 w_b3 hb_b3 hs_b3 hS_b3 hk_b3;have hA_b3:=At.ofBlock hk_b3)
 (refine jJ (eI rfl) (jJ (eB rfl) (jz (jjB (jjC (jJ (eI rfl) ?_)))));refine jz (jjB (jjB (jjC (jN rfl rfl rfl (jh rfl ?_)))));refine jI (eI rfl) (jz (jjD ?_)))
 refine W.keep0 [(1,.pointer (some ⟨b1,0,none⟩)),(2,.pointer (some ⟨b2,0,none⟩)),(3,.pointer (some ⟨b3,0,none⟩)),(6,.int .i64 ((0:Nat):Int)),(10,.slice a out.length c),(11,.int .i64 (out.length:Int)),(12,.int .i64 ((0:Nat):Int))] ⟨eP rfl,eP rfl,eP rfl,eI rfl,eS rfl,eI rfl,eI rfl,trivial⟩ fun s0=>?_
 refine W.loop (13::14::15::8::16::17::18::19::6::20::12::[]) (fun g s' V=>∃ (k:Nat),s' 12=.int .i64 ((k:Nat):Int)∧s' 6=.int .i64 ((out.take k).map fun x:Int=>1-x).sum∧g=out.length-k∧k≤out.length) out.length ⟨0,rfl,rfl,rfl,Nat.zero_le _⟩ ?_
 rintro _ sd V hSV ⟨k,h12,h6,rfl,hk⟩
 have hs:=hsum k hk
 obtain ⟨n,hn⟩:∃ n,((out.take k).map fun x:Int=>1-x).sum=n:=⟨_,rfl⟩
 rw [hn] at h6 hs
 refine W.fix h12 (W.fix (d:=6) h6 ?_)
 clear h12 h6
 by_cases hk1:k<out.length
 ·have hy:=ho _ (List.getElem_mem hk1)
  have hnx:((out.take (k+1)).map fun x:Int=>1-x).sum=n+(1-out[k]):=by
   rw [take_snoc_get (List.getElem?_eq_getElem hk1),List.map_append,List.sum_append,hn];simp
  (refine jjB (jjC (jjZ rfl rfl (by omega) (jz (jjB (jjJ rfl ?_)))));refine jjG (jjB (jjD (jjB (jjC ?_))));refine jF rfl rfl rfl (map_get (by omega)) ?_;intro _ _ _;refine jQ rfl rfl (jJ (eI rfl) (jz (jjC (jI (eI rfl) (jI (eI rfl) ?_)))));refine jZ rfl rfl (by omega) (jY rfl rfl (by omega) (jJ (eI rfl) (jz (jjC (jY rfl rfl (by omega) ?_)))));refine jI (eI rfl) (jz ?_))
  exact ⟨rfl,by (((iterate 13 refine Same.upd rfl ?_);exact Same.ovN)),out.length-(k+1),by omega,inferInstance,k+1,congrArg (Value.int .i64) (by omega),by rw [hnx];exact rfl,rfl,by omega⟩
 obtain rfl:k=out.length:=by omega
 rw [List.take_length] at hn
 rw [hn]
 have i3:At V b3 0 [.slice a out.length c]:=inferInstance
 have iO:RowI V (.slice a out.length c) false 1 (out.map intV):=inferInstance
 (refine jjB (jjC (jja rfl rfl (by omega) (jz (jjB (jjK rfl ?_)))));refine jjE (jjB (jjC (jN rfl rfl rfl (jv ?_)))))
 refine jjQ (ContainsFunc_int V (.slice ta ([]:List Nat).length tc) (.func (.func 69) #[] [Value.pointer (some ⟨b3,0,none⟩)].toArray) natV [] (fun t=>decide (out.getD t 0=1)) (RowV.nilS _ _ _ _ _) ⟨_,_,rfl,inferInstance,fun w' x hx hs'=>absurd hx List.not_mem_nil⟩) rfl rfl ?_
 rintro _ w2 hS2 rfl
 (refine jI (eB rfl) (jT rfl rfl rfl (jN rfl rfl rfl (jT rfl rfl rfl (jN rfl rfl rfl (jT rfl rfl rfl ?_))))))
 refine jjQ (pairsOf0_hand pa pc _ _) rfl rfl ?_
 rintro _ w3 hS3 rfl
 (refine jT rfl rfl rfl ?_)
 (refine jjS (cells:=[.int .i64 1,.int .i64 1]) ?_ ?_;exact rfl)
 (refine jT rfl rfl rfl ?_)
 refine jjQ (Contains0_pairs none 0 (1,1) _) rfl rfl ?_
 rintro _ w4 hS4 rfl
 (refine jL rfl (eB rfl) (jJ (eB rfl) (jz (jjB (jjC (jI (eI rfl) ?_)))));refine jI (eB rfl) (jq rfl (jJ (eI rfl) (jJ (eB rfl) (jz (jjF ?_)))));refine jC rfl rfl rfl ⟨inferInstance,?_⟩)
 exact rfl
end

section
variable (bd:Nat) (v0 v1 v4 v5:Value) (sa:Option Addr) (sc:Nat) (ss:List Shr) (xa:Option Addr) (xc:Nat) (xs:List Sht) (w:World)
 [hd:At w bd 0 [v0,v1,.slice sa ss.length sc,.slice xa xs.length xc,v4,v5]] [hss:RowI w (.slice sa ss.length sc) true 4 (ss.map encShr)] [hxs:RowI w (.slice xa xs.length xc) true 2 (xs.map encSht)] [hxi:ShtI w xs]
include hd hss hxs hxi in
set_option maxHeartbeats 8000000 in
theorem again0_hand {nl:Nat} {hs:List Hp} (hp:RoundOk nl hs ss xs) (hno:∀ j,j+1<ss.length→[j,j+1].any (difB ss xs)=true) (hto:tornL ss xs ss.length=[]):Ct Tryz.prog 30 [.pointer (some ⟨bd,0,none⟩)] w fun v _=>v=.slice none 0 0:=by
 have hs1:=hp.s1
 refine Ct.ofW (by simp) ?_
 (refine jjB (jjC (jJ (eS rfl) (jz (jjB (jjC ?_)))));refine jI (eP rfl) ?_)
 refine jjQ (allTorn_hand bd v0 v1 v4 v5 sa sc ss xa xc xs _ hp.parts (by omega)) rfl rfl ?_
 rintro _ w1 hS1 ⟨ta,tc,rfl,hOt⟩
 have htl:(tornL ss xs ss.length).length=0:=by rw [hto];rfl
 (apply jI;exact eP rfl)
 refine jjQ (differ0_hand bd v0 v1 v4 v5 sa sc ss xa xc xs _ hp hno) rfl rfl ?_
 rintro _ w2 hS2 rfl
 ((skip);refine jjY ?_;intro b3 w_b3 hb_b3 hs_b3 hS_b3 hk_b3;have hA_b3:=Bk.of hk_b3)
 ((skip);refine jjY ?_;intro b4 w_b4 hb_b4 hs_b4 hS_b4 hk_b4;have hA_b4:=Bk.of hk_b4)
 skip
 refine Ops.store rfl rfl rfl rfl rfl ?_
 intro w5 hp5
 have k4:Bk w5 b4 [.slice none 0 0] 138:=hp5.bk hA_b4 (by have:=hS_b3.size;omega)
 skip
 refine Ops.store rfl rfl rfl rfl rfl ?_
 intro w6 hp6
 have hE4:Ext w2 w_b4:=hS_b3.ext.trans hS_b4.ext
 have z2:=(hS1.ext.trans hS2.ext).size
 have z3:=hS_b3.size
 have z4:=hS_b4.size
 have hE6:Ext w2 w6:=hp6.ext (hp5.ext hE4 (by omega)) (by omega)
 have hE6w:Ext w w6:=(hS1.ext.trans hS2.ext).trans hE6
 have hE6':=hE6w.toStep
 have A3:At w6 b3 0 [.slice ta 0 tc]:=by
  have h:At w6 b3 0 [.slice ta (tornL ss xs ss.length).length tc]:=hp6.at_ (Bk.toAt (h:=⟨hp5.new⟩)) (by omega)
  rw [htl] at h
  exact h
 have A4:At w6 b4 0 [.slice none 0 0]:=Bk.toAt (h:=⟨hp6.new⟩)
 (refine jz (jjB (jjC (jI (eP rfl) (jw rfl (jm ?_)))));refine jn rfl (jm (jn rfl (jN rfl rfl rfl (jh rfl ?_)))))
 refine jjQ (lists_hand ss.length 2 _) rfl rfl ?_
 rintro _ w7 hS7 ⟨b1,b2,rfl,hA1,hA2⟩
 (refine jv ?_)
 refine jjQ (bestX_hand (agC [] []) 107 [.pointer (some ⟨b1,0,none⟩),.pointer (some ⟨b2,0,none⟩)] (lsF 2 ss.length []) 67 [.pointer (some ⟨b3,0,none⟩),.pointer (some ⟨b4,0,none⟩)] (fun N w=>(At w b1 0 [.int .i64 ((ss.length:Nat):Int)]∧At w b2 0 [.int .i64 ((2:Nat):Int)])∧N≤w.heap.size) _ (fun N=>lists1_hand N b1 b2 ss.length 2 (by omega) (by omega)) (fun N w' e hN=>⟨⟨hA1.ext e,hA2.ext e⟩,hN⟩) ?hcost) rfl rfl ?_
 case hcost =>
  intro x hx V a c hV hR
  obtain ⟨r,hr,hrl,hr2⟩:=lsF_mem.1 hx
  rw [List.nil_append] at hr
  subst hr
  have e7:=hS7.ext.trans hV
  exact again10_hand b3 b4 ta tc none 0 a c x V (h1:=A3.ext e7) (h2:=A4.ext e7) (hout:=⟨hR⟩) hr2 (by omega)
 rintro _ w8 hS8 ⟨a,c,rfl,hR8⟩
 have hag:=ag_none ss.length
 have hal:=agL_len [] [] ss.length
 obtain ⟨l,hl⟩:∃ l,(bestHF (agC [] []) (lsF 2 ss.length [])).1=l:=⟨_,rfl⟩
 rw [agL,hl] at hag hal
 rw [hl] at hR8 ⊢
 have hne:∀ (k:Nat) (h:k<l.length),l[k]≠0:=fun k h e=>by
  have:k∈agP l:=by
   rw [agP,List.mem_filter,List.mem_range]
   refine ⟨h,decide_eq_true ?_⟩
   rw [gdI,List.getD_eq_getElem?_getD,List.getElem?_eq_getElem h,Option.getD_some,e]
  rw [hag] at this
  exact absurd this List.not_mem_nil
 have i8:RowI w8 (.slice a l.length c) false 1 (l.map intV):=⟨hR8⟩
 (refine jJ (eS rfl) (jz (jjB (jjC (jJ (eS rfl) (jz ?_)))));refine jjB (jjB (jjC (jI (eS rfl) (jh rfl (jI (eI rfl) ?_)))));refine jz (jjD ?_))
 refine W.keep0 [(6,.slice none 0 0),(22,.slice a l.length c),(23,.int .i64 (l.length:Int)),(24,.int .i64 ((0:Nat):Int))] ⟨eS rfl,eS rfl,eI rfl,eI rfl,trivial⟩ fun s0=>?_
 refine W.loop (25::26::27::28::7::8::29::30::31::32::33::34::6::35::24::[]) (fun g s' V=>∃ (k:Nat),s' 24=.int .i64 (k:Int)∧s' 6=.slice none 0 0∧g=l.length-k∧k≤l.length) l.length ⟨0,rfl,rfl,rfl,Nat.zero_le _⟩ ?_
 rintro _ sd V hSV ⟨k,h24,h6,rfl,hk⟩
 refine W.fix h24 (W.fix (d:=6) h6 ?_)
 clear h24 h6
 by_cases hk1:k<l.length
 rotate_left
 ·(refine jjB (jjC (jja rfl rfl (by omega) (jz (jjB (jjK rfl ?_)))));refine jjE (jjB (jjC (jI (eS rfl) (jJ (eS rfl) (jz ?_)))));refine jjF ?_;refine jB rfl rfl ⟨inferInstance,?_⟩)
  exact rfl
 have h0:=hne k hk1
 (refine jjB (jjC (jjZ rfl rfl (by omega) (jz (jjB (jjJ rfl ?_)))));refine jjG (jjB (jjD (jjB (jjC (jI (eI rfl) ?_)))));refine jF rfl rfl rfl (map_get (by omega)) ?_;intro _ _ _;refine jQ rfl rfl (jJ (eI rfl) (jJ (eI rfl) (jz (jjB (jjC ?_)))));refine jI (eI rfl) (jji rfl rfl (by omega) (jz (jjK rfl (jjG (jjC ?_)))));refine jY rfl rfl (by omega) (jI (eI rfl) (jz ?_)))
 exact ⟨rfl,by (((iterate 12 refine Same.upd rfl ?_);exact Same.ovN)),l.length-(k+1),by omega,inferInstance,k+1,congrArg (Value.int .i64) (by omega),rfl,rfl,by omega⟩
end

section
variable {P:Program} {ro:Option Nat} {n:Nat} {all rest:List Oper} {K:Sl→World→Prop} {s:Sl} {w:World} {d ty:Nat} {pos:String} {af:Array Edge}
theorem Ops.callB {args:Array Operand} {at_:Array Nat} {fv:Operand} {g:Nat} {fst cap vs:List Value} [he:Enters P g] {R:Value→World→Prop} (hc:Ct P g vs w R) (hf:ev n s fv=.func (.func g) fst.toArray cap.toArray)
  (ha:fst++args.toList.map (ev n s)++cap=vs) (hk:∀ v w',Step w w'→R v w'→Ops P ro n all rest K (upd s d v) w') :
  Ops P ro n all (⟨some d,.call { callee:=.value fv,args:=args,argTypes:=at_ },ty,pos,af,none⟩::rest) K s w:=by
 refine Ops.step rfl (OpW.ofCalls (R:=fun e w'=>∃ v,e=.returned v∧Ext w w'∧R v w') (f:=g) (args:=vs) rfl ?_ (by unfold Ct at hc;exact hc) fun _ w' ⟨v,e,x,r⟩=>⟨v,e,hk v w' x.toStep r⟩)
 subst ha
 have e:(fst.toArray++args.map (ev n s))++cap.toArray=(fst++args.toList.map (ev n s)++cap).toArray:=by
  apply Array.ext';simp
 simp [execOp,hf,go_sem,he.h,e]
end
def covI (p:Nat→Bool) (ss:List Shr) (k:Nat) (x:Int):Bool:=(List.range k).any fun j=>p j && decide ((ss.getD j noP).1≤x∧x≤(ss.getD j noP).2.1)
theorem covI_succ (p:Nat→Bool) (ss:List Shr) (k:Nat) (x:Int):covI p ss (k+1) x=(covI p ss k x || (p k && decide ((ss.getD k noP).1≤x∧x≤(ss.getD k noP).2.1))):=by
 simp [covI,List.range_succ]
def leftI (nl:Nat) (p:Nat→Bool) (ss:List Shr) (k:Nat) (x:Int):Bool:=decide (0≤x∧x<(nl:Int)) && !covI p ss k x
section
variable (bd:Nat) (v0 v1 v3 v5:Value) (sa:Option Addr) (sc:Nat) (ss:List Shr) (la:Option Addr) (lc:Nat) (L:List Ln) (pg:Nat) (pf pl:List Value) (w:World)
 [hd:At w bd 0 [v0,v1,.slice sa ss.length sc,v3,.slice la L.length lc,v5]] [hss:RowI w (.slice sa ss.length sc) true 4 (ss.map encShr)] [hll:RowI w (.slice la L.length lc) false 1 (L.map encLn)]
include hd hss hll in
set_option maxHeartbeats 8000000 in
theorem uncoveredX_hand (pb:Nat→Bool) [hpg:Enters Tryz.prog pg] (hp:∀ V,Ext w V→∀ i,i<ss.length→Ct Tryz.prog pg (pf++[.int .i64 (i:Int)]++pl) V fun v _=>v=.bool (pb i)) (hL:L.length≤1000000) (hs1:ss.length≤8) (hsp:∀ i (h:i<ss.length),0≤ss[i].1∧ss[i].1≤ss[i].2.1∧ss[i].2.1<(L.length:Int)) :
  Ct Tryz.prog 27 [.pointer (some ⟨bd,0,none⟩),.func (.func pg) pf.toArray pl.toArray] w fun v w'=>∃ mb m,v=.map (some mb)∧MapE (Value.int .i64) w' mb m∧SetM (leftI L.length pb ss ss.length) m:=by
 refine Ct.ofWM (by simp) ?_
 (refine jjB (jjC (jJ (eM rfl) (jz (jjB (jjC ?_))))))
 refine Ops.makeMap (Value.int .i64) ?_
 intro mb w1 hmb hs1' hS1 hM1
 skip
 (apply jjR rfl;(intro _;first|exact eI rfl|exact eB rfl|exact eP rfl|exact eS rfl|exact eT rfl|exact eA rfl|exact eU rfl|exact eF rfl|exact eM rfl|exact eN rfl|exact rfl);exact rfl;exact rfl;exact rfl;exact rfl;intro b5 w_b5 hb_b5 hs_b5 hS_b5 hk_b5;have hA_b5:=Bk.of hk_b5)
 have hE5:Ext w w_b5:=hS1.ext.trans hS_b5.ext
 have hM5:=hM1.ext hS_b5.ext
 have A5:At w_b5 b5 0 [.map (some mb)]:=Bk.toAt (h:=hA_b5)
 have hne:b5≠mb:=by omega
 (refine jz (jjB (jjB (jjC (jI (eP rfl) (jw rfl ?_)))));refine jm (jn rfl (jN rfl rfl rfl (jh rfl (jI (eI rfl) (jz ?_)))));refine jjD ?_)
 refine W.keep0 [(0,.pointer (some ⟨bd,0,none⟩)),(1,.func (.func pg) pf.toArray pl.toArray),(5,.pointer (some ⟨b5,0,none⟩)),(14,.int .i64 (L.length:Int)),(15,.int .i64 ((0:Nat):Int))] ⟨eP rfl,eF rfl,eP rfl,eI rfl,eI rfl,trivial⟩ fun s0=>?_
 refine W.loopG (16::17::6::18::19::20::15::[]) (fun g s' V=>∃ (k:Nat) (m:List (Int×Value)),s' 15=.int .i64 (k:Int)∧g=L.length-k∧k≤L.length∧Ext w V∧At V b5 0 [.map (some mb)]∧MapE (Value.int .i64) V mb m∧SetM (fun x:Int=>decide (0≤x∧x<(k:Int))) m) L.length ⟨0,[],rfl,rfl,Nat.zero_le _,hE5,A5,hM5,SetM.nil.congr fun x=>decide_eq_false (by omega)⟩ ?_
 rintro _ sd V ⟨k,m,h15,rfl,hk,hEV,hA,hM,hSet⟩
 refine W.fix h15 ?_
 clear h15
 have hEV':=hEV.toStep
 by_cases hk1:k<L.length
 ·(refine jjB (jjC (jjZ rfl rfl (by omega) (jz (jjB (jjJ rfl ?_)))));refine jjG (jjB (jjD (jjB (jjC (jI (eI rfl) ?_)))));refine jJ (eI rfl) (jz (jjC (jN rfl rfl rfl (jI (eI rfl) ?_)))))
  refine Ops.mapUpdate (k:=(k:Int)) (v:=.bool true) hM rfl rfl rfl ?_
  intro w3 o3 hp3 hM3
  (refine jz (jjC (jY rfl rfl (by omega) (jI (eI rfl) (jz ?_)))))
  refine ⟨rfl,by (((iterate 8 refine Same.upd rfl ?_);exact Same.ovN)),L.length-(k+1),by omega,k+1,_,congrArg (Value.int .i64) (by omega),rfl,by omega,hp3.ext hEV (by omega),hp3.at_ hA hne,hM3,(hSet.set (k:Int)).congr fun x=>?_⟩
  by_cases e:x=(k:Int)
  ·rw [decide_eq_true e,Bool.true_or];exact decide_eq_true (by omega)
  ·rw [decide_eq_false e,Bool.false_or]
   by_cases h:0≤x∧x<(k:Int)
   ·rw [decide_eq_true h];exact decide_eq_true (by omega)
   ·rw [decide_eq_false h];exact decide_eq_false (by omega)
 obtain rfl:k=L.length:=by omega
 (refine jjB (jjC (jja rfl rfl (by omega) (jz (jjB (jjK rfl ?_)))));refine jjE (jjB (jjB (jjC (jI (eP rfl) (jw rfl ?_)))));refine jm (jn rfl (jm (jn rfl (jN rfl rfl rfl (jh rfl ?_)))));refine jI (eI rfl) (jz (jjD ?_)))
 refine W.keep0 [(0,.pointer (some ⟨bd,0,none⟩)),(1,.func (.func pg) pf.toArray pl.toArray),(5,.pointer (some ⟨b5,0,none⟩)),(26,.int .i64 (ss.length:Int)),(27,.int .i64 ((0:Nat):Int))] ⟨eP rfl,eF rfl,eP rfl,eI rfl,eI rfl,trivial⟩ fun s1=>?_
 refine W.loopD (28::29::7::30::31::32::33::34::35::36::8::39::40::41::27::[]) (fun ds V=>Mks w.heap.size V ds) (fun g s' V=>∃ (k:Nat) (m:List (Int×Value)),s' 27=.int .i64 (k:Int)∧g=ss.length-k∧k≤ss.length∧Ext w V∧At V b5 0 [.map (some mb)]∧MapE (Value.int .i64) V mb m∧SetM (leftI L.length pb ss k) m) ss.length inferInstance ⟨0,m,rfl,rfl,Nat.zero_le _,hEV,hA,hM,hSet.congr fun x=>by simp [leftI,covI]⟩ ?_
 clear hEV hA hM hSet hEV' hk1 hk
 rintro _ sd2 ds V hmk ⟨k,m,h27,rfl,hk,hEV,hA,hM,hSet⟩
 refine W.fix h27 ?_
 clear h27
 have hEV':=hEV.toStep
 by_cases hk1:k<ss.length
 rotate_left
 ·(refine jjB (jjC (jja rfl rfl (by omega) (jz (jjB (jjK rfl ?_)))));refine jjE (jjB (jjC (jN rfl rfl rfl (jJ (eM rfl) (jz ?_)))));refine jjF ?_)
  exact fin1M rfl rfl hmk fun w' g=>⟨hEV.ofGrow g (Nat.le_refl _),mb,m,rfl,hM.grow g,by rw [show ss.length=k by omega];exact hSet⟩
 have sp:=hsp k hk1
 obtain ⟨f,hf⟩:∃ f:Nat,ss[k].1=(f:Int):=⟨ss[k].1.toNat,by omega⟩
 obtain ⟨t,ht⟩:∃ t:Nat,ss[k].2.1=(t:Int):=⟨ss[k].2.1.toNat,by omega⟩
 (refine jjB (jjC (jjZ rfl rfl (by omega) (jz (jjB (jjJ rfl ?_)))));refine jjG (jjB (jjD (jjB (jjC (jI (eI rfl) ?_)))));refine jJ (eI rfl) (jz (jjB (jjB (jjC (jI (eF rfl) ?_)))));refine jI (eI rfl) ?_)
 refine Ops.callB (hp V hEV k hk1) rfl rfl ?_
 rintro _ w4 hS4 rfl
 obtain ⟨B,hB⟩:∃ B,pb k=B:=⟨_,rfl⟩
 have hgd:ss.getD k noP=ss[k]:=by rw [List.getD_eq_getElem?_getD,List.getElem?_eq_getElem hk1];rfl
 rw [hB]
 have hE4:=hEV.trans hS4.ext
 cases B with
 | false =>
   (refine jq rfl (jz (jjJ rfl (jjE (jjC (jY rfl rfl (by omega) ?_)))));refine jI (eI rfl) (jz ?_))
   exact ⟨inferInstance,by (((iterate 10 refine Same.upd rfl ?_);exact Same.ovN)),ss.length-(k+1),by omega,k+1,m,congrArg (Value.int .i64) (by omega),rfl,by omega,hE4,hA.ext hS4.ext,hM.ext hS4.ext,hSet.congr fun x=>by rw [leftI,leftI,covI_succ,hB];simp⟩
 | true =>
 (refine jp rfl (jz (jjK rfl (jjG (jjB (jjC ?_)))));refine jI (eP rfl) (jI (eI rfl) ?_))
 refine jjQ (of_hand bd k _) rfl rfl ?_
 rintro _ w5 hS5 ⟨b1,b2,rfl,hb1,hb2,hA1,hA2⟩
 have hE5':=hE4.trans hS5.ext
 have hA5:=hA.ext (hS4.ext.trans hS5.ext)
 have hM5':=hM.ext (hS4.ext.trans hS5.ext)
 have zmb:mb<w4.heap.size:=(hM.ext hS4.ext).lt
 (refine jz (jjD ?_))
 refine W.rangeMN w.heap.size (List.range' f (t+1-f)) relU (of1_hand b1 b2 bd k v0 v1 v3 v5 sa sc ss la lc L hk1 f t hf ht (by omega) (by omega) hL) rfl (fun x vs V ⟨u,h⟩=>by rw [h];rfl) trivial inferInstance hE5'.size
  (fun i V=>Ext w V∧w5.heap.size≤V.heap.size∧At V b5 0 [.map (some mb)]∧(At V b1 0 [.pointer (some ⟨bd,0,none⟩)]∧At V b2 0 [.int .i64 (k:Int)])∧∃ m,MapE (Value.int .i64) V mb m∧SetM (fun x:Int=>leftI L.length pb ss k x && !decide ((f:Int)≤x∧x<(f:Int)+(i:Int))) m)
  ?hJ ?hF ⟨hE5',Nat.le_refl _,hA5,⟨hA1,hA2⟩,m,hM5',hSet.congr fun x=>by rw [decide_eq_false (by omega)];simp⟩ (fun _ k=>k=mb) ?hW1 (fun _ _ _ _ _ _ h=>h) (fun _ _ _ _ h=>.inl h) (fun n s' V=>s' 8=.int .i64 (n:Int)∧s' 5=.pointer (some ⟨b5,0,none⟩)) (fun x s V V' h g=>h) ?hassign ?hbody ?hdone
 case hJ =>
  rintro i V V' ⟨h1,h2,h3,⟨h4,h5⟩,m,h6,h7⟩ g
  exact ⟨h1.ofGrow g hE5'.size,Nat.le_trans h2 g.size,h3.grow g,⟨h4.grow g,h5.grow g⟩,m,h6.grow g,h7⟩
 case hF =>
  rintro i V ⟨h1,h2,h3,⟨h4,h5⟩,m,h6,h7⟩
  exact ⟨h4,h5,hd.ext h1,hss.h.ext h1,hll.h.ext h1⟩
 case hW1 =>
  rintro i V k ⟨h1,h2,h3,⟨h4,h5⟩,m,h6,h7⟩ rfl
  exact h6.lt
 case hassign =>
  rintro l' i x vs V hx ⟨u,rfl⟩ hj hl' hr
  (refine jjC (jJ (eI rfl) (jz ?_)))
  exact ⟨rfl,Tr.refl _,Fr.refl _ _,hj,rfl,rfl⟩
 case hbody =>
  rintro l' i x s' V hx ⟨h1,h2,h3,⟨h4,h5⟩,m,h6,h7⟩ ⟨hs8,hs5⟩ hl' hr
  have hxe:x=f+i:=by
   have hlt:=(List.getElem?_eq_some_iff.1 hx).1
   rw [List.length_range'] at hlt
   rw [List.getElem?_range' hlt] at hx
   simpa using hx.symm
  refine W.fix (d:=8) hs8 (W.fix (d:=5) hs5 ?_)
  clear hs8 hs5
  (refine jjD (jjC (jN rfl rfl rfl (jI (eI rfl) ?_))))
  refine Ops.deleteN (k:=(x:Int)) h6 rfl rfl ?_
  intro w7 o7 hp7 hM7
  obtain ⟨ob,hob,hol⟩:=h6.loopy
  (refine jz ?_)
  refine ⟨hp7.tr ⟨ob,hob,hol⟩,hp7.frS (M:=fun k=>k=mb) rfl,hp7.ext h1 (by omega),by rw [hp7.size];exact h2,hp7.at_ h3 hne,⟨hp7.at_ h4 (by omega),hp7.at_ h5 (by omega)⟩,_,hM7,(h7.del (x:Int)).congr fun y=>?_⟩
  rw [hxe]
  by_cases e:y=((f+i:Nat):Int)
  ·rw [decide_eq_true e,decide_eq_true (by omega)];simp
  ·rw [decide_eq_false e]
   by_cases h:(f:Int)≤y∧y<(f:Int)+(i:Int)
   ·rw [decide_eq_true h,decide_eq_true (by omega)];simp
   ·rw [decide_eq_false h,decide_eq_false (by omega)];simp
 case hdone =>
  rintro ds' V' hmk' htr ⟨h1,h2,h3,⟨h4,h5⟩,m',h6,h7⟩
  (refine jjC (jY rfl rfl (by omega) (jI (eI rfl) (jz ?_))))
  refine ⟨hmk',by (((iterate 13 refine Same.upd rfl ?_);exact Same.ovN)),ss.length-(k+1),by omega,k+1,m',congrArg (Value.int .i64) (by omega),rfl,by omega,h1,h3,h6,h7.congr fun x=>?_⟩
  rw [List.length_range',leftI,leftI,covI_succ,hB,hgd,hf,ht,Bool.true_and]
  have e:decide ((f:Int)≤x∧x<(f:Int)+((t+1-f:Nat):Int))=decide ((f:Int)≤x∧x≤(t:Int)):=by
   by_cases h:(f:Int)≤x∧x≤(t:Int)
   ·rw [decide_eq_true h];exact decide_eq_true (by omega)
   ·rw [decide_eq_false h];exact decide_eq_false (by omega)
  rw [e,Bool.not_or,Bool.and_assoc]
end

set_option maxHeartbeats 2000000 in
theorem Index_intsX (a:Option Addr) (c:Nat) (l:List Int) (x:Int) (w:World) [hrow:RowI w (.slice a l.length c) false 1 (l.map intV)] :
  Ct Tryz.prog 72 [.slice a l.length c,.int .i64 x] w fun v _=>∃ i:Int,v=.int .i64 i∧(0≤i↔x∈l):=by
 have hl:=hrow.h.len
 rw [List.length_map] at hl
 refine Ct.ofW (by simp) ?_
 (refine jjB (jjC (jJ (eI rfl) (jz (jjB (jjB ?_)))));refine jjC (jI (eS rfl) (jh rfl (jI (eI rfl) (jz (jjD ?_))))))
 refine W.loop (9::10::5::11::12::13::14::15::16::17::4::18::8::[]) (fun g s' _=>∃ j:Nat,s' 8=.int .i64 ((j:Nat):Int)∧g=l.length-j∧j≤l.length∧x ∉ l.take j) l.length ⟨0,rfl,rfl,Nat.zero_le _,by simp⟩ ?_
 rintro _ sd w1 hS1 ⟨j,h8,rfl,hj,hno⟩
 refine W.fix h8 ?_
 clear h8
 by_cases hjl:j<l.length
 rotate_left
 ·(refine jjB (jjC (jja rfl rfl (by omega) (jz (jjB (jjK rfl ?_)))));refine jjE (jjB (jjC (jJ (eI rfl) (jz (jjF ?_)))));refine jB rfl rfl ⟨inferInstance,?_⟩)
  refine ⟨_,rfl,fun h=>absurd h (by decide),fun h=>?_⟩
  rw [List.take_of_length_le (by omega)] at hno
  exact absurd h hno
 (refine jjB (jjC (jjZ rfl rfl (by omega) (jz (jjB (jjJ rfl ?_)))));refine jjG (jjB (jjD (jjB (jjC (jI (eI rfl) ?_)))));refine jJ (eI rfl) (jz (jjB (jjC (jI (eI rfl) (jI (eS rfl) ?_)))));refine jI (eI rfl) ?_;refine jF rfl rfl rfl (map_get (by omega)) ?_;intro _ _ _;refine jQ rfl rfl (jb rfl rfl (jz ?_)))
 repeat' (first|((first|apply jI|apply jJ);exact eI rfl)|(refine jW (jY rfl rfl (by omega) ?_))|refine jz ?_|(refine jjA ?_;(first|refine jjB ?_|refine jjC ?_|refine jjF ?_|refine jjG ?_))|(refine jjA ?_;(refine jjN rfl ?_ ?_<;>intro _))|refine jB rfl rfl ⟨inferInstance,?_⟩)
 ·have he:x=l[j]:=by assumption
  exact ⟨_,rfl,fun _=>by rw [he];exact List.getElem_mem hjl,fun _=>by omega⟩
 ·have he:¬ x=l[j]:=by assumption
  refine ⟨rfl,by (((iterate 12 refine Same.upd rfl ?_);exact Same.ovN)),l.length-(j+1),by omega,inferInstance,j+1,congrArg (Value.int .i64) (by omega),rfl,by omega,?_⟩
  rw [take_snoc_get (List.getElem?_eq_getElem hjl),List.mem_append,List.mem_singleton]
  exact fun h=>h.elim hno he
theorem Contains_intsX (a:Option Addr) (c:Nat) (l:List Int) (x:Int) (w:World) [hrow:RowI w (.slice a l.length c) false 1 (l.map intV)] :
  Ct Tryz.prog 32 [.slice a l.length c,.int .i64 x] w fun v _=>v=.bool (decide (x∈l)):=by
 refine Ct.ofW (by simp) ?_
 (refine jjB (jjC (jJ (eB rfl) (jz (jjB (jjC ?_)))));refine jI (eS rfl) (jI (eI rfl) ?_))
 refine jjQ (Index_intsX a c l x _) rfl rfl ?_
 rintro _ w1 hS1 ⟨i,rfl,hi⟩
 by_cases h:0≤i
 ·rw [decide_eq_true (hi.1 h)]
  (refine jjf rfl rfl (by omega) (jJ (eB rfl) (jz (jjF ?_)));refine jB rfl rfl ⟨inferInstance,?_⟩)
  exact rfl
 ·rw [decide_eq_false fun h'=>h (hi.2 h')]
  (refine jjg rfl rfl (by omega) (jJ (eB rfl) (jz (jjF ?_)));refine jB rfl rfl ⟨inferInstance,?_⟩)
  exact rfl
def goodB (xs:List Sht) (l:List Int) (k:Nat):Bool:=(xs.getD k (false,none,0,[])).1 && !decide ((k:Int)∈l)
section
variable (bd:Nat) (v0 v1 v2 v4 v5:Value) (xa:Option Addr) (xc:Nat) (xs:List Sht) (a:Option Addr) (c:Nat) (l:List Int) (b1 b2:Nat) (w:World)
 [hd:At w bd 0 [v0,v1,v2,.slice xa xs.length xc,v4,v5]] [hxs:RowI w (.slice xa xs.length xc) true 2 (xs.map encSht)] [hl:RowI w (.slice a l.length c) false 1 (l.map intV)] [h1:At w b1 0 [.pointer (some ⟨bd,0,none⟩)]] [h2:At w b2 0 [.slice a l.length c]]
include hd hxs hl h1 h2
set_option maxHeartbeats 4000000 in
theorem doubt1X_hand (k:Nat) (hx:k<xs.length):Ct Tryz.prog 31 [.int .i64 (k:Int),.pointer (some ⟨b1,0,none⟩),.pointer (some ⟨b2,0,none⟩)] w fun v _=>v=.bool (goodB xs l k):=by
 have hxl:=hxs.h.len
 rw [List.length_map] at hxl
 have gx:(xs.map encSht)[k]?=some (encSht xs[k]):=by rw [List.getElem?_map,List.getElem?_eq_getElem hx];rfl
 have e1:xs.getD k (false,none,0,[])=xs[k]:=by rw [List.getD_eq_getElem?_getD,List.getElem?_eq_getElem hx];rfl
 obtain ⟨B,hB⟩:∃ B,xs[k].1=B:=⟨_,rfl⟩
 obtain ⟨T,hT⟩:∃ T,decide ((k:Int)∈l)=T:=⟨_,rfl⟩
 obtain ⟨pb,po,rfl,-⟩:=hxs.h.place' gx
 have A0:At w pb (po+k * 2) [.bool B,.slice xs[k].2.1 xs[k].2.2.2.length xs[k].2.2.1]:=by
  rw [←hB];exact place_k hxs.h gx
 rw [goodB,e1,hB,hT]
 clear hxs
 refine Ct.ofW (by simp) ?_
 (refine jjB (jjC (jJ (eB rfl) (jz (jjB (jjC ?_)))));refine jN rfl rfl rfl (jw rfl (jm (jn rfl (jm (jn rfl ?_)))));refine jN rfl rfl rfl (jI (eI rfl) ?_))
 refine jH k rfl rfl rfl (by omega) ?_
 cases B with
 | false =>
   (refine jm (jn rfl (jP rfl rfl rfl (jI (eB rfl) (jU rfl rfl rfl rfl (jU rfl rfl rfl rfl ?_)))));refine jU rfl rfl rfl rfl (jU rfl rfl rfl rfl (jL rfl (eB rfl) (jJ (eB rfl) (jz (jjF ?_)))));refine jB rfl rfl ⟨inferInstance,?_⟩)
   exact rfl
 | true =>
   (refine jm (jn rfl (jP rfl rfl rfl (jI (eB rfl) (jT rfl rfl rfl (jN rfl rfl rfl ?_)))));refine jT rfl rfl rfl (jI (eI rfl) (jT rfl rfl rfl ?_)))
   refine jjQ ((Contains_intsX a c l (k:Int) _).mono fun v _ _ h=>h.trans (by rw [hT])) rfl rfl ?_
   rintro _ w2 hS2 rfl
   cases T with
   | false =>
     (refine jT rfl rfl rfl (jq rfl (jK rfl (eB rfl) (jJ (eB rfl) (jz (jjF ?_)))));refine jB rfl rfl ⟨inferInstance,?_⟩)
     exact rfl
   | true =>
     (refine jT rfl rfl rfl (jp rfl (jK rfl (eB rfl) (jJ (eB rfl) (jz (jjF ?_)))));refine jB rfl rfl ⟨inferInstance,?_⟩)
     exact rfl
end
def NoCmp (ss:List Shr) (xs:List Sht):Prop:=(∀ j,j+1<ss.length→[j,j+1].any (difB ss xs)=true)∧tornL ss xs ss.length=[]
section
variable (bd:Nat) (v0 v1 v4 v5:Value) (sa:Option Addr) (sc:Nat) (ss:List Shr) (xa:Option Addr) (xc:Nat) (xs:List Sht) (w:World)
 [hd:At w bd 0 [v0,v1,.slice sa ss.length sc,.slice xa xs.length xc,v4,v5]] [hss:RowI w (.slice sa ss.length sc) true 4 (ss.map encShr)] [hxs:RowI w (.slice xa xs.length xc) true 2 (xs.map encSht)] [hxi:ShtI w xs]
include hd hss hxs hxi in
theorem againC_hand {nl:Nat} {hs:List Hp} (hp:RoundOk nl hs ss xs):Ct Tryz.prog 30 [.pointer (some ⟨bd,0,none⟩)] w fun v w'=>∃ (l:List Int) (a:Option Addr) (c:Nat),v=.slice a l.length c∧RowV w' false 1 (.slice a l.length c) (l.map intV)∧(NoCmp ss xs→l=[]):=by
 by_cases h:NoCmp ss xs
 ·exact (again0_hand bd v0 v1 v4 v5 sa sc ss xa xc xs w hp h.1 h.2).mono fun v w' _ e=>⟨[],none,0,e,RowV.nilS _ _ _ _ _,fun _=>rfl⟩
 ·exact (again_hand bd v0 v1 v4 v5 sa sc ss xa xc xs w hp).mono fun v w' _ ⟨l,a,c,e,hR⟩=>⟨l,a,c,e,hR,fun h'=>absurd h' h⟩
end
end Go.Proofs.YtbafmbpmiiplkaaGreatDoor
