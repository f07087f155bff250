/- Mx, M1, M4, M5, M11, M22, M6, M7, M8, M9, M23, M24, M25, M31, Fm, M14, M15, M16, M17, M19, M33, M32, M34, M62, M64, M36, M18, M38, M48, M49, M50, M51, M52, M12, M20, M21, M53, M56, M65, M66: parts of the proof. No condition. -/
import Derived.Test.YtbgmbplglejidaaMT
import Derived.Lib.BitFns
set_option linter.unusedVariables false
set_option linter.unusedSimpArgs false
set_option linter.unusedSectionVars false
section
namespace Go.Am
def aG (r c:Nat) (M:Nat->Nat->Int):List Int:=(List.range (r*c)).map fun n=>M (n/c) (n%c)
def bY (c:Nat) (l:List Int):Nat->Nat->Int:=fun i j=>l.getD (i*c+j) 0
def lZ (M:Nat->Nat->Int) (i j:Nat) (x:Int):Nat->Nat->Int:=fun a b=>if a=i/\b=j then x else M a b
theorem uG {r c i j:Nat} (hi:i<r) (hj:j<c):i*c+j<r*c:=by
 have:(i+1)*c<=r*c:=Nat.mul_le_mul_right _ hi
 rw[Nat.add_mul] at this
 omega
theorem I7 {c i j:Nat} (hj:j<c):(i*c+j)/c=i:=by
 rw[Nat.mul_comm,Nat.mul_add_div (by omega),Nat.div_eq_of_lt hj,Nat.add_zero]
theorem I8 {c i j:Nat} (hj:j<c):(i*c+j)%c=j:=by
 rw[Nat.mul_comm,Nat.mul_add_mod,Nat.mod_eq_of_lt hj]
theorem j9 (r c:Nat) (M:Nat->Nat->Int):(aG r c M).length=r*c:=by simp[aG]
theorem Iw {r c i j:Nat} (M:Nat->Nat->Int) (hi:i<r) (hj:j<c):(aG r c M)[i*c+j]? =some (M i j):=by
 unfold aG
 rw[List.getElem?_map,List.getElem?_range (uG hi hj)]
 simp[I7 hj,I8 hj]
theorem m9 {r c:Nat} {M M':Nat->Nat->Int} (h:∀i,i<r->∀j,j<c->M i j=M' i j):aG r c M=aG r c M':=by
 unfold aG
 refine List.map_congr_left fun n hn=>?_
 have hn:=List.mem_range.1 hn
 have hc:0<c:=by
  rcases Nat.eq_zero_or_pos c with h|h
  ·subst h;simp at hn
  ·exact h
 exact h _ ((Nat.div_lt_iff_lt_mul hc).2 hn) _ (Nat.mod_lt _ hc)
theorem agT {r c i j:Nat} (M:Nat->Nat->Int) (hj:j<c) (x:Int):(aG r c M).set (i*c+j) x=aG r c (lZ M i j x):=by
 apply List.ext_getElem?
 intro n
 rw[List.getElem?_set,j9]
 unfold aG
 simp only[List.getElem?_map]
 by_cases hn:n<r*c
 ·rw[List.getElem?_range hn]
  have hc:0<c:=by omega
  by_cases he:i*c+j=n
  ·rw[if_pos he,if_pos (by omega)]
   subst he
   simp[lZ,I7 hj,I8 hj]
  ·rw[if_neg he]
   simp only[Option.map_some,lZ]
   rw[if_neg]
   rintro⟨h1,h2⟩
   apply he
   rw[<-h1,<-h2]
   have:=Nat.div_add_mod n c
   rw[Nat.mul_comm] at this
   exact this
 ·rw[List.getElem?_eq_none (by simp;omega)]
  by_cases he:i*c+j=n
  ·rw[if_pos he,if_neg (by omega)];rfl
  ·rw[if_neg he];rfl
theorem sE {r c:Nat} {l:List Int} (h:l.length=r*c):aG r c (bY c l)=l:=by
 apply List.ext_getElem?
 intro n
 unfold aG
 simp only[List.getElem?_map]
 by_cases hn:n<r*c
 ·rw[List.getElem?_range hn,List.getElem?_eq_getElem (by omega)]
  simp only[Option.map_some,bY]
  have:=Nat.div_add_mod n c
  rw[Nat.mul_comm] at this
  rw[this,List.getD_eq_getElem?_getD,List.getElem?_eq_getElem (by omega)]
  rfl
 ·rw[List.getElem?_eq_none (by simp;omega),List.getElem?_eq_none (by omega)]
  rfl
theorem pu {r c i j:Nat} (M:Nat->Nat->Int) (hi:i<r) (hj:j<c):bY c (aG r c M) i j=M i j:=by
 unfold bY
 rw[List.getD_eq_getElem?_getD,Iw M hi hj]
 rfl
theorem agS (r c:Nat) (x:Int):dT (r*c) x=aG r c (fun _ _=>x):=by
 unfold aG dT
 rw[List.map_const',List.length_range]
theorem I5 {i c j:Nat} (hi:i<=1048576) (hc:c<=1048576) (hj:j<=1048576):bS .i64 (c7 .i64 (i:Int) (c:Int)) (j:Int)=((i*c+j:Nat):Int):=by
 have h1:i*c<=1048576*1048576:=Nat.mul_le_mul hi hc
 have e:(i:Int)*(c:Int)=((i*c:Nat):Int):=by norm_cast
 rw[c7,zy (by omega) (by omega),fv (by omega) (by omega),e]
 omega
theorem BL {i c:Nat} (hi:i<=1048576) (hc:c<=1048576):c7 .i64 (i:Int) (c:Int)=((i*c:Nat):Int):=by
 have h1:i*c<=1048576*1048576:=Nat.mul_le_mul hi hc
 have e:(i:Int)*(c:Int)=((i*c:Nat):Int):=by norm_cast
 rw[c7,zy (by omega) (by omega),e]
theorem Yj {r c i j:Nat} (M:Nat->Nat->Int) (hi:i<r) (hj:j<c):dK (aG r c M) ((i*c+j:Nat):Int)=some (M i j):=by rw[dY,Iw M hi hj]
theorem ad7 {r c i j:Nat} (M:Nat->Nat->Int) (hi:i<r) (hj:j<c):fj ((i*c+j:Nat):Int) (J (aG r c M))=some (i*c+j):=q9 (by unfold J;rw[j9];exact uG hi hj)
theorem agU {r c i j:Nat} (M:Nat->Nat->Int) (hi:i<r) (hj:j<c):dv (aG r c M) (i*c+j)=some (M i j):=Iw M hi hj
theorem aoi {r c i j:Nat} (M:Nat->Nat->Int) (hj:j<c) (x:Int):bW (aG r c M) (i*c+j) x=aG r c (lZ M i j x):=agT M hj x
theorem yQ (r c:Nat) (M:Nat->Nat->Int):J (aG r c M)=r*c:=j9 r c M
theorem AL (r c:Nat) (M M':Nat->Nat->Int):ai 0 (J (aG r c M)) (J (aG r c M'))=some ():=by rw[yQ,yQ];exact cH _
theorem S2 (r c:Nat) (M M':Nat->Nat->Int):pF (J (aG r c M)) (J (aG r c M'))=some ():=by rw[yQ,yQ];exact ze rfl
theorem Rz {a p:Int} (ha:0<=a) (hp:0<p):jH a p=some (a%p):=by
 unfold jH
 rw[if_neg (by omega),Int.tmod_eq_emod_of_nonneg ha]
theorem qw {i n:Nat} (h:i<n):bO (i:Int) (n:Int)=true:=dc (by omega)
theorem qv {i n:Nat} (h:n<=i):bO (i:Int) (n:Int)=false:=cZ (by omega)
theorem j3 {i:Nat} (h:i<=1048577):bS .i64 (i:Int) 1=((i+1:Nat):Int):=by rw[fv (by omega) (by omega)];omega
def dO (p:Int):Prop:=2<=p/\p<=1000003
instance (p:Int):Decidable (dO p):=inferInstanceAs (Decidable (2<=p/\p<=1000003))
def fk (p x:Int):Prop:=0<=x/\x<p
instance (p x:Int):Decidable (fk p x):=inferInstanceAs (Decidable (0<=x/\x<p))
theorem xV {p:Int} (hp:dO p) (a:Int):fk p (a%p):=⟨Int.emod_nonneg _ (by have:=hp.1;omega),Int.emod_lt_of_pos _ (by have:=hp.1;omega)⟩
theorem fk.le {p x:Int} (h:fk p x):0<=x/\x<=p:=⟨h.1,Int.le_of_lt h.2⟩
theorem fk.s {p x:Int} (hp:dO p) (h:fk p x):0<=x/\x<=1000003000000:=⟨h.1,by have:=h.2;have:=hp.2;omega⟩
theorem Rl {p a b:Int} (hp:dO p) (ha:0<=a/\a<=p) (hb:0<=b/\b<=p):0<=a*b/\a*b<=1000006000009:=by
 refine⟨Int.mul_nonneg ha.1 hb.1,?_⟩
 have h1:=hp.2
 have:=Int.mul_le_mul (show a<=1000003 by omega) (show b<=1000003 by omega) hb.1 (by omega)
 omega
theorem aas {p a b:Int} (hp:dO p) (ha:0<=a/\a<=p) (hb:0<=b/\b<=p):c7 .i64 a b=a*b:=by
 have:=Rl hp ha hb
 exact zy (by omega) (by omega)
theorem aaf {p s a b:Int} (hp:dO p) (hs:0<=s/\s<=1000003000000) (ha:0<=a/\a<=p) (hb:0<=b/\b<=p):jH (bS .i64 s (c7 .i64 a b)) p=some ((s+a*b)%p):=by
 have h:=Rl hp ha hb
 rw[aas hp ha hb,fv (by omega) (by omega),Rz (by omega) (by have:=hp.1;omega)]
theorem Q2 {p a b:Int} (hp:dO p) (ha:0<=a/\a<=p) (hb:0<=b/\b<=p):jH (c7 .i64 a b) p=some (a*b%p):=by
 have h:=Rl hp ha hb
 rw[aas hp ha hb,Rz h.1 (by have:=hp.1;omega)]
def lB (p:Int) (f g:Nat->Int):Nat->Int
 |0=>0
 |n+1=>(lB p f g n+f n*g n)%p
theorem Mv {p:Int} (hp:dO p) (f g:Nat->Int):∀n,fk p (lB p f g n)
 |0=>⟨Int.le_refl _,by have:=hp.1;show(0:Int)<p;omega⟩
 |n+1=>xV hp _
def aar (p:Int) (k:Nat) (A B:Nat->Nat->Int):Nat->Nat->Int:=fun i j=>lB p (fun t=>A i t) (fun t=>B t j) k
def de (p:Int) (r c:Nat) (M:Nat->Nat->Int):Prop:=∀i,i<r->∀j,j<c->fk p (M i j)
def eX (p:Int) (l:List Int):Prop:=∀x∈l,fk p x
instance (p:Int) (l:List Int):Decidable (eX p l):=inferInstanceAs (Decidable (∀x∈l,fk p x))
theorem nK {p:Int} {r c:Nat} {M:Nat->Nat->Int}:eX p (aG r c M)↔de p r c M:=by
 constructor
 ·intro h i hi j hj
  exact h _ (List.mem_of_getElem? (Iw M hi hj))
 ·intro h x hx
  unfold aG at hx
  obtain⟨n,hn,rfl⟩:=List.mem_map.1 hx
  have hn:=List.mem_range.1 hn
  have hc:0<c:=by
   rcases Nat.eq_zero_or_pos c with h|h
   ·subst h;simp at hn
   ·exact h
  exact h _ ((Nat.div_lt_iff_lt_mul hc).2 hn) _ (Nat.mod_lt _ hc)
def pk (x:Int×Int×List Int):Prop:=(0<=x.1/\x.1<=4096)/\(0<=x.2.1/\x.2.1<=4096)/\(x.2.2.length:Int)=x.1*x.2.1/\x.2.2.length<=1048576
instance (x:Int×Int×List Int):Decidable (pk x):=by unfold pk;infer_instance
theorem Em {x:Int×Int×List Int} (h:pk x):∃(r c:Nat) (M:Nat->Nat->Int),x=((r:Int),(c:Int),aG r c M)/\r<=4096/\c<=4096/\r*c<=1048576:=by
 obtain⟨r,c,l⟩:=x
 obtain⟨h1,h2,h3,h4⟩:=h
 simp only at h1 h2 h3 h4
 obtain⟨r,rfl⟩:=fz h1.1
 obtain⟨c,rfl⟩:=fz h2.1
 have e:l.length=r*c:=by
  have:((r:Int)*(c:Int))=((r*c:Nat):Int):=by norm_cast
  rw[this] at h3;exact_mod_cast h3
 exact⟨r,c,bY c l,by rw[sE e],by omega,by omega,by omega⟩
theorem En {r c:Nat} (M:Nat->Nat->Int) (hr:r<=4096) (hc:c<=4096) (h:r*c<=1048576):pk ((r:Int),(c:Int),aG r c M):=by
 refine⟨⟨by omega,by show(r:Int)<=4096;omega⟩,⟨by show(0:Int)<=c;omega,by show(c:Int)<=4096;omega⟩,?_,?_⟩
 ·simp only[j9];norm_cast
 ·simp only[j9];exact h
end Go.Am
end
section
namespace Go.Am
end Go.Am
end
section
namespace Go.Am
def re (n:Int) (i:Nat):Bool:=decide ((i:Int)*i<=n)&&decide (n%(i:Int)=0)
def ct (n:Int):Bool:=decide (2<=n/\n<=1000003)&& !((List.range' 2 999).any (re n))
def pL:Int->Option Bool:=fun(n:Int)=>some (ct n)
def Ja (m:Int) (v:Int):Bool:=decide (0<=v/\v<m)
def mV (m:Int) (l:List Int):Bool:=l.all (Ja m)
def vk:Int×List Int->Option Bool:=fun((m,l):Int×List Int)=>if l.length<=1048576 then some (mV m l) else none
def kN (m:Int) (x:Int×Int×List Int):Bool:=ct m&&(decide (0<=x.1/\x.1<=64)&&(decide (0<=x.2.1/\x.2.1<=64)&&(decide ((x.2.2.length:Int)=x.1*x.2.1)&&mV m x.2.2)))
def tr:Int×Int×Int×List Int->Option Bool:=fun((m,x):Int×Int×Int×List Int)=>if Ks x<=1048576 then some (kN m x) else none
def Gm:ak:=[(.one,[.int .i64])]
def RY:ak:=[(.one,[.bool])]
def ajH:aN:=[]
def GI:ak:=[(.one,[.int .i64]),(.one,[.list [.int .i64]])]
def Si:ak:=[(.one,[.bool])]
def ajX:aN:=[]
def Gn:ak:=[(.one,[.int .i64]),(.agg,[.int .i64,.int .i64,.list [.int .i64]])]
def RZ:ak:=[(.one,[.bool])]
def ajI:aN:=[]
def K9 (NN:Nat):Int->(Option Bool):=
 (fun(i0:Int)=>
 aC (bO i0 (2:Int))
 (some false)
 (aC (bO (1000003:Int) i0)
 (some false)
 (cd (bN NN (fun((i1,i2):(Int×Int))=>
 aC (gC (c7 .i64 i2 i2) i1)
 ((jH i1 i2).aa (fun i3=>
 aC (cz i3 (0:Int))
 (some (Sum.inr (Sum.inr false)))
 (some (Sum.inl (i1,bS .i64 i2 1)))))
 (some (Sum.inr (Sum.inl ()))))
 (i0,(2:Int)))
 (fun _=>
 some true))))
def Lm (NN:Nat):(Int×(List Int))->(Option Bool):=
 (fun((i0,l1):(Int×(List Int)))=>
 cd (bN NN (fun((i2,l3,i4,i5):(Int×((List Int)×(Int×Int))))=>
 aC (bO i5 i4)
 ((dK l3 i5).aa (fun i6=>
 aC (bO i6 (0:Int))
 (some (Sum.inr (Sum.inr false)))
 (aC (gC i2 i6)
 (some (Sum.inr (Sum.inr false)))
 (some (Sum.inl (i2,l3,i4,bS .i64 i5 1))))))
 (some (Sum.inr (Sum.inl ()))))
 (i0,l1,aI (J l1),(0:Int)))
 (fun _=>
 some true))
def La (NN:Nat):(Int×(Int×(Int×(List Int))))->(Option Bool):=
 (fun((i0,i1,i2,l3):(Int×(Int×(Int×(List Int)))))=>
 (pL i0).aa (fun b4=>
 aC (ef b4)
 (some false)
 (aC (bO i1 (0:Int))
 (some false)
 (aC (bO i2 (0:Int))
 (some false)
 (aC (bO (64:Int) i1)
 (some false)
 (aC (bO (64:Int) i2)
 (some false)
 (aC (cz (aI (J l3)) (c7 .i64 i1 i2))
 ((vk (i0,l3)).aa (fun b5=>
 some b5))
 (some false))))))))
theorem np {a b:Int} (h1: -9223372036854775808<=a*b) (h2:a*b<=9223372036854775807):c7 .i64 a b=a*b:=zy h1 h2
theorem Rx {n:Int} {i:Nat} (hn:0<=n) (hi:0<i):jH n (i:Int)=some (n%(i:Int)):=by
 unfold jH
 rw[if_neg (by omega),Int.tmod_eq_emod_of_nonneg hn]
theorem UK {i j:Nat} (h:i<=j):(i:Int)*i<=(j:Int)*j:=by
 have:=Nat.mul_le_mul h h
 exact_mod_cast this
theorem aex {X Y:Type} {f:X->Option (X⊕(Y⊕Bool))} (n:Int) (mk:Nat->X) (r:Y) (hn:n<=1000003)
  (h1:∀i:Nat,2<=i->i<=1001->(i:Int)*i<=n->n%(i:Int)=0->f (mk i)=some (.inr (.inr false)))
  (h2:∀i:Nat,2<=i->i<=1001->(i:Int)*i<=n->n%(i:Int)≠0->f (mk i)=some (.inl (mk (i+1))))
  (h3:∀i:Nat,2<=i->i<=1001->¬(i:Int)*i<=n->f (mk i)=some (.inr (.inl r))) {x0:X} (hx:x0=mk 2):
  bN ax f x0=some (if(List.range' 2 999).any (re n)=true then .inr false else .inl r):=by
 subst hx
 have cf:∀(d i:Nat),2<=i->i+d=1001->∀N,d<N->bN N f (mk i)=some (if(List.range' i d).any (re n)=true then .inr false else .inl r):=by
  intro d
  induction d with
  |zero=>
   intro i hi hd N hN
   obtain⟨N,rfl⟩:∃M,N=M+1:=⟨N - 1,by omega⟩
   have:i=1001:=by omega
   subst this
   rw[bN,h3 1001 (by omega) (by omega) (by omega)]
   rfl
  |succ d ih=>
   intro i hi hd N hN
   obtain⟨N,rfl⟩:∃M,N=M+1:=⟨N - 1,by omega⟩
   rw[List.range'_succ,List.any_cons]
   by_cases iY:(i:Int)*i<=n
   ·by_cases hm:n%(i:Int)=0
    ·rw[bN,h1 i hi (by omega) iY hm]
     simp[re,iY,hm]
    ·rw[bN,h2 i hi (by omega) iY hm]
     simp only
     rw[ih (i+1) (by omega) (by omega) N (by omega),show re n i=false by simp[re,hm],Bool.false_or]
   ·rw[bN,h3 i hi (by omega) iY]
    have:(List.range' (i+1) d).any (re n)=false:=by
     rw[List.any_eq_false]
     intro j hj
     have:=(List.mem_range'_1.1 hj).1
     have:=UK (show i<=j by omega)
     simp only[re,Bool.and_eq_true,decide_eq_true_eq,not_and]
     intro h;omega
    simp only
    rw[this]
    simp[re,iY]
 exact cf 999 2 (by omega) (by omega) ax (dC (by omega))
theorem UL {i:Nat} (h:i<=1001):0<=(i:Int)*i/\(i:Int)*i<=1002001:=by
 have h1:=UK h
 have h0:=UK (Nat.zero_le i)
 omega
theorem afB (x:Int) (y:Bool) (h:pL x=some y):K9 ax x=some y:=by
 rw[<-h]
 simp only[pL,K9]
 by_cases h2:x<2
 ·rw[aX (dc h2),ct,decide_eq_false (by omega)];rfl
 rw[aR (cZ (by omega))]
 by_cases hx:1000003<x
 ·rw[aX (dc hx),ct,decide_eq_false (by omega)];rfl
 rw[aR (cZ (by omega))]
 rw[aex x (fun i=>(x,(i:Int))) () (by omega) ?_ ?_ ?_ ?_]
 ·have hr:(2<=x/\x<=1000003):=by omega
  by_cases hd:(List.range' 2 999).any (re x)=true
  ·rw[if_pos hd,ZN,ct,hd]
   simp
  ·rw[if_neg hd,g8,ct]
   simp[hd,hr]
 all_goals try simp only
 ·intro i h2 hi iY hm
  have hs:=UL hi
  rw[np (by omega) (by omega),aX (uK iY),Rx (by omega) (by omega),av,aX (tL hm)]
 ·intro i h2 hi iY hm
  have hs:=UL hi
  rw[np (by omega) (by omega),aX (uK iY),Rx (by omega) (by omega),av,aR (sx hm),fv (by omega) (by omega)]
  rfl
 ·intro i h2 hi iY
  have hs:=UL hi
  rw[np (by omega) (by omega),aR (wF (by omega))]
 ·rfl
theorem afU (x:Int×List Int) (y:Bool) (h:vk x=some y):Lm ax x=some y:=by
 obtain⟨m,l⟩:=x
 simp only[vk] at h
 split at h
 ·rename_i hl
  rw[<-h]
  simp only[Lm]
  rw[Z8 (mk:=fun i=>(m,l,aI (J l),(i:Int))) l (Ja m) (Sum.inr false) (Sum.inl ()) ?_ ?_ ?_ ?_ (dC (by omega))]
  ·unfold mV
   cases l.all (Ja m)<;>rfl
  all_goals try simp only
  ·intro i a ha hp
   have hp:=of_decide_eq_true hp
   rw[aX (uM ha),dY,ha,av,aR (cZ (by omega)),aR (wF (by omega)),BP ha (by omega)]
  ·intro i a ha hp
   have hp:=of_decide_eq_false hp
   rw[aX (uM ha),dY,ha,av]
   by_cases h0:a<0
   ·rw[aX (dc h0)]
   ·rw[aR (cZ (by omega)),aX (uK (by omega))]
  ·rw[aR (uL l)]
  ·rfl
 ·cases h
theorem eF {m:Int} (h:ct m=true):2<=m/\m<=1000003:=by
 simp only[ct,Bool.and_eq_true,decide_eq_true_eq] at h
 exact h.1
theorem afC (x:Int×Int×Int×List Int) (y:Bool) (h:tr x=some y):La ax x=some y:=by
 obtain⟨m,r,c,l⟩:=x
 simp only[tr] at h
 split at h
 ·rename_i hl
  rw[<-h]
  have hl:l.length<=1048576:=hl
  simp only[La,pL,av,kN]
  cases hp:ct m with
  |false=>rfl
  |true=>
   rw[aR (by rfl),Bool.true_and]
   by_cases h1:r<0
   ·rw[aX (dc h1),decide_eq_false (by omega)];rfl
   rw[aR (cZ (by omega))]
   by_cases h2:c<0
   ·rw[aX (dc h2),decide_eq_false (p:=0<=c/\c<=64) (by omega)];simp
   rw[aR (cZ (by omega))]
   by_cases h3:64<r
   ·rw[aX (dc h3),decide_eq_false (by omega)];rfl
   rw[aR (cZ (by omega))]
   by_cases h4:64<c
   ·rw[aX (dc h4),decide_eq_false (p:=0<=c/\c<=64) (by omega)];simp
   rw[aR (cZ (by omega)),decide_eq_true (p:=0<=r/\r<=64) (by omega),decide_eq_true (p:=0<=c/\c<=64) (by omega),Bool.true_and,Bool.true_and]
   obtain⟨r,rfl⟩:=fz (z:=r) (by omega)
   obtain⟨c,rfl⟩:=fz (z:=c) (by omega)
   have dM:r*c<=64*64:=Nat.mul_le_mul (by omega) (by omega)
   have apS:(r:Int)*(c:Int)=((r*c:Nat):Int):=by norm_cast
   rw[np (by omega) (by omega),show vk (m,l)=some (mV m l) from if_pos hl]
   by_cases h5:(l.length:Int)=(r:Int)*c
   ·rw[aX (show cz (aI (J l)) _=true from tL h5),decide_eq_true h5];rfl
   ·rw[aR (show cz (aI (J l)) _=false from sx h5),decide_eq_false h5];rfl
 ·cases h
end Go.Am
end
section
namespace Go.Am
def cV:List Int->Int
 |[]=>1
 |x::l=>x*cV l
def CX (kM:Int) (_:Nat) (a x:Int):Int:=min (a*x) (kM+1)
def xI (kM:Int) (l:List Int):Int:=AJ (CX kM) 0 1 l
def aoC (x:Int):Bool:=decide (0<=x/\x<=1048576)
def VG:List Int×Int->Option Int:=fun((l,kM):List Int×Int)=>if(0<=kM/\kM<=1048576)/\l.length<=1048576/\l.all aoC=true then some (xI kM l) else none
theorem Er {a x A B:Int} (h0:0<=a) (h1:a<=A) (h2:0<=x) (h3:x<=B):0<=a*x/\a*x<=A*B:=
 ⟨Int.mul_nonneg h0 h2,Int.mul_le_mul h1 h3 h2 (by omega)⟩
theorem EI:∀{l:List Int},(∀x∈l,1<=x)->1<=cV l
 |[],_=>by simp[cV]
 |x::l,h=>by
  have h1:=h x List.mem_cons_self
  have h2:=EI (l:=l) (fun x hx=>h x (List.mem_cons_of_mem _ hx))
  have:=Int.mul_le_mul h1 h2 (by omega) (by omega)
  simpa[cV] using this
theorem Hz {kM:Int} (ahi:0<=kM):∀(l:List Int) (i:Nat) (a:Int),(∀x∈l,1<=x)->1<=a->a<=kM+1->AJ (CX kM) i a l=min (a*cV l) (kM+1)
 |[],i,a,_,_,h2=>by simp only[AJ,cV,Int.mul_one];omega
 |x::l,i,a,h,h1,h2=>by
  have hx:=h x List.mem_cons_self
  have hp:=EI (l:=l) (fun x hx=>h x (List.mem_cons_of_mem _ hx))
  have sG:=Int.mul_le_mul h1 hx (by omega) (by omega)
  rw[AJ,Hz ahi l (i+1) _ (fun x hx=>h x (List.mem_cons_of_mem _ hx)) (by unfold CX;omega) (by unfold CX;omega),cV,<-Int.mul_assoc]
  unfold CX
  generalize a*x=c at*
  by_cases hc:c<=kM+1
  ·rw[Int.min_eq_left hc]
  ·have e:min c (kM+1)=kM+1:=by omega
   rw[e]
   have k1:=Int.mul_le_mul_of_nonneg_left hp (show 0<=kM+1 by omega)
   have k2:=Int.mul_le_mul_of_nonneg_left hp (show 0<=c by omega)
   omega
end Go.Am
end
section
namespace Go.Am
def c8 (l:List Int) (v:Int):Nat:=l.findIdx fun a=>decide (a=v)
def x3 (l:List Int) (v:Int):Int:=if c8 l v<l.length then(c8 l v:Int) else -1
def xu:List Int×Int->Option Bool:=fun(x:List Int×Int)=>if x.1.length<=1048576 then some (decide (x.2∈x.1)) else none
def CU (L D:List Int) (j:Nat):Prop:=(0<=L.getD j 0/\L.getD j 0<=99)/\(1<=D.getD j 0/\D.getD j 0<=8)/\L.getD j 0∉L.take j
instance (L D:List Int) (j:Nat):Decidable (CU L D j):=by unfold CU;infer_instance
def nM (L D:List Int):Bool:=decide (L.length<=12)&&(decide (L.length=D.length)&&decide (∀j,j<L.length->CU L D j))
def iE (L D:List Int):Int:=if nM L D=true/\cV D<=4096 then cV D else -1
def VE:List Int×List Int×List Int->Option Int:=fun(x:List Int×List Int×List Int)=>if x.1.length<=1048576/\x.2.1.length<=1048576 then some (iE x.1 x.2.1) else none
def vj:List Int×List Int×List Int->Option Int:=VE
def Wv (m:Int) (D:List Int) (R:List (List Int)) (j:Nat):Prop:=((R.getD j []).length:Int)=D.getD j 0/\mV m (R.getD j [])=true
instance (m:Int) (D:List Int) (R:List (List Int)) (j:Nat):Decidable (Wv m D R j):=by unfold Wv;infer_instance
def L7 (x:(List Int×List Int×List Int)×Int×List (List Int)):Prop:=(x.1.1.length<=1048576/\x.1.2.1.length<=1048576)/\x.2.2.length<=1048576/\∀l∈x.2.2,l.length<=1048576
instance (x:(List Int×List Int×List Int)×Int×List (List Int)):Decidable (L7 x):=by unfold L7;infer_instance
def GH:ak:=[(.one,[.list [.int .i64]]),(.one,[.int .i64])]
def Sh:ak:=[(.one,[.bool])]
def ajW:aN:=[]
def Gy:ak:=[(.agg,[.list [.int .i64],.list [.int .i64],.list [.int .i64]])]
def Sa:ak:=[(.one,[.int .i64])]
def ajP:aN:=[]
def Ll (NN:Nat):((List Int)×Int)->(Option Bool):=
 (fun((l0,i1):((List Int)×Int))=>
 cd (bN NN (fun((i2,l3,i4,i5):(Int×((List Int)×(Int×Int))))=>
 aC (bO i5 i4)
 ((dK l3 i5).aa (fun i6=>
 aC (cz i2 i6)
 (some (Sum.inr (Sum.inr true)))
 (some (Sum.inl (i2,l3,i4,bS .i64 i5 1)))))
 (some (Sum.inr (Sum.inl ()))))
 (i1,l0,aI (J l0),(0:Int)))
 (fun _=>
 some false))
def Lg (NN:Nat):((List Int)×((List Int)×(List Int)))->(Option Int):=
 (fun((l0,l1,l2):((List Int)×((List Int)×(List Int))))=>
 aC (bO (12:Int) (aI (J l0)))
 (some ((-1:Int)))
 (aC (hZ (aI (J l0)) (aI (J l1)))
 (some ((-1:Int)))
 (cd (bN NN (fun(((i3,l4,i5,i6),l7,l8,l9):((Int×((List Int)×(Int×Int)))×((List Int)×((List Int)×(List Int)))))=>
 aC (bO i6 i5)
 ((dK l4 i6).aa (fun db=>
 aC (bO db (0:Int))
 (some (Sum.inr (Sum.inr ((-1:Int)))))
 (aC (bO (99:Int) db)
 (some (Sum.inr (Sum.inr ((-1:Int)))))
 ((ib (0:Int) i6 (J l7)).aa (fun(Jf,Bw)=>
 (xu (gu l7 Jf Bw,db)).aa (fun Hu=>
 aC (Hu)
 (some (Sum.inr (Sum.inr ((-1:Int)))))
 ((dK l8 i6).aa (fun eE=>
 aC (bO eE (1:Int))
 (some (Sum.inr (Sum.inr ((-1:Int)))))
 (aC (bO (8:Int) eE)
 (some (Sum.inr (Sum.inr ((-1:Int)))))
 (aC (bO (4096:Int) (c7 .i64 i3 eE))
 (some (Sum.inr (Sum.inr ((-1:Int)))))
 (some (Sum.inl ((c7 .i64 i3 eE,l4,i5,bS .i64 i6 1),l7,l8,l9)))))))))))))
 (some (Sum.inr (Sum.inl i3))))
 (((1:Int),l0,aI (J l0),(0:Int)),l0,l1,l2))
 (fun jz=>
 some jz))))
theorem U0 (P:Nat->Prop) [DecidablePred P]:∀c:Nat,∃n,n<=c/\(∀j,j<n->P j)/\(n=c\/¬P n)
 |0=>⟨0,Nat.le_refl 0,fun j hj=>absurd hj (Nat.not_lt_zero j),.inl rfl⟩
 |c+1=>by
  obtain⟨n,h1,h2,h3⟩:=U0 P c
  by_cases h:P n
  ·rcases h3 with h3|h3
   ·subst h3
    refine⟨n+1,Nat.le_refl _,fun j hj=>?_,.inl rfl⟩
    by_cases ir:j=n
    ·subst ir;exact h
    ·exact h2 j (by omega)
   ·exact absurd h h3
  ·exact⟨n,by omega,h2,.inr h⟩
theorem getD_some {α:Type} {l:List α} {j:Nat} (d:α) (h:j<l.length):l[j]? =some (l.getD j d):=by
 simp[List.getD,h]
theorem BG {α:Type} {l:List α} {j:Nat} (h:j<l.length):bO (j:Int) (aI (J l))=true:=qw h
theorem EH {l:List Int} {v:Int} {j:Nat} (h:j<c8 l v):l[j]? ≠some v:=by
 intro e
 have hj:j<l.length:=(List.getElem?_eq_some_iff.1 e).1
 have:=List.not_of_lt_findIdx h
 rw[List.getElem?_eq_getElem hj] at e
 simp[Option.some.inj e] at this
theorem EG {l:List Int} {v:Int} (h:c8 l v<l.length):l[c8 l v]? =some v:=by
 have:=List.findIdx_getElem (w:=h)
 rw[List.getElem?_eq_getElem h]
 exact congrArg some (of_decide_eq_true this)
theorem JK (l:List Int) (v:Int):c8 l v<=l.length:=List.findIdx_le_length
theorem agF (l:List Int) (v:Int):gC 0 (x3 l v)=decide (v∈l):=by
 unfold x3 gC
 by_cases h:c8 l v<l.length
 ·rw[if_pos h,decide_eq_true (by omega),decide_eq_true]
  exact List.mem_of_getElem? (EG h)
 ·rw[if_neg h,decide_eq_false (by omega),decide_eq_false]
  intro hm
  obtain⟨i,hi,e⟩:=List.mem_iff_getElem.1 hm
  have:=JK l v
  exact EH (show i<c8 l v by omega) (by rw[List.getElem?_eq_getElem hi,e])
theorem afT (x:List Int×Int) (y:Bool) (h:xu x=some y):Ll ax x=some y:=by
 obtain⟨l,v⟩:=x
 simp only[xu] at h
 split at h
 ·rename_i hl
  rw[<-h]
  simp only[Ll]
  have hp:=JK l v
  rw[fF (fun i=>(v,l,aI (J l),(i:Int))) (r:=if c8 l v<l.length then Sum.inr true else Sum.inl ()) (c8 l v) ?_ ?_ ?_ (dC (by omega))]
  ·rw[<-agF l v]
   unfold x3 gC
   by_cases h:c8 l v<l.length
   ·rw[if_pos h,if_pos h,decide_eq_true (by omega)];rfl
   ·rw[if_neg h,if_neg h];rfl
  ·intro j hj
   simp only
   have mB:j<l.length:=by omega
   rw[aX (BG mB),dY,getD_some 0 mB,av,aR (sx (fun e=>EH hj (by rw[getD_some 0 mB,e])))]
   simp only[j3 (show j<=1048577 by omega)]
  ·simp only
   by_cases h:c8 l v<l.length
   ·rw[if_pos h,aX (BG h),dY,EG h,av,aX (tL rfl)]
   ·rw[if_neg h,aR (show bO _ (aI (J l))=false from qv (by show l.length<=_;omega))]
  ·rfl
 ·cases h
theorem Ut {n m:Nat} (h:n<=m):ib 0 (n:Int) m=some (0,n):=by
 unfold ib
 rw[if_pos ⟨by omega,by omega,by omega⟩]
 simp
theorem ab1 (l:List Int) (n:Nat):gu l 0 n=l.take n:=rfl
theorem vB {L D:List Int} (h:nM L D=true):L.length<=12/\L.length=D.length/\∀j,j<L.length->CU L D j:=by
 simp only[nM,Bool.and_eq_true,decide_eq_true_eq] at h
 exact h
theorem CT {L D:List Int} (h:nM L D=true):∀x∈D,1<=x/\x<=8:=by
 obtain⟨_,h2,h3⟩:=vB h
 intro x hx
 obtain⟨i,hi,e⟩:=List.mem_iff_getElem.1 hx
 have:=(h3 i (by omega)).2.1
 have e2:=getD_some 0 hi
 rw[List.getElem?_eq_getElem hi,e] at e2
 rw[<-Option.some.inj e2] at this
 exact this
theorem aa0:∀(l:List Int) (x:Int),cV (l++[x])=cV l*x
 |[],x=>by simp[cV]
 |a::l,x=>by simp[cV,aa0 l x,Int.mul_assoc]
theorem aaZ:∀(l m:List Int),cV (l++m)=cV l*cV m
 |[],m=>by simp[cV]
 |a::l,m=>by simp[cV,aaZ l m,Int.mul_assoc]
theorem apk {D:List Int} {j:Nat} (h:j<D.length):D.take (j+1)=D.take j++[D.getD j 0]:=by
 rw[List.take_add_one,getD_some 0 h]
 rfl
theorem BZ {D:List Int} {j:Nat} (h:j<D.length):cV (D.take (j+1))=cV (D.take j)*D.getD j 0:=by rw[apk h,aa0]
theorem am5 {D:List Int} (h:∀x∈D,1<=x) (j:Nat):cV (D.take j)<=cV D:=by
 have e:cV D=cV (D.take j)*cV (D.drop j):=by rw[<-aaZ,List.take_append_drop]
 have h1:=EI (l:=D.take j) fun x hx=>h x (List.mem_of_mem_take hx)
 have h2:=EI (l:=D.drop j) fun x hx=>h x (List.mem_of_mem_drop hx)
 have:=Int.mul_le_mul_of_nonneg_left h2 (show 0<=cV (D.take j) by omega)
 rw[e]
 omega
def LO (L D:List Int) (j:Nat):Prop:=CU L D j/\cV (D.take (j+1))<=4096
instance (L D:List Int) (j:Nat):Decidable (LO L D j):=by unfold LO;infer_instance
theorem afM (x:List Int×List Int×List Int) (y:Int) (h:vj x=some y):Lg ax x=some y:=by
 obtain⟨L,D,T⟩:=x
 simp only[vj,VE] at h
 split at h
 ·rename_i hl
  rw[<-h]
  simp only[Lg,iE]
  by_cases h1:L.length<=12
  rotate_left
  ·rw[aX (dc (by rw[nl];omega)),if_neg (fun q=>h1 (vB q.1).1)]
  rw[aR (cZ (by rw[nl];omega))]
  by_cases h2:L.length=D.length
  rotate_left
  ·rw[aX (Et (by rw[nl,nl];omega)),if_neg (fun q=>h2 (vB q.1).2.1)]
  rw[aR (Es (by rw[nl,nl];omega))]
  obtain⟨n,hn,bG,YH⟩:=U0 (LO L D) L.length
  have OJ:∀j,j<=n->1<=cV (D.take j)/\cV (D.take j)<=4096:=by
   intro j hj
   constructor
   ·apply EI
    intro x hx
    obtain⟨i,hi,e⟩:=List.mem_iff_getElem.1 hx
    rw[List.length_take] at hi
    have hp:=(bG i (by omega)).1.2.1
    have e2:=getD_some 0 (show i<D.length by omega)
    rw[List.getElem_take] at e
    rw[List.getElem?_eq_getElem (by omega),e] at e2
    rw[<-Option.some.inj e2] at hp
    exact hp.1
   ·cases j with
    |zero=>simp[cV]
    |succ j=>exact(bG j (by omega)).2
  rw[fF (fun i=>((cV (D.take i),L,aI (J L),(i:Int)),L,D,T)) (r:=if n<L.length then Sum.inr (-1) else Sum.inl (cV D)) n ?_ ?_ ?_ (dC (by omega))]
  ·by_cases h:n<L.length
   ·rw[if_pos h,if_neg]
    ·rfl
    ·intro q
     refine YH.resolve_left (by omega) ⟨(vB q.1).2.2 n h,?_⟩
     have:=am5 (fun x hx=>(CT q.1 x hx).1) (n+1)
     have:=q.2
     omega
   ·have e:n=L.length:=by omega
    have hp:=(OJ n (Nat.le_refl n)).2
    rw[e,h2,List.take_length] at hp
    rw[if_neg h,if_pos]
    ·rfl
    ·refine⟨?_,hp⟩
     simp only[nM,Bool.and_eq_true,decide_eq_true_eq]
     exact⟨h1,h2,fun j hj=>(bG j (by omega)).1⟩
  ·intro j hj
   simp only
   obtain⟨⟨a1,a2,a3⟩,a4⟩:=bG j hj
   have mB:j<L.length:=by omega
   rw[aX (BG mB),dY,getD_some 0 mB,av,aR (cZ (by omega)),aR (cZ (by omega)),Ut (show j<=J L by show j<=L.length;omega),av]
   simp only[ab1]
   rw[show xu (L.take j,L.getD j 0)=some (decide (L.getD j 0∈L.take j)) from if_pos (by rw[List.length_take];omega),av,aR (decide_eq_false a3),dY,getD_some 0 (show j<D.length by omega),av,aR (cZ (by omega)),aR (cZ (by omega))]
   have hb:=OJ j (by omega)
   obtain⟨b1,b2⟩:=Er (a:=cV (D.take j)) (x:=D.getD j 0) (A:=4096) (B:=8) (by omega) hb.2 (by omega) a2.2
   rw[BZ (by omega)] at a4
   rw[np (by omega) (by omega),aR (cZ a4),<-BZ (by omega)]
   simp only[j3 (show j<=1048577 by omega)]
  ·simp only
   by_cases h:n<L.length
   ·have ca:=YH.resolve_left (by omega)
    rw[if_pos h,aX (BG h),dY,getD_some 0 h,av]
    by_cases c1:L.getD n 0<0
    ·rw[aX (dc c1)]
    rw[aR (cZ (by omega))]
    by_cases c2:99<L.getD n 0
    ·rw[aX (dc c2)]
    rw[aR (cZ (by omega)),Ut (show n<=J L by show n<=L.length;omega),av]
    simp only[ab1]
    rw[show xu (L.take n,L.getD n 0)=some (decide (L.getD n 0∈L.take n)) from if_pos (by rw[List.length_take];omega),av]
    by_cases a3:L.getD n 0∈L.take n
    ·rw[aX (decide_eq_true a3)]
    rw[aR (decide_eq_false a3),dY,getD_some 0 (show n<D.length by omega),av]
    by_cases c3:D.getD n 0<1
    ·rw[aX (dc c3)]
    rw[aR (cZ (by omega))]
    by_cases c4:8<D.getD n 0
    ·rw[aX (dc c4)]
    rw[aR (cZ (by omega))]
    have hb:=OJ n (Nat.le_refl n)
    obtain⟨b1,b2⟩:=Er (a:=cV (D.take n)) (x:=D.getD n 0) (A:=4096) (B:=8) (by omega) hb.2 (by omega) (by omega)
    rw[np (by omega) (by omega)]
    by_cases c5:4096<cV (D.take n)*D.getD n 0
    ·rw[aX (dc c5)]
    ·exact absurd ⟨⟨⟨by omega,by omega⟩,⟨by omega,by omega⟩,a3⟩,by rw[BZ (by omega)];omega⟩ ca
   ·have e:n=L.length:=by omega
    rw[if_neg h,aR (show bO _ (aI (J L))=false from qv (by show L.length<=_;omega)),e,h2,List.take_length]
  ·rfl
 ·cases h
end Go.Am
end
section
namespace Go.Am
def mW (m:Int) (s:Int×Int×Int×List Int):Bool:=decide (0<=s.1/\s.1<=32)&&(decide (0<=s.2.2.1/\s.2.2.1<=32)&&(decide (1<=s.2.1/\s.2.1<=8)&&(decide ((s.2.2.2.length:Int)=s.1*s.2.1*s.2.2.1)&&mV m s.2.2.2)))
def mr (m:Int) (_:Nat) (b:Int) (s:Int×Int×Int×List Int):Option Int:=if mW m s=true/\s.1=b then some s.2.2.1 else none
def CZ (m:Int) (_:Nat) (st:Int×Int) (s:Int×Int×Int×List Int):Option (Int×Int):=if mW m s=true/\s.1=st.1 then some (s.2.2.1,st.2*s.2.1) else none
def bf (l:List (Int×Int×Int×List Int)):List Int:=l.map fun s=>s.2.1
def e8 (x:Int×List (Int×Int×Int×List Int)):Bool:=match x with
 |(m,l)=>ct m&&(decide (1<=l.length/\l.length<=8)&&(match eI (mr m) 0 1 l with
  |some b=>decide (b=1)&&decide (cV (bf l)<=4096)
  |none=>false))
def KY:Int×List (Int×Int×Int×List Int)->Option (List Int):=fun((m,l):Int×List (Int×Int×Int×List Int))=>if l.length<=1048576 then some (bf l) else none
def xw:Int×Int×Int×Int×List Int->Option Bool:=fun((m,s):Int×Int×Int×Int×List Int)=>if vb s<=1048576 then some (mW m s) else none
def pK:Int×List (Int×Int×Int×List Int)->Option Bool:=fun x=>if xf x<=1048576 then some (e8 x) else none
def GW:ak:=[(.one,[.int .i64]),(.agg,[.int .i64,.int .i64,.int .i64,.list [.int .i64]])]
def Sx:ak:=[(.one,[.bool])]
def aj9:aN:=[]
def Gi:ak:=[(.agg,[.int .i64,.list [.int .i64,.int .i64,.int .i64,.list [.int .i64]]])]
def RT:ak:=[(.one,[.bool])]
def ajD:aN:=[]
def VP (NN:Nat):(Int×(List (Int×(Int×(Int×(List Int))))))->(Option (List Int)):=
 (fun((i0,l1):(Int×(List (Int×(Int×(Int×(List Int)))))))=>
 cd ((ai 0 0 (J (([]:List Int)))).aa (fun _=>
 bN NN (fun(((l2,i3,i4),l5):(((List (Int×(Int×(Int×(List Int)))))×(Int×Int))×(List Int)))=>
 aC (bO i4 i3)
 ((dK l2 i4).aa (fun(i6,i7,i8,l9)=>
 (ai 0 (J l5) (J l5)).aa (fun _=>
 (c6 ((i7::([]:List Int))) 0 1).aa (fun ff=>
 (jt (aW (J l5) (J ff)) 8).aa (fun _=>
 (ai 0 (aW (J l5) (J ff)) (J (dt l5 ff))).aa (fun _=>
 some (Sum.inl ((l2,i3,bS .i64 i4 1),dt l5 ff))))))))
 (((ai 0 (J l5) (J l5)).aa (fun _=>
 some (Sum.inl l5))).aa (fun cB=>
 some (Sum.inr cB))))
 ((l1,aI (J l1),(0:Int)),([]:List Int))))
 (fun dz=>
 (dP dz (J dz)).aa (fun eK=>
 some eK)))
def Lw (NN:Nat):(Int×(Int×(Int×(Int×(List Int)))))->(Option Bool):=
 (fun((i0,i1,i2,i3,l4):(Int×(Int×(Int×(Int×(List Int))))))=>
 aC (bO i1 (0:Int))
 (some false)
 (aC (bO (32:Int) i1)
 (some false)
 (aC (bO i3 (0:Int))
 (some false)
 (aC (bO (32:Int) i3)
 (some false)
 (aC (bO i2 (1:Int))
 (some false)
 (aC (bO (8:Int) i2)
 (some false)
 (aC (cz (aI (J l4)) (c7 .i64 (c7 .i64 i1 i2) i3))
 ((vk (i0,l4)).aa (fun b5=>
 some b5))
 (some false))))))))
def K7 (NN:Nat):(Int×(List (Int×(Int×(Int×(List Int))))))->(Option Bool):=
 (fun((i0,l1):(Int×(List (Int×(Int×(Int×(List Int)))))))=>
 (pL i0).aa (fun b2=>
 aC (ef b2)
 (some false)
 (aC (bO (aI (J l1)) (1:Int))
 (some false)
 (aC (bO (8:Int) (aI (J l1)))
 (some false)
 (cd (bN NN (fun(((i3,i4,l5,i6,i7),i8,l9):((Int×(Int×((List (Int×(Int×(Int×(List Int)))))×(Int×Int))))×(Int×(List (Int×(Int×(Int×(List Int))))))))=>
 aC (bO i7 i6)
 ((dK l5 i7).aa (fun(db,eS,eZ,eK)=>
 (xw (i8,db,eS,eZ,eK)).aa (fun b14=>
 aC (ef b14)
 (some (Sum.inr (Sum.inr false)))
 (aC (hZ db i3)
 (some (Sum.inr (Sum.inr false)))
 (some (Sum.inl ((eZ,c7 .i64 i4 eS,l5,i6,bS .i64 i7 1),i8,l9)))))))
 (some (Sum.inr (Sum.inl (i3,i4)))))
 (((1:Int),(1:Int),l1,aI (J l1),(0:Int)),i0,l1))
 (fun(jz,iK)=>
 aC (cz jz (1:Int))
 (some (gC iK (4096:Int)))
 (some false)))))))
theorem agt (x:Int×List (Int×Int×Int×List Int)) (y:List Int) (h:KY x=some y):VP ax x=some y:=by
 obtain⟨m,l⟩:=x
 simp only[KY] at h
 split at h
 ·rename_i hl
  rw[<-h]
  simp only[VP]
  rw[show ai 0 0 (J ([]:List Int))=some () from rfl,av]
  rw[fF (fun i=>((l,aI (J l),(i:Int)),bf (l.take i))) (r:=Sum.inl (bf l)) l.length ?_ ?_ ?_ (dC (by omega))]
  ·rw[g8,ku];rfl
  all_goals try simp only
  ·intro j hj
   obtain⟨⟨a,p,c,d⟩,hs⟩:∃e,l[j]? =some e:=⟨_,List.getElem?_eq_getElem hj⟩
   have e1:J (bf (l.take j))=j:=by simp[J,bf];omega
   have e2:dt (bf (l.take j)) [p]=bf (l.take (j+1)):=by simp[dt,bf,List.take_add_one,hs]
   have e3:jt (aW j 1) 8=some ():=oK (by simp only[aW,dF];omega)
   rw[aX (uM hs),dY,hs,av]
   simp only[e1,cH,av,Fy,BD,show J [p]=1 from rfl,e3,BP hs (by omega),e2]
  ·rw[aR (uL l),List.take_length]
   simp only[cH,av]
  ·rfl
 ·cases h
theorem af7 (x:Int×Int×Int×Int×List Int) (y:Bool) (h:xw x=some y):Lw ax x=some y:=by
 obtain⟨m,a,p,c,l⟩:=x
 simp only[xw] at h
 split at h
 ·rename_i hl
  rw[<-h]
  have hl:l.length<=1048576:=hl
  simp only[Lw,mW]
  by_cases h1:a<0
  ·rw[aX (dc h1),decide_eq_false (p:=0<=a/\a<=32) (by omega)];rfl
  rw[aR (cZ (by omega))]
  by_cases h2:32<a
  ·rw[aX (dc h2),decide_eq_false (p:=0<=a/\a<=32) (by omega)];rfl
  rw[aR (cZ (by omega)),decide_eq_true (p:=0<=a/\a<=32) (by omega),Bool.true_and]
  by_cases h3:c<0
  ·rw[aX (dc h3),decide_eq_false (p:=0<=c/\c<=32) (by omega)];rfl
  rw[aR (cZ (by omega))]
  by_cases h4:32<c
  ·rw[aX (dc h4),decide_eq_false (p:=0<=c/\c<=32) (by omega)];rfl
  rw[aR (cZ (by omega)),decide_eq_true (p:=0<=c/\c<=32) (by omega),Bool.true_and]
  by_cases h5:p<1
  ·rw[aX (dc h5),decide_eq_false (p:=1<=p/\p<=8) (by omega)];rfl
  rw[aR (cZ (by omega))]
  by_cases h6:8<p
  ·rw[aX (dc h6),decide_eq_false (p:=1<=p/\p<=8) (by omega)];rfl
  rw[aR (cZ (by omega)),decide_eq_true (p:=1<=p/\p<=8) (by omega),Bool.true_and]
  obtain⟨b1,b2⟩:=Er (a:=a) (x:=p) (A:=32) (B:=8) (by omega) (by omega) (by omega) (by omega)
  obtain⟨b3,b4⟩:=Er (a:=a*p) (x:=c) (A:=32*8) (B:=32) (by omega) (by omega) (by omega) (by omega)
  rw[np (a:=a) (by omega) (by omega),np (by omega) (by omega),show vk (m,l)=some (mV m l) from if_pos hl]
  by_cases h5:(l.length:Int)=a*p*c
  ·rw[aX (show cz (aI (J l)) _=true from tL h5),decide_eq_true h5];rfl
  ·rw[aR (show cz (aI (J l)) _=false from sx h5),decide_eq_false h5];rfl
 ·cases h
theorem Uq {m a p c:Int} {l:List Int} (h:mW m (a,p,c,l)=true):(0<=a/\a<=32)/\(0<=c/\c<=32)/\(1<=p/\p<=8)/\(l.length:Int)=a*p*c/\mV m l=true:=by
 simp only[mW,Bool.and_eq_true,decide_eq_true_eq] at h
 exact⟨h.1,h.2.1,h.2.2.1,h.2.2.2.1,h.2.2.2.2⟩
theorem Wx {m:Int}:∀(l:List (Int×Int×Int×List Int)) (i:Nat) (b z:Int),eI (CZ m) i (b,z) l=(eI (mr m) i b l).map fun c=>(c,z*cV (bf l))
 |[],i,b,z=>by simp[eI,bf,cV]
 |s::l,i,b,z=>by
  rw[eI,eI]
  simp only[CZ,mr]
  by_cases hc:mW m s=true/\s.1=b
  ·rw[if_pos hc,if_pos hc]
   simp only
   rw[Wx l (i+1)]
   simp only[bf,List.map_cons,cV,Int.mul_assoc]
  ·rw[if_neg hc,if_neg hc]
   rfl
theorem Kr {m:Int} {l:List (Int×Int×Int×List Int)} (h:xf (m,l)<=1048576):l.length<=1048576/\∀e∈l,vb e<=1048576:=ao8 h
theorem amX {i:Nat} (h:i<=8):(8:Int)^i<=16777216:=by
 have h1:(8:Nat)^i<=16777216:=Nat.le_trans (Nat.pow_le_pow_right (by decide) h) (by decide)
 have h2:((8^i:Nat):Int)=(8:Int)^i:=by norm_cast
 rw[<-h2]
 omega
theorem afx (x:Int×List (Int×Int×Int×List Int)) (y:Bool) (h:pK x=some y):K7 ax x=some y:=by
 obtain⟨m,l⟩:=x
 simp only[pK] at h
 split at h
 ·rename_i hl
  rw[<-h]
  obtain⟨hlen,cX⟩:=Kr hl
  simp only[K7,pL,av,e8]
  cases hp:ct m with
  |false=>rfl
  |true=>
   have hm:=eF hp
   rw[aR (by rfl),Bool.true_and]
   by_cases h2:l.length<1
   ·rw[aX (dc (by have:=nl l;omega)),decide_eq_false (by omega)];rfl
   rw[aR (cZ (by have:=nl l;omega))]
   by_cases h3:8<l.length
   ·rw[aX (dc (by have:=nl l;omega)),decide_eq_false (by omega)];rfl
   rw[aR (cZ (by have:=nl l;omega)),decide_eq_true (by omega),Bool.true_and]
   rw[Z9 l (fun(st:Int×Int) i=>((st.1,st.2,l,aI (J l),(i:Int)),m,l)) (fun i st=>0<=st.2/\st.2<=(8:Int)^i) (CZ m) (Sum.inr false) (fun st=>Sum.inl st) ?_ ?_ ?_ (s:=(1,1)) ⟨by decide,by decide⟩ ?_ (dC (by omega))]
   ·rw[Wx]
    cases hf:eI (mr m) 0 1 l with
    |none=>rfl
    |some c=>
     simp only[Option.map_some,Int.one_mul]
     rw[g8]
     simp only
     by_cases hc:c=1
     ·rw[aX (tL hc),decide_eq_true hc,Bool.true_and];rfl
     ·rw[aR (sx hc),decide_eq_false hc,Bool.false_and]
   all_goals try simp only
   ·rintro i ⟨b,z⟩ ⟨a,p,c,d⟩ Km hi hz hs
    simp only[CZ] at hs
    split at hs
    ·rename_i hc
     injection hs with hs
     subst hs
     obtain⟨t1,t2,t3,t4,t5⟩:=Uq hc.1
     have eQ:a=b:=hc.2
     have hi8:i<=8:=by have:=wG hi;omega
     have h8:=amX hi8
     obtain⟨b1,b2⟩:=Er hz.1 hz.2 (show 0<=p by omega) t3.2
     simp only at b1 b2
     refine⟨?_,b1,?_⟩
     ·rw[aX (uM hi),dY,hi,av]
      simp only
      rw[show xw (m,a,p,c,d)=some (mW m (a,p,c,d)) from if_pos (cX _ (List.mem_of_getElem? hi)),av,hc.1,aR (by rfl),aR (Es eQ),np (by omega) (by omega),BP hi (by omega)]
     ·rw[Int.pow_succ];exact b2
    ·cases hs
   ·rintro i ⟨b,z⟩ ⟨a,p,c,d⟩ hi hz hs
    simp only[CZ] at hs
    split at hs
    ·cases hs
    ·rename_i hc
     rw[aX (uM hi),dY,hi,av]
     simp only
     rw[show xw (m,a,p,c,d)=some (mW m (a,p,c,d)) from if_pos (cX _ (List.mem_of_getElem? hi)),av]
     cases h1:mW m (a,p,c,d) with
     |false=>rw[aX (by rfl)]
     |true=>
      rw[aR (by rfl),aX (Et (fun e=>hc ⟨h1,e⟩))]
   ·rintro⟨b,z⟩ _
    simp only
    rw[aR (uL l)]
   ·rfl
 ·cases h
theorem aaa {X Y α S:Type} {f:X->Option (X⊕Y)} (es:List α) (mk:S->Nat->X) (I:Nat->S->Prop) (step:Nat->S->α->Option S) (qY:Y) (eu:S->Y)
  (h1:∀i s a,es[i]? =some a->I i s->f (mk s i)=some (match step i s a with|some s'=>.inl (mk s' (i+1))|none=>.inr qY))
  (hI:∀i s a s',es[i]? =some a->I i s->step i s a=some s'->I (i+1) s')
  (h3:∀s,I es.length s->f (mk s es.length)=some (.inr (eu s))) {s:S} (h0:I 0 s) {x0:X} (hx:x0=mk s 0) {N:Nat} (hN:es.length<N):
  bN N f x0=some (match eI step 0 s es with|some s'=>eu s'|none=>qY):=
 Z9 es mk I step qY eu (fun i s a s' ha hi hs=>⟨by rw[h1 i s a ha hi,hs],hI i s a s' ha hi hs⟩) (fun i s a ha hi hs=>by rw[h1 i s a ha hi,hs]) h3 h0 hx hN
end Go.Am
end
section
namespace Go.Am
def BO (x:Int×Int):Prop:=(0<=x.1/\x.1<=4096)/\(0<=x.2/\x.2<=4096)/\x.1*x.2<=1048576
instance (x:Int×Int):Decidable (BO x):=by unfold BO;infer_instance
def xx:Int×Int->Option (Int×Int×List Int):=fun(x:Int×Int)=>if BO x then some (x.1,x.2,aG x.1.toNat x.2.toNat fun _ _=>0) else none
def CD:Int×Int->Option (Int×Int×List Int):=fun(x:Int×Int)=>if BO x then some (x.1,x.2,aG x.1.toNat x.2.toNat fun _ _=>0) else none
def mb:(Int×Int×List Int)×Int×Int->Option Int:=fun(x:(Int×Int×List Int)×Int×Int)=>
 if pk x.1/\(0<=x.2.1/\x.2.1<x.1.1)/\(0<=x.2.2/\x.2.2<x.1.2.1) then some (bY x.1.2.1.toNat x.1.2.2 x.2.1.toNat x.2.2.toNat) else none
def qU:(Int×Int×List Int)×Int×Int×Int->Option (List Int):=fun(x:(Int×Int×List Int)×Int×Int×Int)=>
 if pk x.1/\(0<=x.2.1/\x.2.1<x.1.1)/\(0<=x.2.2.1/\x.2.2.1<x.1.2.1) then some (aG x.1.1.toNat x.1.2.1.toNat (lZ (bY x.1.2.1.toNat x.1.2.2) x.2.1.toNat x.2.2.1.toNat x.2.2.2)) else none
def cR (M:Nat->Nat->Int) (a b:Nat):Nat->Nat->Int:=fun i j=>if i=a then M b j else if i=b then M a j else M i j
def CF:(Int×Int×List Int)×Int×Int->Option (List Int):=fun(x:(Int×Int×List Int)×Int×Int)=>
 if pk x.1/\(0<=x.2.1/\x.2.1<x.1.1)/\(0<=x.2.2/\x.2.2<x.1.1) then some (aG x.1.1.toNat x.1.2.1.toNat (cR (bY x.1.2.1.toNat x.1.2.2) x.2.1.toNat x.2.2.toNat)) else none
def zC:(Int×Int×List Int)×Int×Int->Option (List Int):=CF
def tI (p:Int) (M:Nat->Nat->Int) (i k:Nat) (f:Int):Nat->Nat->Int:=fun a j=>if a=i then(M i j+f*M k j)%p else M a j
def xp:(Int×Int×List Int)×Int×Int×Int×Int->Option (List Int):=fun(x:(Int×Int×List Int)×Int×Int×Int×Int)=>
 if pk x.1/\dO x.2.1/\(0<=x.2.2.1/\x.2.2.1<x.1.1)/\(0<=x.2.2.2.1/\x.2.2.2.1<x.1.1)/\(0<=x.2.2.2.2/\x.2.2.2.2<=x.2.1)/\eX x.2.1 x.1.2.2 then
  some (aG x.1.1.toNat x.1.2.1.toNat (tI x.2.1 (bY x.1.2.1.toNat x.1.2.2) x.2.2.1.toNat x.2.2.2.1.toNat x.2.2.2.2)) else none
def pA (M:Nat->Nat->Int) (j:Nat):Nat->Nat->Option Nat
 |0,_=>none
 |d+1,k=>if M k j=0 then pA M j d (k+1) else some k
def kg (p out x:Int) (n:Nat):Int:=if h:n=0 then out else kg p (if n%2=1 then out*x%p else out) (x*x%p) (n/2)
termination_by n
decreasing_by omega
def VI:Int×Int->Option Int:=fun(x:Int×Int)=>if dO x.1/\fk x.1 x.2 then some (kg x.1 1 x.2 (x.1 - 2).toNat) else none
def zM:Int×Int->Option Int:=VI
def nF:List Int->Option (List Int):=fun(l:List Int)=>if l.length<=1099511627776 then some l else none
def zG:Int×Int×List Int->Option (Int×Int×List Int):=fun(x:Int×Int×List Int)=>if x.2.2.length<=1099511627776 then some x else none
def tn (M:Nat->Nat->Int):Nat->Nat->Int:=fun i j=>M j i
def aau (x:Int×(Int×Int×List Int)×(Int×Int×List Int)):Prop:=dO x.1/\pk x.2.1/\pk x.2.2/\x.2.1.2.1=x.2.2.1/\x.2.1.1*x.2.2.2.1<=1048576/\eX x.1 x.2.1.2.2/\eX x.1 x.2.2.2.2
instance (x:Int×(Int×Int×List Int)×(Int×Int×List Int)):Decidable (aau x):=by unfold aau;infer_instance
def Hk:ak:=[(.one,[.int .i64]),(.one,[.int .i64])]
def SU:ak:=[(.agg,[.int .i64,.int .i64,.list [.int .i64]])]
def akr:aN:=[]
def GG:ak:=[(.one,[.int .i64]),(.one,[.int .i64])]
def Sg:ak:=[(.agg,[.int .i64,.int .i64,.list [.int .i64]])]
def ajV:aN:=[]
def GC:ak:=[(.one,[.list [.int .i64]])]
def Sd:ak:=[(.one,[.list [.int .i64]])]
def ajS:aN:=[]
def GD:ak:=[(.agg,[.int .i64,.int .i64,.list [.int .i64]])]
def Se:ak:=[(.agg,[.int .i64,.int .i64,.list [.int .i64]])]
def ajT:aN:=[]
def Gq:ak:=[(.agg,[.int .i64,.int .i64,.list [.int .i64]]),(.one,[.int .i64]),(.one,[.int .i64])]
def R1:ak:=[(.one,[.int .i64])]
def ajJ:aN:=[]
def Gr:ak:=[(.agg,[.int .i64,.int .i64,.list [.int .i64]]),(.one,[.int .i64]),(.one,[.int .i64]),(.one,[.int .i64])]
def R3:ak:=[(.one,[.list [.int .i64]])]
def Jq:aN:=[[none,none,some .ae]]
def Gs:ak:=[(.agg,[.int .i64,.int .i64,.list [.int .i64]]),(.one,[.int .i64]),(.one,[.int .i64])]
def R4:ak:=[(.one,[.list [.int .i64]])]
def Jr:aN:=[[none,none,some .ae]]
def Gp:ak:=[(.agg,[.int .i64,.int .i64,.list [.int .i64]]),(.one,[.int .i64]),(.one,[.int .i64]),(.one,[.int .i64]),(.one,[.int .i64])]
def R0:ak:=[(.one,[.list [.int .i64]])]
def Jp:aN:=[[none,none,some .ae]]
def GQ:ak:=[(.one,[.int .i64]),(.one,[.int .i64])]
def Sr:ak:=[(.one,[.int .i64])]
def aj4:aN:=[]
def F3 (NN:Nat):(Int×Int)->(Option (Int×(Int×(List Int)))):=
 (fun((i0,i1):(Int×Int))=>
 (n9 (c7 .i64 i0 i1) (c7 .i64 i0 i1) 8).aa (fun k2=>
 (dP (dT k2 (0:Int)) k2).aa (fun l3=>
 some (i0,i1,l3))))
def VL (NN:Nat):(Int×Int)->(Option (Int×(Int×(List Int)))):=
 (fun((i0,i1):(Int×Int))=>
 (n9 (c7 .i64 i0 i1) (c7 .i64 i0 i1) 8).aa (fun k2=>
 (dP (dT k2 (0:Int)) k2).aa (fun l3=>
 some (i0,i1,l3))))
def Li (NN:Nat):(List Int)->(Option (List Int)):=
 (fun(l0:(List Int))=>
 (jt (aW (J (([]:List Int))) (J l0)) 8).aa (fun _=>
 (dP (dt (([]:List Int)) l0) (aW (J (([]:List Int))) (J l0))).aa (fun l1=>
 some l1)))
def Lj (NN:Nat):(Int×(Int×(List Int)))->(Option (Int×(Int×(List Int)))):=
 (fun((i0,i1,l2):(Int×(Int×(List Int))))=>
 (nF l2).aa (fun l3=>
 (dP l3 (J l3)).aa (fun l4=>
 some (i0,i1,l4))))
def FH (NN:Nat):((Int×(Int×(List Int)))×(Int×Int))->(Option Int):=
 (fun(((i0,i1,l2),i3,i4):((Int×(Int×(List Int)))×(Int×Int)))=>
 (dK l2 (bS .i64 (c7 .i64 i3 i1) i4)).aa (fun i5=>
 some i5))
def FI (NN:Nat):((Int×(Int×(List Int)))×(Int×(Int×Int)))->(Option (List Int)):=
 (fun(((i0,i1,l2),i3,i4,i5):((Int×(Int×(List Int)))×(Int×(Int×Int))))=>
 (fj (bS .i64 (c7 .i64 i3 i1) i4) (J l2)).aa (fun k6=>
 (dv l2 (aW 0 k6)).aa (fun i7=>
 (pF (J (bW l2 (aW 0 k6) i5)) (J l2)).aa (fun _=>
 some (bW l2 (aW 0 k6) i5)))))
def FJ (NN:Nat):((Int×(Int×(List Int)))×(Int×Int))->(Option (List Int)):=
 (fun(((i0,i1,l2),i3,i4):((Int×(Int×(List Int)))×(Int×Int)))=>
 (ai 0 (J l2) (J l2)).aa (fun _=>
 bN NN (fun(((i5,i6,i7),l8,i9,db):((Int×(Int×Int))×((List Int)×(Int×Int))))=>
 aC (bO i7 db)
 ((c6 l8 0 (J l8)).aa (fun cB=>
 (mb ((i9,db,cB),i5,i7)).aa (fun eZ=>
 (c6 l8 0 (J l8)).aa (fun eK=>
 (mb ((i9,db,eK),i6,i7)).aa (fun eE=>
 (ai 0 (J l8) (J l8)).aa (fun _=>
 (qU ((i9,db,l8),i5,i7,eE)).aa (fun eU=>
 (ai 0 (J l8) (J eU)).aa (fun _=>
 (qU ((i9,db,eU),i6,i7,eZ)).aa (fun gn=>
 (ai 0 (J l8) (J gn)).aa (fun _=>
 some (Sum.inl ((i5,i6,bS .i64 i7 1),gn,i9,db))))))))))))
 (((pF (J l8) (J l2)).aa (fun _=>
 some l8)).aa (fun fP=>
 some (Sum.inr fP))))
 ((i3,i4,(0:Int)),l2,i0,i1)))
def FG (NN:Nat):((Int×(Int×(List Int)))×(Int×(Int×(Int×Int))))->(Option (List Int)):=
 (fun(((i0,i1,l2),i3,i4,i5,i6):((Int×(Int×(List Int)))×(Int×(Int×(Int×Int)))))=>
 (ai 0 (J l2) (J l2)).aa (fun _=>
 bN NN (fun(((i7,i8,i9,db,eS),dz,fN,eE):((Int×(Int×(Int×(Int×Int))))×((List Int)×(Int×Int))))=>
 aC (bO eS eE)
 ((c6 dz 0 (J dz)).aa (fun eU=>
 (mb ((fN,eE,eU),i8,eS)).aa (fun iK=>
 (c6 dz 0 (J dz)).aa (fun fP=>
 (mb ((fN,eE,fP),i9,eS)).aa (fun g0=>
 (jH (bS .i64 iK (c7 .i64 db g0)) i7).aa (fun gQ=>
 (ai 0 (J dz) (J dz)).aa (fun _=>
 (qU ((fN,eE,dz),i8,eS,gQ)).aa (fun je=>
 (ai 0 (J dz) (J je)).aa (fun _=>
 some (Sum.inl ((i7,i8,i9,db,bS .i64 eS 1),je,fN,eE)))))))))))
 (((pF (J dz) (J l2)).aa (fun _=>
 some dz)).aa (fun dQ=>
 some (Sum.inr dQ))))
 ((i3,i4,i5,i6,(0:Int)),l2,i0,i1)))
def Lt (NN:Nat):(Int×Int)->(Option Int):=
 (fun((i0,i1):(Int×Int))=>
 cd (bN NN (fun((i2,i3,i4,i5):(Int×(Int×(Int×Int))))=>
 aC (bO (0:Int) i5)
 (cd (aC (cz (pO .i64 i5 (1:Int)) (1:Int))
 ((jH (c7 .i64 i4 i3) i2).aa (fun i6=>
 some (Sum.inl (i3,i5,i2,i6))))
 (some (Sum.inl (i3,i5,i2,i4))))
 (fun(i7,i8,i9,db)=>
 (jH (c7 .i64 i7 i7) i9).aa (fun eS=>
 (tf .i64 i8 (1:Int)).aa (fun eZ=>
 some (Sum.inl (i9,eS,db,eZ))))))
 (some (Sum.inr (Sum.inl i4))))
 (i0,i1,(1:Int),eG .i64 i0 2))
 (fun fN=>
 some fN))
theorem alK {r c:Nat} (hr:r<=4096) (hc:c<=4096) (h:r*c<=1048576):BO ((r:Int),(c:Int)):=by
 refine⟨⟨by omega,by show(r:Int)<=4096;omega⟩,⟨by show(0:Int)<=c;omega,by show(c:Int)<=4096;omega⟩,?_⟩
 show(r:Int)*(c:Int)<=1048576
 have e:(r:Int)*(c:Int)=((r*c:Nat):Int):=by norm_cast
 omega
theorem alJ {x:Int×Int} (h:BO x):∃r c:Nat,x=((r:Int),(c:Int))/\r<=4096/\c<=4096/\r*c<=1048576:=by
 obtain⟨r,c⟩:=x
 obtain⟨h1,h2,h3⟩:=h
 simp only at h1 h2 h3
 obtain⟨r,rfl⟩:=fz h1.1
 obtain⟨c,rfl⟩:=fz h2.1
 have e:(r:Int)*(c:Int)=((r*c:Nat):Int):=by norm_cast
 exact⟨r,c,rfl,by omega,by omega,by omega⟩
theorem aaz {r c:Nat} (hr:r<=4096) (hc:c<=4096) (h:r*c<=1048576):xx ((r:Int),(c:Int))=some ((r:Int),(c:Int),aG r c fun _ _=>0):=by
 simp only[xx,Int.toNat_natCast]
 rw[if_pos (alK hr hc h)]
theorem alI {r c:Nat} (hr:r<=4096) (hc:c<=4096) (h:r*c<=1048576):CD ((r:Int),(c:Int))=some ((r:Int),(c:Int),aG r c fun _ _=>0):=aaz hr hc h
theorem agO {r c:Nat} (hr:r<=4096) (hc:c<=4096) (h:r*c<=1048576):F3 ax ((r:Int),(c:Int))=some ((r:Int),(c:Int),aG r c fun _ _=>0):=by
 simp only[F3]
 rw[BL (by omega) (by omega)]
 have:=yT (n:=r*c) (by_:=8) (by unfold dF;omega)
 rw[show((r*c:Nat):Int)=aI (r*c) from rfl,this,av,agS]
 rw[show dP (aG r c fun _ _=>0) (r*c)=some (aG r c fun _ _=>0) by
  have:=ku (aG r c fun _ _=>(0:Int))
  rwa[yQ] at this]
 rfl
theorem XL (x:Int×Int) (y:Int×Int×List Int) (h:xx x=some y):F3 ax x=some y:=by
 simp only[xx] at h
 split at h
 ·rename_i hc
  obtain⟨r,c,rfl,h1,h2,h3⟩:=alJ hc
  rw[<-h,agO h1 h2 h3];rfl
 ·cases h
theorem afS (x:Int×Int) (y:Int×Int×List Int) (h:CD x=some y):VL ax x=some y:=XL x y h
theorem afP (x y:List Int) (h:nF x=some y):Li ax x=some y:=by
 simp only[nF] at h
 split at h
 ·rename_i hl
  rw[<-h]
  simp only[Li]
  rw[oK (by simp only[aW,J,List.length_nil,dF];omega),av]
  have:dt [] x=x:=rfl
  rw[this,show aW (J ([]:List Int)) (J x)=J x by simp[aW,J],ku]
  rfl
 ·cases h
theorem afQ (x y:Int×Int×List Int) (h:zG x=some y):Lj ax x=some y:=by
 obtain⟨r,c,l⟩:=x
 simp only[zG] at h
 split at h
 ·rename_i hl
  rw[<-h]
  simp only[Lj,nF,if_pos hl,av,ku]
 ·cases h
theorem wJ {a b:Int} (h:0<=a/\a<b):∃n:Nat,a=(n:Int)/\∀m:Nat,b=(m:Int)->n<m:=⟨a.toNat,by omega,fun m hm=>by omega⟩
theorem agN {r c i j:Nat} {M:Nat->Nat->Int} (hr:r<=4096) (hc:c<=4096) (hi:i<r) (hj:j<c):FH ax (((r:Int),(c:Int),aG r c M),(i:Int),(j:Int))=some (M i j):=by
 simp only[FH]
 rw[I5 (by omega) (by omega) (by omega),Yj M hi hj];rfl
theorem qX {r c i j:Nat} {M:Nat->Nat->Int} (hr:r<=4096) (hc:c<=4096) (h:r*c<=1048576) (hi:i<r) (hj:j<c):mb (((r:Int),(c:Int),aG r c M),(i:Int),(j:Int))=some (M i j):=by
 simp only[mb,Int.toNat_natCast]
 rw[if_pos ⟨En M hr hc h,by omega,by omega⟩]
 rw[pu M hi hj]
theorem afE (x:(Int×Int×List Int)×Int×Int) (y:Int) (h:mb x=some y):FH ax x=some y:=by
 obtain⟨m,i,j⟩:=x
 simp only[mb] at h
 split at h
 ·rename_i hc
  obtain⟨h1,h2,h3⟩:=hc
  obtain⟨r,c,M,rfl,hr,hc,dM⟩:=Em h1
  obtain⟨i,rfl,hi⟩:=wJ h2
  obtain⟨j,rfl,hj⟩:=wJ h3
  have hi:=hi r rfl;have hj:=hj c rfl
  rw[<-h,agN hr hc hi hj]
  exact congrArg some (pu M hi hj).symm
 ·cases h
theorem agQ {r c i j:Nat} {M:Nat->Nat->Int} {x:Int} (hr:r<=4096) (hc:c<=4096) (hi:i<r) (hj:j<c):FI ax (((r:Int),(c:Int),aG r c M),(i:Int),(j:Int),x)=some (aG r c (lZ M i j x)):=by
 simp only[FI]
 rw[I5 (by omega) (by omega) (by omega),ad7 M hi hj,av,gR,agU M hi hj,av,aoi M hj,S2,av]
theorem B8 {r c i j:Nat} {M:Nat->Nat->Int} {x:Int} (hr:r<=4096) (hc:c<=4096) (h:r*c<=1048576) (hi:i<r) (hj:j<c):qU (((r:Int),(c:Int),aG r c M),(i:Int),(j:Int),x)=some (aG r c (lZ M i j x)):=by
 simp only[qU,Int.toNat_natCast]
 rw[if_pos ⟨En M hr hc h,by omega,by omega⟩]
 refine(congrArg some (m9 fun a ha b hb=>?_))
 unfold lZ
 rw[pu M ha hb]
theorem afF (x:(Int×Int×List Int)×Int×Int×Int) (y:List Int) (h:qU x=some y):FI ax x=some y:=by
 obtain⟨m,i,j,v⟩:=x
 have h0:=h
 simp only[qU] at h
 split at h
 ·rename_i hc
  obtain⟨h1,h2,h3⟩:=hc
  obtain⟨r,c,M,rfl,hr,hc,dM⟩:=Em h1
  obtain⟨i,rfl,hi⟩:=wJ h2
  obtain⟨j,rfl,hj⟩:=wJ h3
  have hi:=hi r rfl;have hj:=hj c rfl
  rw[<-h0,agQ hr hc hi hj,B8 hr hc dM hi hj]
 ·cases h
def zr (M:Nat->Nat->Int) (a b k:Nat):Nat->Nat->Int:=fun i j=>if j<k then cR M a b i j else M i j
theorem ao4 (M:Nat->Nat->Int) (a b:Nat):zr M a b 0=M:=by funext i j;exact if_neg (by omega)
theorem ao7 {r c:Nat} (M:Nat->Nat->Int) (a b k:Nat):aG r c (lZ (lZ (zr M a b k) a k (M b k)) b k (M a k))=aG r c (zr M a b (k+1)):=by
 refine m9 fun i _ j _=>?_
 unfold lZ zr cR
 by_cases hj:j=k
 ·subst hj
  by_cases hb:i=b
  ·by_cases ha:i=a
   ·subst hb;subst ha;simp
   ·have:b≠a:=fun e=>ha (hb.trans e)
    simp[hb,this]
  ·by_cases ha:i=a
   ·have:a≠b:=fun e=>hb (ha.trans e)
    simp[ha,this]
   ·simp[ha,hb]
 ·have h1:¬(i=b/\j=k):=fun h=>hj h.2
  have h2:¬(i=a/\j=k):=fun h=>hj h.2
  rw[if_neg h1,if_neg h2]
  by_cases hk:j<k
  ·simp only[if_pos hk,if_pos (show j<k+1 by omega)]
  ·simp only[if_neg hk,if_neg (show¬j<k+1 by omega)]
theorem ao5 {r c:Nat} (M:Nat->Nat->Int) (a b:Nat):aG r c (zr M a b c)=aG r c (cR M a b):=m9 fun i _ j hj=>if_pos hj
theorem ao6 (M:Nat->Nat->Int) (a b k i:Nat):zr M a b k i k=M i k:=if_neg (by omega)
theorem acE {r c a b:Nat} {M:Nat->Nat->Int} (hr:r<=4096) (hc:c<=4096) (h:r*c<=1048576) (ha:a<r) (hb:b<r):CF (((r:Int),(c:Int),aG r c M),(a:Int),(b:Int))=some (aG r c (cR M a b)):=by
 simp only[CF,Int.toNat_natCast]
 rw[if_pos ⟨En M hr hc h,by omega,by omega⟩]
 refine(congrArg some (m9 fun i hi j hj=>?_))
 unfold cR
 rw[pu M hb hj,pu M ha hj,pu M hi hj]
theorem agR {r c a b:Nat} {M:Nat->Nat->Int} (hr:r<=4096) (hc:c<=4096) (h:r*c<=1048576) (ha:a<r) (hb:b<r):FJ ax (((r:Int),(c:Int),aG r c M),(a:Int),(b:Int))=some (aG r c (cR M a b)):=by
 simp only[FJ,cH,av,iQ]
 refine fF (fun k=>(((a:Int),(b:Int),(k:Int)),aG r c (zr M a b k),(r:Int),(c:Int))) c ?_ ?_ ?_ (dC (by omega))
 ·intro k hk
  simp only
  rw[aX (qw hk)]
  simp only[qX hr hc h ha hk,qX hr hc h hb hk,B8 hr hc h ha hk,B8 hr hc h hb hk,av,AL,ao6,j3 (show k<=1048577 by omega),ao7]
 ·simp only
  rw[aR (qv (Nat.le_refl c)),S2,av,av,ao5]
 ·rw[ao4];rfl
theorem afG (x:(Int×Int×List Int)×Int×Int) (y:List Int) (h:zC x=some y):FJ ax x=some y:=by
 obtain⟨m,i,j⟩:=x
 have h0:CF (m,i,j)=some y:=h
 simp only[zC,CF] at h
 split at h
 ·rename_i hc
  obtain⟨h1,h2,h3⟩:=hc
  obtain⟨r,c,M,rfl,hr,hc,dM⟩:=Em h1
  obtain⟨i,rfl,hi⟩:=wJ h2
  obtain⟨j,rfl,hj⟩:=wJ h3
  have hi:=hi r rfl;have hj:=hj r rfl
  rw[<-h0,agR hr hc dM hi hj,acE hr hc dM hi hj]
 ·cases h
def xL (p:Int) (M:Nat->Nat->Int) (i k:Nat) (f:Int) (n:Nat):Nat->Nat->Int:=fun a j=>if j<n then tI p M i k f a j else M a j
theorem aea (p:Int) (M:Nat->Nat->Int) (i k:Nat) (f:Int):xL p M i k f 0=M:=by funext a j;exact if_neg (by omega)
theorem aed {r c:Nat} (p:Int) (M:Nat->Nat->Int) (i k:Nat) (f:Int) (n:Nat):aG r c (lZ (xL p M i k f n) i n ((M i n+f*M k n)%p))=aG r c (xL p M i k f (n+1)):=by
 refine m9 fun a _ j _=>?_
 unfold lZ xL tI
 by_cases hj:j=n
 ·subst hj
  by_cases ha:a=i
  ·subst ha;simp
  ·simp[ha]
 ·rw[if_neg (fun h=>hj h.2)]
  by_cases hk:j<n
  ·simp only[if_pos hk,if_pos (show j<n+1 by omega)]
  ·simp only[if_neg hk,if_neg (show¬j<n+1 by omega)]
theorem aeb {r c:Nat} (p:Int) (M:Nat->Nat->Int) (i k:Nat) (f:Int):aG r c (xL p M i k f c)=aG r c (tI p M i k f):=m9 fun a _ j hj=>if_pos hj
theorem aec (p:Int) (M:Nat->Nat->Int) (i k:Nat) (f:Int) (n a:Nat):xL p M i k f n a n=M a n:=if_neg (by omega)
theorem agM {p f:Int} {r c i k:Nat} {M:Nat->Nat->Int} (hp:dO p) (hr:r<=4096) (hc:c<=4096) (h:r*c<=1048576) (hi:i<r) (hk:k<r) (hf:0<=f/\f<=p) (hM:de p r c M):
  FG ax (((r:Int),(c:Int),aG r c M),p,(i:Int),(k:Int),f)=some (aG r c (tI p M i k f)):=by
 simp only[FG,cH,av,iQ]
 refine fF (fun n=>((p,(i:Int),(k:Int),f,(n:Int)),aG r c (xL p M i k f n),(r:Int),(c:Int))) c ?_ ?_ ?_ (dC (by omega))
 ·intro n hn
  simp only
  rw[aX (qw hn)]
  have h1:=hM i hi n hn
  simp only[qX hr hc h hi hn,qX hr hc h hk hn,av,aec,aaf hp (h1.s hp) hf (hM k hk n hn).le,B8 hr hc h hi hn,AL,j3 (show n<=1048577 by omega),aed]
 ·simp only
  rw[aR (qv (Nat.le_refl c)),S2,av,av,aeb]
 ·rw[aea];rfl
theorem VZ {p f:Int} {r c i k:Nat} {M:Nat->Nat->Int} (hp:dO p) (hr:r<=4096) (hc:c<=4096) (h:r*c<=1048576) (hi:i<r) (hk:k<r) (hf:0<=f/\f<=p) (hM:de p r c M):
  xp (((r:Int),(c:Int),aG r c M),p,(i:Int),(k:Int),f)=some (aG r c (tI p M i k f)):=by
 simp only[xp,Int.toNat_natCast]
 rw[if_pos ⟨En M hr hc h,hp,by omega,by omega,hf,nK.2 hM⟩]
 refine(congrArg some (m9 fun a ha j hj=>?_))
 unfold tI
 rw[pu M hi hj,pu M hk hj,pu M ha hj]
theorem afD (x:(Int×Int×List Int)×Int×Int×Int×Int) (y:List Int) (h:xp x=some y):FG ax x=some y:=by
 obtain⟨m,p,i,k,f⟩:=x
 have h0:=h
 simp only[xp] at h
 split at h
 ·rename_i hc
  obtain⟨h1,hp,h2,h3,hf,hM⟩:=hc
  obtain⟨r,c,M,rfl,hr,hc,dM⟩:=Em h1
  obtain⟨i,rfl,hi⟩:=wJ h2
  obtain⟨k,rfl,hk⟩:=wJ h3
  have hi:=hi r rfl;have hk:=hk r rfl
  have hM:=nK.1 hM
  rw[<-h0,agM hp hr hc dM hi hk hf hM,VZ hp hr hc dM hi hk hf hM]
 ·cases h
theorem EF {M:Nat->Nat->Int} {j q:Nat}:∀{d k:Nat},pA M j d k=some q->k<=q/\q<k+d/\M q j≠0
 |0,k,h=>by cases h
 |d+1,k,h=>by
  simp only[pA] at h
  split at h
  ·have:=EF h
   exact⟨by omega,by omega,this.2.2⟩
  ·rename_i h0
   injection h with h
   subst h
   exact⟨by omega,by omega,h0⟩
theorem Pg (p out x:Int):kg p out x 0=out:=by rw[kg];rfl
theorem Ph {n:Nat} (h:n≠0) (p out x:Int):kg p out x n=kg p (if n%2=1 then out*x%p else out) (x*x%p) (n/2):=by
 rw[kg,dif_neg h]
theorem ah3 {p:Int} (hp:dO p):∀(n:Nat) (out x:Int),fk p out->fk p (kg p out x n):=by
 intro n
 induction n using Nat.strongRecOn with
 |ind n ih=>
  intro out x ho
  by_cases h:n=0
  ·subst h;rw[Pg];exact ho
  ·rw[Ph h]
   refine ih (n/2) (by omega) _ _ ?_
   split
   ·exact xV hp _
   ·exact ho
theorem ah7 {p out x:Int} {n:Nat} {Y:Type} {o:Option (Int×Int×Int×Int⊕Y)} (k:Int×Int×Int×Int->Option Y) (b:Bool) (hb:b=decide (n%2=1)) (hp:dO p) (ho:fk p out) (hx:fk p x):
  cd (aC b ((jH (c7 .i64 out x) p).aa fun i=>some (Sum.inl (x,(n:Int),p,i))) (some (Sum.inl (x,(n:Int),p,out)))) k=k (x,(n:Int),p,if n%2=1 then out*x%p else out):=by
 subst hb
 by_cases h:n%2=1
 ·rw[aX (decide_eq_true h),Q2 hp ho.le hx.le,av,g8,if_pos h]
 ·rw[aR (decide_eq_false h),g8,if_neg h]
theorem af2 (x:Int×Int) (y:Int) (h:zM x=some y):Lt ax x=some y:=by
 obtain⟨p,x⟩:=x
 simp only[zM,VI] at h
 split at h
 ·rename_i hc
  obtain⟨hp,hx⟩:=hc
  have uk:=hp.1;have mE:=hp.2
  obtain⟨n,hn⟩:=fz (show 0<=p - 2 by omega)
  rw[<-h]
  simp only[Lt]
  rw[lW (by omega) (by omega),hn,Int.toNat_natCast]
  rw[aac (r:=Sum.inl (kg p 1 x n)) (fun m s=>∃out x':Int,s=(p,x',out,(m:Int))/\m<=n/\fk p out/\fk p x'/\kg p out x' m=kg p 1 x n) ?_ n _ ⟨1,x,rfl,by omega,⟨by omega,by omega⟩,hx,rfl⟩ ax (dC (by omega))]
  ·rw[g8]
  ·rintro m s ⟨out,x',rfl,hm,ho,fM,he⟩
   simp only
   by_cases h0:m=0
   ·subst h0
    left
    rw[aR (cZ (by omega)),<-he,Pg]
   ·right
    refine⟨m/2,_,by omega,?_,if m%2=1 then out*x'%p else out,x'*x'%p,rfl,by omega,?_,xV hp _,by rw[<-he,Ph h0]⟩
    ·rw[aX (dc (by omega))]
     have hb:cz (pO .i64 (m:Int) 1) 1=decide (m%2=1):=by
      rw[show(1:Int)=((1:Nat):Int) from rfl,ads (by omega) (by omega),Nat.and_one_is_mod]
      by_cases h1:m%2=1
      ·rw[tL (by omega),decide_eq_true h1]
      ·rw[sx (by omega),decide_eq_false h1]
     rw[ah7 (o:=none) _ _ hb hp ho fM]
     simp only
     rw[Q2 hp fM.le fM.le,av]
     have hq:tf .i64 (m:Int) 1=some ((m/2:Nat):Int):=by
      rw[show(1:Int)=((1:Nat):Int) from rfl,aoq (by omega),Nat.shiftRight_eq_div_pow]
     rw[hq,av]
    ·split
     ·exact xV hp _
     ·exact ho
 ·cases h
def rS (W:Nat->Nat->Int) (i j:Nat):Nat->Nat->Int:=fun a b=>if a<i\/a=i/\b<j then W a b else 0
theorem akz {r c:Nat} (W:Nat->Nat->Int) (i j:Nat):aG r c (lZ (rS W i j) i j (W i j))=aG r c (rS W i (j+1)):=by
 refine m9 fun a _ b _=>?_
 unfold lZ rS
 by_cases h:a=i/\b=j
 ·obtain⟨rfl,rfl⟩:=h
  simp
 ·rw[if_neg h]
  by_cases h1:a<i\/a=i/\b<j
  ·simp only[if_pos h1,if_pos (show a<i\/a=i/\b<j+1 by omega)]
  ·simp only[if_neg h1,if_neg (show¬(a<i\/a=i/\b<j+1) by omega)]
theorem aky {r c:Nat} (W:Nat->Nat->Int) (i:Nat):aG r c (rS W i c)=aG r c (rS W (i+1) 0):=by
 refine m9 fun a _ b hb=>?_
 unfold rS
 by_cases h1:a<i\/a=i/\b<c
 ·simp only[if_pos h1,if_pos (show a<i+1\/a=i+1/\b<0 by omega)]
 ·simp only[if_neg h1,if_neg (show¬(a<i+1\/a=i+1/\b<0) by omega)]
theorem akx {r c:Nat} (W:Nat->Nat->Int):aG r c (rS W r 0)=aG r c W:=m9 fun a ha b hb=>if_pos (.inl ha)
theorem akw {r c:Nat} (W:Nat->Nat->Int):aG r c (rS W 0 0)=aG r c fun _ _=>0:=m9 fun a ha b hb=>if_neg (by omega)
end Go.Am
end
section
namespace Go.Am
def ab9 (x:Int×Int×Int):Prop:=ct x.1=true/\(1<=x.2.1/\x.2.1<=8)/\(1<=x.2.2/\x.2.2<=8)
instance (x:Int×Int×Int):Decidable (ab9 x):=by unfold ab9;infer_instance
theorem ahY {p:Int} {r c:Nat} {l:List Int} (h:l.length=r*c) (hr:mV p l=true):de p r c (bY c l):=by
 apply nK.1
 rw[sE h]
 intro x hx
 have:=List.all_eq_true.1 hr x hx
 exact of_decide_eq_true this
theorem ajs {m:Int} {x:Int×Int×List Int} (h:kN m x=true):∃(r c:Nat) (M:Nat->Nat->Int),x=((r:Int),(c:Int),aG r c M)/\dO m/\r<=64/\c<=64/\r*c<=4096/\de m r c M:=by
 obtain⟨r,c,l⟩:=x
 simp only[kN,Bool.and_eq_true,decide_eq_true_eq] at h
 obtain⟨h1,h2,h3,h4,h5⟩:=h
 obtain⟨r,rfl⟩:=fz (z:=r) (by omega)
 obtain⟨c,rfl⟩:=fz (z:=c) (by omega)
 have hl:l.length=r*c:=by
  have e:(r:Int)*(c:Int)=((r*c:Nat):Int):=by norm_cast
  omega
 have dM:r*c<=64*64:=Nat.mul_le_mul (by omega) (by omega)
 exact⟨r,c,bY c l,by rw[sE hl],eF h1,by omega,by omega,by omega,ahY hl h5⟩
end Go.Am
end
section
namespace Go.Am
abbrev aU:=Nat->Nat->Int
def wZ (p inv:Int) (M:aU) (t n:Nat):aU:=fun a b=>if a=t/\b<n then M t b*inv%p else M a b
def rW (p inv:Int) (M:aU) (t:Nat):aU:=fun a b=>if a=t then M t b*inv%p else M a b
def e9 (p:Int) (M:aU) (t j n:Nat):aU:=fun a b=>if a<n/\a≠t then(M a b+(p - M a j)*M t b)%p else M a b
def od (p:Int) (M:aU) (t j k:Nat):aU:=rW p (kg p 1 (cR M t k t j) (p - 2).toNat) (cR M t k) t
def JN (p:Int) (M:aU) (t j k:Nat) (d:Int):Int:=(if k=t then d else(p - d)%p)*cR M t k t j%p
def jX (p:Int) (r:Nat) (s:aU×List Int×Int) (j:Nat):aU×List Int×Int:=
 if s.2.1.length<r then
  match pA s.1 j (r - s.2.1.length) s.2.1.length with
  |none=>s
  |some k=>(e9 p (od p s.1 s.2.1.length j k) s.2.1.length j r,s.2.1++[(j:Int)],JN p s.1 s.2.1.length j k s.2.2)
 else s
def bK (p:Int) (r:Nat) (M:aU):Nat->aU×List Int×Int
 |0=>(M,[],1)
 |j+1=>jX p r (bK p r M j) j
def EL (x:Int×Int×Int×List Int):Prop:=dO x.1/\pk x.2/\eX x.1 x.2.2.2
instance (x:Int×Int×Int×List Int):Decidable (EL x):=by unfold EL;infer_instance
def pD (x:Int×Int×Int×List Int):aU×List Int×Int:=bK x.1 x.2.1.toNat (bY x.2.2.1.toNat x.2.2.2) x.2.2.1.toNat
def tv:Int×Int×Int×List Int->Option ((Int×Int×List Int)×List Int):=fun(x:Int×Int×Int×List Int)=>
 if EL x then some ((x.2.1,x.2.2.1,aG x.2.1.toNat x.2.2.1.toNat (pD x).1),(pD x).2.1) else none
def GS:ak:=[(.one,[.int .i64]),(.agg,[.int .i64,.int .i64,.list [.int .i64]])]
def Su:ak:=[(.agg,[.int .i64,.int .i64,.list [.int .i64]]),(.one,[.list [.int .i64]])]
def aj6:aN:=[]
def FK (NN:Nat):(Int×(Int×(Int×(List Int))))->(Option ((Int×(Int×(List Int)))×(List Int))):=
 (fun((i0,i1,i2,l3):(Int×(Int×(Int×(List Int)))))=>
 (zG (i1,i2,l3)).aa (fun(i4,i5,l6)=>
 cd ((ai 0 0 (J (([]:List Int)))).aa (fun _=>
 (ai 0 0 (J (([]:List Int)))).aa (fun _=>
 (ai 0 (J l6) (J l6)).aa (fun _=>
 bN NN (fun(((i7,i8),(i9,db),(eS,eZ),eK,gm,eU):((Int×Int)×((Int×Int)×((Int×Int)×((List Int)×((List Int)×(List Int)))))))=>
 aC (bO i8 eZ)
 (cd (cd ((ai 0 (J eU) (J eU)).aa (fun _=>
 (ai 0 (J eK) (J eK)).aa (fun _=>
 (ai 0 (J gm) (J gm)).aa (fun _=>
 bN NN (fun(((iK,kH,g0,gQ),(jA,qi),(mI,uA),iv,f9,fg):((Int×(Int×(Int×Int)))×((Int×Int)×((Int×Int)×((List Int)×((List Int)×(List Int)))))))=>
 aC (bO gQ mI)
 ((c6 f9 0 (J f9)).aa (fun mL=>
 (mb ((mI,uA,mL),gQ,kH)).aa (fun uC=>
 aC (cz uC (0:Int))
 ((ai 0 (J fg) (J fg)).aa (fun _=>
 (ai 0 (J iv) (J iv)).aa (fun _=>
 (ai 0 (J f9) (J f9)).aa (fun _=>
 some (Sum.inl ((iK,kH,g0,bS .i64 gQ 1),(jA,qi),(mI,uA),iv,f9,fg))))))
 (((ai 0 (J fg) (J fg)).aa (fun _=>
 (ai 0 (J iv) (J iv)).aa (fun _=>
 (ai 0 (J f9) (J f9)).aa (fun _=>
 some (Sum.inl ((gQ,g0,kH,iK),(jA,qi),(mI,uA),iv,f9,fg)))))).aa (fun iw=>
 some (Sum.inr iw))))))
 (((ai 0 (J fg) (J fg)).aa (fun _=>
 (ai 0 (J iv) (J iv)).aa (fun _=>
 (ai 0 (J f9) (J f9)).aa (fun _=>
 some (Sum.inl ((gQ,g0,kH,iK),(jA,qi),(mI,uA),iv,f9,fg)))))).aa (fun kj=>
 some (Sum.inr kj))))
 ((i7,i8,aI (J eU),aI (J eU)),(i9,db),(eS,eZ),eK,gm,eU)))))
 (fun((nk,gk,oW,lI),(jc,uD),(jd,mJ),iz,g9,fy)=>
 aC (cz nk jd)
 ((ai 0 (J fy) (J fy)).aa (fun _=>
 (ai 0 (J iz) (J iz)).aa (fun _=>
 (ai 0 (J g9) (J g9)).aa (fun _=>
 some (Sum.inl ((oW,lI),(jc,uD),(jd,mJ),iz,g9,fy))))))
 ((ai 0 (J g9) (J g9)).aa (fun _=>
 (zC ((jd,mJ,g9),gk,nk)).aa (fun hJ=>
 (c6 hJ 0 (J g9)).aa (fun jg=>
 (mb ((jd,mJ,jg),gk,oW)).aa (fun lJ=>
 (zM (lI,lJ)).aa (fun qk=>
 cd ((ai 0 (J fy) (J fy)).aa (fun _=>
 (ai 0 (J iz) (J iz)).aa (fun _=>
 (ai 0 (J g9) (J hJ)).aa (fun _=>
 bN NN (fun(((wu,oZ,ql,sQ,o7),(rI,rJ),(rK,o8),lP,iB,iC):((Int×(Int×(Int×(Int×Int))))×((Int×Int)×((Int×Int)×((List Int)×((List Int)×(List Int)))))))=>
 aC (bO o7 o8)
 ((c6 iB 0 (J iB)).aa (fun lQ=>
 (mb ((rK,o8,lQ),ql,o7)).aa (fun Bo=>
 (jH (c7 .i64 Bo sQ) wu).aa (fun uE=>
 (ai 0 (J iB) (J iB)).aa (fun _=>
 (qU ((rK,o8,iB),ql,o7,uE)).aa (fun wC=>
 (ai 0 (J iC) (J iC)).aa (fun _=>
 (ai 0 (J lP) (J lP)).aa (fun _=>
 (ai 0 (J iB) (J wC)).aa (fun _=>
 some (Sum.inl ((wu,oZ,ql,sQ,bS .i64 o7 1),(rI,rJ),(rK,o8),lP,wC,iC)))))))))))
 (((ai 0 (J iC) (J iC)).aa (fun _=>
 (ai 0 (J lP) (J lP)).aa (fun _=>
 (ai 0 (J iB) (J iB)).aa (fun _=>
 some (Sum.inl ((wu,oZ,ql),(rI,rJ),(rK,o8),lP,iB,iC)))))).aa (fun l62=>
 some (Sum.inr l62))))
 ((lI,oW,gk,qk,(0:Int)),(jc,uD),(jd,mJ),iz,hJ,fy)))))
 (fun((rM,i64,D7),(yE,uF),(D8,Bp),qu,mO,mP)=>
 cd ((ai 0 (J mP) (J mP)).aa (fun _=>
 (ai 0 (J qu) (J qu)).aa (fun _=>
 (ai 0 (J mO) (J mO)).aa (fun _=>
 bN NN (fun(((Bq,o9,Br,pb),(sR,sS),(sT,sU),lR,iL,lS):((Int×(Int×(Int×Int)))×((Int×Int)×((Int×Int)×((List Int)×((List Int)×(List Int)))))))=>
 aC (bO pb sT)
 (aC (hZ pb Br)
 ((c6 iL 0 (J iL)).aa (fun Ek=>
 (mb ((sT,sU,Ek),pb,o9)).aa (fun Ea=>
 aC (hZ Ea (0:Int))
 ((c6 iL 0 (J iL)).aa (fun BB=>
 (mb ((sT,sU,BB),pb,o9)).aa (fun i87=>
 (ai 0 (J iL) (J iL)).aa (fun _=>
 (xp ((sT,sU,iL),Bq,pb,Br,eG .i64 Bq i87)).aa (fun yP=>
 (ai 0 (J lS) (J lS)).aa (fun _=>
 (ai 0 (J lR) (J lR)).aa (fun _=>
 (ai 0 (J iL) (J yP)).aa (fun _=>
 some (Sum.inl ((Bq,o9,Br,bS .i64 pb 1),(sR,sS),(sT,sU),lR,yP,lS))))))))))
 ((ai 0 (J lS) (J lS)).aa (fun _=>
 (ai 0 (J lR) (J lR)).aa (fun _=>
 (ai 0 (J iL) (J iL)).aa (fun _=>
 some (Sum.inl ((Bq,o9,Br,bS .i64 pb 1),(sR,sS),(sT,sU),lR,iL,lS)))))))))
 ((ai 0 (J lS) (J lS)).aa (fun _=>
 (ai 0 (J lR) (J lR)).aa (fun _=>
 (ai 0 (J iL) (J iL)).aa (fun _=>
 some (Sum.inl ((Bq,o9,Br,bS .i64 pb 1),(sR,sS),(sT,sU),lR,iL,lS)))))))
 (((ai 0 (J lS) (J lS)).aa (fun _=>
 (ai 0 (J lR) (J lR)).aa (fun _=>
 (ai 0 (J iL) (J iL)).aa (fun _=>
 some (Sum.inl ((o9,Bq),(sR,sS),(sT,sU),lR,iL,lS)))))).aa (fun uJ=>
 some (Sum.inr uJ))))
 ((rM,i64,D7,(0:Int)),(yE,uF),(D8,Bp),qu,mO,mP)))))
 (fun((Zu,Eb),(i92,O1),(i94,i95),PD,PE,BC)=>
 (ai 0 (J BC) (J BC)).aa (fun _=>
 (c6 ((Zu::([]:List Int))) 0 1).aa (fun Jk=>
 (jt (aW (J BC) (J Jk)) 8).aa (fun _=>
 (ai 0 (aW (J BC) (J Jk)) (J (dt BC Jk))).aa (fun _=>
 (ai 0 (J PD) (J PD)).aa (fun _=>
 (ai 0 (J PE) (J PE)).aa (fun _=>
 some (Sum.inl ((Zu,Eb),(i92,O1),(i94,i95),PD,PE,dt BC Jk))))))))))))))))))
 (fun((ahK,ahL),(ahM,ahN),(ahO,ahP),Pw,Px,Py)=>
 (ai 0 (J Py) (J Py)).aa (fun _=>
 (ai 0 (J Pw) (J Pw)).aa (fun _=>
 (ai 0 (J Px) (J Px)).aa (fun _=>
 some (Sum.inl ((ahL,bS .i64 ahK 1),(ahM,ahN),(ahO,ahP),Pw,Px,Py)))))))
 (((ai 0 (J eU) (J eU)).aa (fun _=>
 (ai 0 (J eK) (J eK)).aa (fun _=>
 (ai 0 (J gm) (J gm)).aa (fun _=>
 some (Sum.inl ((i9,db),(eS,eZ),eK,gm,eU)))))).aa (fun aji=>
 some (Sum.inr aji))))
 ((i0,(0:Int)),((0:Int),(0:Int)),(i4,i5),([]:List Int),l6,([]:List Int))))))
 (fun((apX,apY),(ahQ,ahR),apZ,ZR,ZS)=>
 (dP ZR (J ZR)).aa (fun ajj=>
 (dP ZS (J ZS)).aa (fun ajk=>
 some ((ahQ,ahR,ajj),ajk))))))
theorem Kq {p:Int} {r c:Nat} {M:aU} (hM:de p r c M) {a b:Nat} (ha:a<r) (hb:b<r):de p r c (cR M a b):=by
 intro i hi j hj
 unfold cR
 split
 ·exact hM b hb j hj
 ·split
  ·exact hM a ha j hj
  ·exact hM i hi j hj
theorem abI {p inv:Int} {r c:Nat} {M:aU} (hp:dO p) (hM:de p r c M) (t:Nat):de p r c (rW p inv M t):=by
 intro i hi j hj
 unfold rW
 split
 ·exact xV hp _
 ·exact hM i hi j hj
theorem WM {p:Int} {r c:Nat} {M:aU} (hp:dO p) (hM:de p r c M) (t k n:Nat):de p r c (e9 p M t k n):=by
 intro i hi j hj
 unfold e9
 split
 ·exact xV hp _
 ·exact hM i hi j hj
theorem aaI {p:Int} (hp:dO p):fk p 1:=⟨by omega,by have:=hp.1;omega⟩
theorem aaW {p:Int} {r c:Nat} {M:aU} (hp:dO p) (hM:de p r c M) {t k:Nat} (ht:t<r) (hk:k<r) (j:Nat):de p r c (od p M t j k):=abI hp (Kq hM ht hk) t
structure RI (p:Int) (r c:Nat) (s:aU×List Int×Int) (j:Nat):Prop where
 m:de p r c s.1
 l:s.2.1.length<=r
 lj:s.2.1.length<=j
 d:fk p s.2.2
 e:∀x∈s.2.1,0<=x/\x<(j:Int)
theorem RI.step {p:Int} {r c:Nat} {s:aU×List Int×Int} {j:Nat} (hp:dO p) (h:RI p r c s j):RI p r c (jX p r s j) (j+1):=by
 have fe:RI p r c s (j+1):=⟨h.m,h.l,by have:=h.lj;omega,h.d,fun x hx=>by have:=h.e x hx;omega⟩
 unfold jX
 split
 ·rename_i hl
  split
  ·exact fe
  ·rename_i k hk
   have hq:=EF hk
   refine⟨WM hp (aaW hp h.m hl (by omega) j) _ _ _,?_,?_,xV hp _,?_⟩
   ·simp only[List.length_append,List.length_cons,List.length_nil];omega
   ·have:=h.lj
    simp only[List.length_append,List.length_cons,List.length_nil];omega
   ·intro x hx
    simp only[List.mem_append,List.mem_singleton] at hx
    rcases hx with hx|rfl
    ·have:=h.e x hx;omega
    ·omega
 ·exact fe
theorem oq {p:Int} {r c:Nat} {M:aU} (hp:dO p) (hM:de p r c M):∀j,RI p r c (bK p r M j) j
 |0=>⟨hM,Nat.zero_le _,Nat.le_refl 0,aaI hp,fun x hx=>absurd hx (List.not_mem_nil)⟩
 |j+1=>(oq hp hM j).step hp
theorem aoa {r c:Nat} {p inv:Int} (M:aU) (t n:Nat):aG r c (lZ (wZ p inv M t n) t n (M t n*inv%p))=aG r c (wZ p inv M t (n+1)):=by
 refine m9 fun a _ b _=>?_
 unfold lZ wZ
 by_cases h:a=t/\b=n
 ·obtain⟨rfl,rfl⟩:=h
  simp
 ·rw[if_neg h]
  by_cases h1:a=t/\b<n
  ·rw[if_pos h1,if_pos ⟨h1.1,by omega⟩]
  ·rw[if_neg h1,if_neg (by omega)]
theorem an7 {p inv:Int} (M:aU) (t:Nat):wZ p inv M t 0=M:=by funext a b;exact if_neg (by omega)
theorem an9 {p inv:Int} (M:aU) (t n:Nat):wZ p inv M t n t n=M t n:=if_neg (by omega)
theorem an8 {r c:Nat} {p inv:Int} (M:aU) (t:Nat):aG r c (wZ p inv M t c)=aG r c (rW p inv M t):=by
 refine m9 fun a _ b hb=>?_
 unfold wZ rW
 by_cases h:a=t
 ·rw[if_pos ⟨h,hb⟩,if_pos h]
 ·rw[if_neg (fun q=>h q.1),if_neg h]
theorem WL {p:Int} (M:aU) (t j:Nat):e9 p M t j 0=M:=by funext a b;exact if_neg (by omega)
theorem HM {p:Int} (M:aU) (t j n b:Nat):e9 p M t j n n b=M n b:=if_neg (by omega)
theorem WO {p:Int} (M:aU) (t j n b:Nat):e9 p M t j n t b=M t b:=if_neg (by omega)
theorem WN {p:Int} (M:aU) (t j:Nat):e9 p M t j (t+1)=e9 p M t j t:=by
 funext a b
 unfold e9
 by_cases h:a<t
 ·rw[if_pos (by omega),if_pos (by omega)]
 ·rw[if_neg (by omega),if_neg (by omega)]
theorem aee {r c:Nat} {p:Int} (M:aU) (t j n:Nat) (hn:n≠t):aG r c (tI p (e9 p M t j n) n t (p - M n j))=aG r c (e9 p M t j (n+1)):=by
 refine m9 fun a _ b _=>?_
 unfold tI
 by_cases h:a=n
 ·subst h
  rw[if_pos rfl,HM,WO]
  exact(if_pos ⟨by omega,hn⟩).symm
 ·rw[if_neg h]
  unfold e9
  by_cases h1:a<n/\a≠t
  ·rw[if_pos h1,if_pos ⟨by omega,h1.2⟩]
  ·rw[if_neg h1,if_neg (by omega)]
theorem aef {r c:Nat} {p:Int} (M:aU) (t j n:Nat) (hM:de p r c M) (h0:M n j=0):aG r c (e9 p M t j n)=aG r c (e9 p M t j (n+1)):=by
 refine m9 fun a ha b hb=>?_
 unfold e9
 by_cases h:a=n
 ·subst h
  rw[if_neg (by omega)]
  by_cases ht:a=t
  ·rw[if_neg (by omega)]
  ·rw[if_pos ⟨by omega,ht⟩,h0,Int.sub_zero,Int.add_mul_emod_self_left]
   exact(Int.emod_eq_of_lt (hM a ha b hb).1 (hM a ha b hb).2).symm
 ·by_cases h1:a<n/\a≠t
  ·rw[if_pos h1,if_pos ⟨by omega,h1.2⟩]
  ·rw[if_neg h1,if_neg (by omega)]
theorem JJ {M:aU} {j:Nat}:∀{d k:Nat},pA M j d k=none->∀i,k<=i->i<k+d->M i j=0
 |0,k,_,i,h1,h2=>by omega
 |d+1,k,h,i,h1,h2=>by
  simp only[pA] at h
  split at h
  ·rename_i h0
   by_cases hi:i=k
   ·rw[hi];exact h0
   ·exact JJ h i (by omega) (by omega)
  ·cases h
theorem Ri {M:aU} {j q:Nat}:∀{d k:Nat},pA M j d k=some q->∀i,k<=i->i<q->M i j=0
 |0,k,h,i,h1,h2=>by cases h
 |d+1,k,h,i,h1,h2=>by
  simp only[pA] at h
  split at h
  ·rename_i h0
   by_cases hi:i=k
   ·rw[hi];exact h0
   ·exact Ri h i (by omega) h2
  ·have:=Option.some.inj h;omega
theorem Rr {p:Int} {r:Nat} {s:aU×List Int×Int} {j:Nat} (hl:s.2.1.length<r) (h:pA s.1 j (r - s.2.1.length) s.2.1.length=none):jX p r s j=s:=by
 unfold jX
 rw[if_pos hl,h]
theorem Rs {p:Int} {r:Nat} {s:aU×List Int×Int} {j k:Nat} (hl:s.2.1.length<r) (h:pA s.1 j (r - s.2.1.length) s.2.1.length=some k):
  jX p r s j=(e9 p (od p s.1 s.2.1.length j k) s.2.1.length j r,s.2.1++[(j:Int)],JN p s.1 s.2.1.length j k s.2.2):=by
 unfold jX
 rw[if_pos hl,h]
theorem ah5 {p x:Int} (hp:dO p) (hx:fk p x):zM (p,x)=some (kg p 1 x (p - 2).toNat):=if_pos ⟨hp,hx⟩
theorem Vt {r c:Nat} (M M':aU):c6 (aG r c M) 0 (J (aG r c M'))=some (aG r c M):=ac4 (by rw[yQ];exact(j9 r c M))
section
variable {p:Int} {r c:Nat} {M0:aU}
end
section
variable {p:Int} {r c:Nat} {M0:aU}
abbrev UX (p:Int) (r c:Nat) (s:aU×List Int×Int) (j:Nat):(Int×Int)×(Int×Int)×(Int×Int)×List Int×List Int×List Int:=
 ((p,(j:Int)),((0:Int),(0:Int)),((r:Int),(c:Int)),([]:List Int),aG r c s.1,s.2.1)
theorem agP (hp:dO p) (hr:r<=4096) (hc:c<=4096) (dM:r*c<=1048576) (hM:de p r c M0):
  FK ax (p,(r:Int),(c:Int),aG r c M0)=some (((r:Int),(c:Int),aG r c (bK p r M0 c).1),(bK p r M0 c).2.1):=by
 have hlen:(aG r c M0).length<=1099511627776:=by rw[j9];omega
 simp only[FK,zG,if_pos hlen,av,cH]
 rw[fF (r:=Sum.inl (((0:Int),(0:Int)),((r:Int),(c:Int)),([]:List Int),aG r c (bK p r M0 c).1,(bK p r M0 c).2.1)) (fun j=>UX p r c (bK p r M0 j) j) c ?_ ?_ ?_ (dC (by omega))]
 ·rw[show ai 0 0 (J ([]:List Int))=some () from rfl];simp only[av];rw[g8];simp only[ku,av]
 ·intro j hj
  have hI:=oq hp hM (r:=r) (c:=c) j
  generalize hs:bK p r M0 j=s at hI⊢
  have hS:bK p r M0 (j+1)=jX p r s j:=by rw[<-hs];rfl
  obtain⟨M,L,d⟩:=s
  have oN:de p r c M:=hI.m
  have kF:L.length<=r:=hI.l
  have hlj:L.length<=j:=hI.lj
  simp only[UX]
  rw[aX (qw hj)]
  have aoh:∃k:Nat,L.length<=k/\k<=r/\(∀i,L.length<=i->i<k->M i j=0)/\((k=r/\jX p r (M,L,d) j=(M,L,d))\/(k<r/\M k j≠0/\L.length<r/\jX p r (M,L,d) j=(e9 p (od p M L.length j k) L.length j r,L++[(j:Int)],JN p M L.length j k d))):=by
   by_cases hl:L.length<r
   ·cases hk:pA M j (r - L.length) L.length with
    |none=>exact⟨r,kF,Nat.le_refl r,fun i h1 h2=>JJ hk i h1 (by omega),.inl ⟨rfl,Rr (s:=(M,L,d)) hl hk⟩⟩
    |some k=>
     obtain⟨q1,q2,q3⟩:=EF hk
     exact⟨k,q1,by omega,fun i h1 h2=>Ri hk i h1 h2,.inr ⟨by omega,q3,hl,Rs (s:=(M,L,d)) hl hk⟩⟩
   ·refine⟨r,kF,Nat.le_refl r,fun i h1 h2=>by omega,.inl ⟨rfl,?_⟩⟩
    unfold jX
    exact if_neg hl
  obtain⟨k,IP,YR,hk3,DS⟩:=aoh
  rw[fF (r:=Sum.inl (((k:Int),((L.length:Nat):Int),(j:Int),p),((0:Int),(0:Int)),((r:Int),(c:Int)),([]:List Int),aG r c M,L)) (fun e=>((p,(j:Int),((L.length:Nat):Int),((L.length+e:Nat):Int)),((0:Int),(0:Int)),((r:Int),(c:Int)),([]:List Int),aG r c M,L)) (k - L.length) ?_ ?_ ?_ (dC (by omega))]
  ·rw[g8]
   simp only
   rcases DS with⟨yn,NR⟩|⟨yn,aB,hl,NR⟩
   ·rw[hS,NR,aX (tL (by omega)),g8]
    simp only[j3 (show j<=1048577 by omega)]
   ·rw[hS,NR,aR (sx (by omega))]
    have DG:=Kq oN hl yn
    have hx:=DG L.length hl j hj
    have Oj:=ah3 hp (p - 2).toNat 1 (cR M L.length k L.length j) (aaI hp)
    rw[show zC (((r:Int),(c:Int),aG r c M),((L.length:Nat):Int),(k:Int))=some (aG r c (cR M L.length k)) from acE hr hc dM hl yn,av,Vt,av,qX hr hc dM hl hj,av,ah5 hp hx,av]
    simp only[AL,av]
    rw[fF (r:=Sum.inl ((p,(j:Int),((L.length:Nat):Int)),((0:Int),(0:Int)),((r:Int),(c:Int)),([]:List Int),aG r c (od p M L.length j k),L)) (fun b=>((p,(j:Int),((L.length:Nat):Int),kg p 1 (cR M L.length k L.length j) (p - 2).toNat,(b:Int)),((0:Int),(0:Int)),((r:Int),(c:Int)),([]:List Int),aG r c (wZ p (kg p 1 (cR M L.length k L.length j) (p - 2).toNat) (cR M L.length k) L.length b),L)) c ?_ ?_ ?_ (dC (by omega))]
    ·rw[g8]
     simp only
     have hP:de p r c (od p M L.length j k):=aaW hp oN hl yn j
     generalize od p M L.length j k=P at hP⊢
     rw[fF (r:=Sum.inl (((j:Int),p),((0:Int),(0:Int)),((r:Int),(c:Int)),([]:List Int),aG r c (e9 p P L.length j r),L)) (fun a=>((p,(j:Int),((L.length:Nat):Int),(a:Int)),((0:Int),(0:Int)),((r:Int),(c:Int)),([]:List Int),aG r c (e9 p P L.length j a),L)) r ?_ ?_ ?_ (dC (by omega))]
     ·rw[g8]
      simp only
      rw[ac4 (xs:=[(j:Int)]) (n:=1) rfl,av,oK (by simp only[aW,J,dF,List.length_cons,List.length_nil];omega),av,BD,cH,av,g8]
      simp only[j3 (show j<=1048577 by omega)]
      rfl
     ·intro a ha
      simp only
      rw[aX (qw ha)]
      by_cases bQ:a=L.length
      ·rw[aR (Es (by omega))]
       simp only[j3 (show a<=1048577 by omega)]
       rw[bQ,WN]
      ·rw[aX (Et (by omega)),Vt,av,qX hr hc dM ha hj,av,HM]
       have IC:=hP a ha j hj
       by_cases h0:P a j=0
       ·rw[aR (Es h0)]
        simp only[j3 (show a<=1048577 by omega)]
        rw[aef P L.length j a hP h0]
       ·rw[aX (Et h0),av,qX hr hc dM ha hj,av,HM]
        have hs:eG .i64 p (P a j)=p - P a j:=by
         have h1:=hp.1;have h2:=hp.2;have h3:=IC.1;have h4:=IC.2
         exact lW (by omega) (by omega)
        rw[hs,VZ hp hr hc dM ha hl (by have h3:=IC.1;have h4:=IC.2;omega) (WM hp hP _ _ _)]
        simp only[av,AL,j3 (show a<=1048577 by omega)]
        rw[aee P L.length j a bQ]
     ·simp only
      rw[aR (qv (Nat.le_refl r))]
     ·rw[WL]
      rfl
    ·intro b hb
     simp only
     rw[aX (qw hb),Vt,av,qX hr hc dM hl hb,av,an9,Q2 hp (DG L.length hl b hb).le Oj.le,av,B8 hr hc dM hl hb]
     simp only[av,AL,aoa,j3 (show b<=1048577 by omega)]
    ·simp only
     rw[aR (qv (Nat.le_refl c)),an8]
     rfl
    ·rw[an7]
     rfl
  ·intro e he
   simp only
   rw[aX (qw (show L.length+e<r by omega)),iQ,av,qX hr hc dM (show L.length+e<r by omega) hj,av,aX (tL (hk3 _ (by omega) (by omega)))]
   simp only[j3 (show L.length+e<=1048577 by omega)]
   rfl
  ·have e1:L.length+(k - L.length)=k:=by omega
   simp only[e1]
   by_cases yn:k<r
   ·have aB:M k j≠0:=by
     rcases DS with⟨h1,_⟩|⟨_,h1,_⟩
     ·omega
     ·exact h1
    rw[aX (qw yn),iQ,av,qX hr hc dM yn hj,av,aR (sx aB)]
   ·rw[aR (qv (by omega))]
  ·rfl
 ·simp only[UX]
  rw[aR (qv (Nat.le_refl c))]
 ·rfl
end
theorem ano {x:Int×Int×Int×List Int} (h:EL x):∃(p:Int) (r c:Nat) (M:aU),x=(p,(r:Int),(c:Int),aG r c M)/\dO p/\r<=4096/\c<=4096/\r*c<=1048576/\de p r c M/\M=bY c (aG r c M):=by
 obtain⟨p,x⟩:=x
 obtain⟨hp,hm,ha⟩:=h
 obtain⟨r,c,M,rfl,h1,h2,h3⟩:=Em hm
 simp only at hp ha
 have e:aG r c (bY c (aG r c M))=aG r c M:=sE (j9 r c M)
 exact⟨p,r,c,bY c (aG r c M),by rw[e],hp,h1,h2,h3,nK.1 (by rw[e];exact ha),by rw[e]⟩
theorem af4 (x:Int×Int×Int×List Int) (y:(Int×Int×List Int)×List Int) (h:tv x=some y):FK ax x=some y:=by
 simp only[tv] at h
 split at h
 ·rename_i hc
  obtain⟨p,r,c,M,rfl,hp,h1,h2,h3,hM,e⟩:=ano hc
  rw[<-h,agP hp h1 h2 h3 hM]
  simp only[pD,Int.toNat_natCast,<-e]
 ·cases h
end Go.Am
end
section
namespace Go.Am
def KX:Int×Int×Int×List Int->Option Int:=fun(x:Int×Int×Int×List Int)=>if Ks x.2<=1048576 then some (if kN x.1 x.2=true then((pD x).2.1.length:Int) else -1) else none
def xq:Int×Int×Int×List Int->Option Int:=KX
def uQ (M:aU) (L:List Int):aU:=fun i t=>M i (L.getD t 0).toNat
def AG (x:Int×Int×Int×List Int):(Int×Int×List Int)×(Int×Int×List Int):=
  ((x.2.1,((pD x).2.1.length:Int),aG x.2.1.toNat (pD x).2.1.length (uQ (bY x.2.2.1.toNat x.2.2.2) (pD x).2.1)),
   (((pD x).2.1.length:Int),x.2.2.1,(aG x.2.1.toNat x.2.2.1.toNat (pD x).1).take ((pD x).2.1.length*x.2.2.1.toNat)))
def KW:Int×Int×Int×List Int->Option ((Int×Int×List Int)×(Int×Int×List Int)×Bool):=fun(x:Int×Int×Int×List Int)=>
 if Ks x.2<=1048576 then some (if kN x.1 x.2=true then((AG x).1,(AG x).2,true) else((0,0,[]),(0,0,[]),false)) else none
def tq:Int×Int×Int×List Int->Option ((Int×Int×List Int)×(Int×Int×List Int)×Bool):=KW
def Gt:ak:=[(.one,[.int .i64]),(.agg,[.int .i64,.int .i64,.list [.int .i64]])]
def R5:ak:=[(.one,[.int .i64])]
def ajK:aN:=[]
def Gk:ak:=[(.one,[.int .i64]),(.agg,[.int .i64,.int .i64,.list [.int .i64]])]
def RW:ak:=[(.agg,[.int .i64,.int .i64,.list [.int .i64]]),(.agg,[.int .i64,.int .i64,.list [.int .i64]]),(.one,[.bool])]
def ajF:aN:=[]
def Lb (NN:Nat):(Int×(Int×(Int×(List Int))))->(Option Int):=
 (fun((i0,i1,i2,l3):(Int×(Int×(Int×(List Int)))))=>
 (tr (i0,i1,i2,l3)).aa (fun b4=>
 aC (ef b4)
 (some ((-1:Int)))
 ((tv (i0,i1,i2,l3)).aa (fun((i5,i6,l7),l8)=>
 some (aI (J l8))))))
def CG (NN:Nat):(Int×(Int×(Int×(List Int))))->(Option ((Int×(Int×(List Int)))×((Int×(Int×(List Int)))×Bool))):=
 (fun((i0,i1,i2,l3):(Int×(Int×(Int×(List Int)))))=>
 (tr (i0,i1,i2,l3)).aa (fun b4=>
 aC (ef b4)
 (some (((0:Int),(0:Int),([]:List Int)),((0:Int),(0:Int),([]:List Int)),false))
 ((tv (i0,i1,i2,l3)).aa (fun((i5,i6,l7),l8)=>
 (CD (i1,aI (J l8))).aa (fun(i9,db,cB)=>
 cd ((ai 0 (J l8) (J l8)).aa (fun _=>
 (ai 0 0 (J (([]:List Int)))).aa (fun _=>
 (ai 0 0 (J (([]:List Int)))).aa (fun _=>
 (ai 0 (J l7) (J l7)).aa (fun _=>
 (ai 0 (J cB) (J cB)).aa (fun _=>
 bN NN (fun(((eZ,fN),(eE,jz,gn),(kH,g0),(gQ,jA),(qi,mI),(uA,wq),f9,fg,mL,ki,iw):((Int×Int)×((Int×(Int×(List Int)))×((Int×Int)×((Int×Int)×((Int×Int)×((Int×Int)×((List Int)×((List Int)×((List Int)×((List Int)×(List Int))))))))))))=>
 aC (bO fN eE)
 (cd ((ai 0 (J iw) (J iw)).aa (fun _=>
 (ai 0 (J iw) (J iw)).aa (fun _=>
 (ai 0 (J f9) (J f9)).aa (fun _=>
 (ai 0 (J fg) (J fg)).aa (fun _=>
 (ai 0 (J mL) (J mL)).aa (fun _=>
 (ai 0 (J ki) (J ki)).aa (fun _=>
 bN NN (fun(((rG,nk,gk,oW),(lI,jc,iy),(jd,mJ),(nZ,oY),(rH,qj),(mK,lJ),pg,iA,kL,rN,mM):((Int×(Int×(Int×Int)))×((Int×(Int×(List Int)))×((Int×Int)×((Int×Int)×((Int×Int)×((Int×Int)×((List Int)×((List Int)×((List Int)×((List Int)×(List Int))))))))))))=>
 aC (bO oW gk)
 ((fj oW (J mM)).aa (fun Pr=>
 (dv mM (aW 0 Pr)).aa (fun rI=>
 (mb ((lI,jc,iy),nk,rI)).aa (fun rJ=>
 (ai 0 (J rN) (J rN)).aa (fun _=>
 (qU ((mK,lJ,rN),nk,oW,rJ)).aa (fun mN=>
 (ai 0 (J mM) (J mM)).aa (fun _=>
 (ai 0 (J mM) (J mM)).aa (fun _=>
 (ai 0 (J pg) (J pg)).aa (fun _=>
 (ai 0 (J iA) (J iA)).aa (fun _=>
 (ai 0 (J kL) (J kL)).aa (fun _=>
 (ai 0 (J rN) (J mN)).aa (fun _=>
 some (Sum.inl ((rG,nk,gk,bS .i64 oW 1),(lI,jc,iy),(jd,mJ),(nZ,oY),(rH,qj),(mK,lJ),pg,iA,kL,mN,mM))))))))))))))
 (((ai 0 (J mM) (J mM)).aa (fun _=>
 (ai 0 (J pg) (J pg)).aa (fun _=>
 (ai 0 (J iA) (J iA)).aa (fun _=>
 (ai 0 (J kL) (J kL)).aa (fun _=>
 (ai 0 (J rN) (J rN)).aa (fun _=>
 some (Sum.inl ((nk,rG),(lI,jc,iy),(jd,mJ),(nZ,oY),(rH,qj),(mK,lJ),pg,iA,kL,rN,mM)))))))).aa (fun rP=>
 some (Sum.inr rP))))
 ((eZ,fN,aI (J iw),(0:Int)),(eE,jz,gn),(kH,g0),(gQ,jA),(qi,mI),(uA,wq),f9,fg,mL,ki,iw))))))))
 (fun((Bn,D6),(yC,I3,jD),(uE,yD),(qm,rM),(i64,D7),(yE,uF),rQ,Ei,qu,mO,mP)=>
 (ai 0 (J mP) (J mP)).aa (fun _=>
 (ai 0 (J rQ) (J rQ)).aa (fun _=>
 (ai 0 (J Ei) (J Ei)).aa (fun _=>
 (ai 0 (J qu) (J qu)).aa (fun _=>
 (ai 0 (J mO) (J mO)).aa (fun _=>
 some (Sum.inl ((D6,bS .i64 Bn 1),(yC,I3,jD),(uE,yD),(qm,rM),(i64,D7),(yE,uF),rQ,Ei,qu,mO,mP)))))))))
 (((ai 0 (J f9) (J f9)).aa (fun _=>
 (ai 0 (J fg) (J fg)).aa (fun _=>
 (ai 0 (J mL) (J mL)).aa (fun _=>
 (ai 0 (J ki) (J ki)).aa (fun _=>
 some (Sum.inl (eZ,(eE,jz,gn),(kH,g0),(gQ,jA),(qi,mI),(uA,wq),f9,fg,mL,ki))))))).aa (fun wE=>
 some (Sum.inr wE))))
 ((aI (J l8),(0:Int)),(i1,i2,l3),((0:Int),(0:Int)),((0:Int),(0:Int)),(i5,i6),(i9,db),([]:List Int),([]:List Int),l7,cB,l8)))))))
 (fun(o9,(Br,pb,l77),(sS,sT),(sU,I4),(i82,OZ),(O0,Ea),BB,yO,yP,uJ)=>
 (ib (0:Int) (c7 .i64 o9 pb) (J yP)).aa (fun(Pu,k91)=>
 (c6 yP (aW 0 Pu) k91).aa (fun l92=>
 (nF l92).aa (fun ZV=>
 (dP uJ (J uJ)).aa (fun l94=>
 (dP ZV (J ZV)).aa (fun l95=>
 some ((O0,Ea,l94),(o9,pb,l95),true))))))))))))
theorem aaj {m:Int} {x:Int×Int×List Int} (h:kN m x=true):∃(r c:Nat) (M:aU),x=((r:Int),(c:Int),aG r c M)/\dO m/\r<=64/\c<=64/\r*c<=4096/\de m r c M/\M=bY c (aG r c M)/\EL (m,x):=by
 obtain⟨r,c,M,rfl,hp,hr,hc,dM,hM⟩:=ajs h
 have e:aG r c (bY c (aG r c M))=aG r c M:=sE (j9 r c M)
 refine⟨r,c,bY c (aG r c M),by rw[e],hp,hr,hc,dM,nK.1 (by rw[e];exact nK.2 hM),by rw[e],hp,En M (by omega) (by omega) (by omega),nK.2 hM⟩
theorem Rt {m:Int} {r c:Nat} {M:aU} (e:M=bY c (aG r c M)):pD (m,(r:Int),(c:Int),aG r c M)=bK m r M c:=by
 simp only[pD,Int.toNat_natCast,<-e]
theorem afH (x:Int×Int×Int×List Int) (y:Int) (h:xq x=some y):Lb ax x=some y:=by
 obtain⟨m,x⟩:=x
 simp only[xq,KX] at h
 split at h
 ·rename_i hl
  rw[<-h]
  obtain⟨r,c,l⟩:=x
  simp only[Lb]
  rw[show tr (m,r,c,l)=some (kN m (r,c,l)) from if_pos hl,av]
  cases hm:kN m (r,c,l) with
  |false=>rfl
  |true=>
   obtain⟨r',c',M,e,hp,hr,hc,dM,hM,eM,hR⟩:=aaj hm
   rw[aR (by rfl),show tv (m,r,c,l)=some _ from if_pos hR,av]
   rfl
 ·cases h
theorem aoA {n m:Nat} (h:n<=m):ib 0 (n:Int) m=some (0,n):=by
 unfold ib
 rw[if_pos ⟨by omega,by omega,by omega⟩]
 simp
theorem apF {xs:List Int} {n:Nat} (h:n<=xs.length):c6 xs 0 n=some (xs.take n):=by
 unfold c6
 rw[if_pos (by omega)]
 rfl
theorem aaV {L:List Int} {c t:Nat} (hL:∀x∈L,0<=x/\x<(c:Int)) (ht:t<L.length):dv L t=some (((L.getD t 0).toNat:Nat):Int)/\(L.getD t 0).toNat<c:=by
 have h:=hL L[t] (List.getElem_mem ht)
 have e:L.getD t 0=L[t]:=by simp[List.getD,ht]
 rw[e]
 refine⟨?_,by omega⟩
 show L[t]? =_
 rw[List.getElem?_eq_getElem ht,Int.toNat_of_nonneg h.1]
section
variable {p:Int} {r c:Nat} {M R:aU} {L:List Int}
theorem agz (hr:r<=4096) (hc:c<=4096) (dM:r*c<=1048576) (hk:L.length<=r) (hkc:L.length<=c) (hL:∀x∈L,0<=x/\x<(c:Int)) (hm:tr (p,(r:Int),(c:Int),aG r c M)=some true) (ahy:tv (p,(r:Int),(c:Int),aG r c M)=some (((r:Int),(c:Int),aG r c R),L)):
  CG ax (p,(r:Int),(c:Int),aG r c M)=some (((r:Int),((L.length:Nat):Int),aG r L.length (uQ M L)),(((L.length:Nat):Int),(c:Int),(aG r c R).take (L.length*c)),true):=by
 have hrk:r*L.length<=r*c:=Nat.mul_le_mul (Nat.le_refl r) hkc
 have YT:L.length*c<=r*c:=Nat.mul_le_mul hk (Nat.le_refl c)
 simp only[CG,ahy,hm,av]
 rw[aR (by rfl),show aI (J L)=((L.length:Nat):Int) from rfl,alI hr (show L.length<=4096 by omega) (show r*L.length<=1048576 by omega)]
 simp only[av,cH]
 rw[show ai 0 0 (J ([]:List Int))=some () from rfl]
 simp only[av]
 rw[fF (r:=Sum.inl (((L.length:Nat):Int),((r:Int),(c:Int),aG r c M),((0:Int),(0:Int)),((0:Int),(0:Int)),((r:Int),(c:Int)),((r:Int),((L.length:Nat):Int)),([]:List Int),([]:List Int),aG r c R,aG r L.length (uQ M L))) (fun i=>((((L.length:Nat):Int),(i:Int)),((r:Int),(c:Int),aG r c M),((0:Int),(0:Int)),((0:Int),(0:Int)),((r:Int),(c:Int)),((r:Int),((L.length:Nat):Int)),([]:List Int),([]:List Int),aG r c R,aG r L.length (rS (uQ M L) i 0),L)) r ?_ ?_ ?_ (dC (by omega))]
 ·rw[g8]
  simp only
  rw[BL (by omega) (by omega),aoA (by rw[yQ];exact YT),av]
  simp only[gR]
  rw[apF (by rw[j9];exact YT),av,show nF ((aG r c R).take (L.length*c))=some _ from if_pos (by rw[List.length_take,j9];omega),av]
  simp only[ku,av]
 ·intro i hi
  simp only
  rw[aX (qw hi)]
  rw[fF (r:=Sum.inl (((i:Int),((L.length:Nat):Int)),((r:Int),(c:Int),aG r c M),((0:Int),(0:Int)),((0:Int),(0:Int)),((r:Int),(c:Int)),((r:Int),((L.length:Nat):Int)),([]:List Int),([]:List Int),aG r c R,aG r L.length (rS (uQ M L) (i+1) 0),L)) (fun t=>((((L.length:Nat):Int),(i:Int),((L.length:Nat):Int),(t:Int)),((r:Int),(c:Int),aG r c M),((0:Int),(0:Int)),((0:Int),(0:Int)),((r:Int),(c:Int)),((r:Int),((L.length:Nat):Int)),([]:List Int),([]:List Int),aG r c R,aG r L.length (rS (uQ M L) i t),L)) L.length ?_ ?_ ?_ (dC (by omega))]
  ·rw[g8];simp only[j3 (show i<=1048577 by omega)]
  ·intro t ht
   simp only
   obtain⟨h1,h2⟩:=aaV hL ht
   rw[aX (qw ht),q9 (show t<J L from ht),av]
   simp only[gR]
   rw[h1,av,qX hr hc dM hi h2,av,B8 hr (show L.length<=4096 by omega) (show r*L.length<=1048576 by omega) hi ht]
   simp only[av,AL,j3 (show t<=1048577 by omega)]
   rw[show M i (L.getD t 0).toNat=uQ M L i t from rfl,akz]
  ·simp only
   rw[aR (qv (Nat.le_refl L.length)),aky]
   try rfl
  ·rfl
 ·simp only
  rw[aR (qv (Nat.le_refl r)),akx]
  try rfl
 ·rw[akw];rfl
end
theorem agA {m:Int} {r c:Nat} {M:aU} (e:M=bY c (aG r c M)):AG (m,(r:Int),(c:Int),aG r c M)=
  (((r:Int),((bK m r M c).2.1.length:Int),aG r (bK m r M c).2.1.length (uQ M (bK m r M c).2.1)),(((bK m r M c).2.1.length:Int),(c:Int),(aG r c (bK m r M c).1).take ((bK m r M c).2.1.length*c))):=by
 simp only[AG,Rt e,Int.toNat_natCast,<-e]
theorem afz (x:Int×Int×Int×List Int) (y:(Int×Int×List Int)×(Int×Int×List Int)×Bool) (h:tq x=some y):CG ax x=some y:=by
 obtain⟨m,x⟩:=x
 simp only[tq,KW] at h
 split at h
 ·rename_i hl
  rw[<-h]
  cases hm:kN m x with
  |false=>
   obtain⟨r,c,l⟩:=x
   simp only[CG]
   rw[show tr (m,r,c,l)=some (kN m (r,c,l)) from if_pos hl,av,hm]
   rfl
  |true=>
   obtain⟨r,c,M,rfl,hp,hr,hc,dM,hM,eM,hR⟩:=aaj hm
   have hI:=oq hp hM (r:=r) (c:=c) c
   rw[agA eM]
   refine agz (R:=(bK m r M c).1) (L:=(bK m r M c).2.1) (by omega) (by omega) (by omega) hI.l hI.lj hI.e ?_ ?_
   ·rw[<-hm]
    exact if_pos hl
   ·simp only[tv]
    rw[if_pos hR]
    simp only[Rt eM,Int.toNat_natCast]
 ·cases h
end Go.Am
end
section
namespace Go.Am
abbrev bh:=Int×Int×Int×List Int
def dZ:bh:=(0,0,0,[])
def abX (s:bh):aU:=bY s.2.2.1.toNat s.2.2.2
def w5 (s:bh) (v:Nat):aU:=fun i j=>abX s (i*s.2.1.toNat+v) j
def dk (l:List bh):Nat->Nat
 |0=>1
 |i+1=>(l.getD i dZ).2.2.1.toNat
def uY (m:Int) (R:Nat->Int) (s:bh) (v:Nat):Nat->Int:=fun j=>lB m R (fun t=>w5 s v t j) s.1.toNat
def qJ (m:Int) (l:List bh) (ix:List Int):Nat->(Nat->Int)
 |0=>fun _=>1
 |i+1=>uY m (qJ m l ix i) (l.getD i dZ) (ix.getD i 0).toNat
def m5 (m:Int) (l:List bh) (ix:List Int):Int:=qJ m l ix l.length 0
def E2 (s:bh):Prop:=(0<=s.1/\s.1<=64)/\(0<=s.2.1/\s.2.1<=64)/\(0<=s.2.2.1/\s.2.2.1<=64)/\(s.2.2.2.length:Int)=s.1*s.2.1*s.2.2.1
instance (s:bh):Decidable (E2 s):=by unfold E2;infer_instance
def n3 (D ix:List Int):Bool:=decide (ix.length=D.length)&&decide (∀i,i<D.length->0<=ix.getD i 0/\ix.getD i 0<D.getD i 0)
def mg (l:List bh):List Int:=(l.take (l.length - 1)).map fun s=>s.2.2.1
def xt:Int×List bh->Option (List Int):=KY
def xm:Int×List bh->Option (List Int):=fun x=>if xf x<=1048576 then some (if e8 x=true then mg x.2 else[]) else none
def zK:List Int×List Int->Option Bool:=fun x=>if x.1.length<=1048576/\x.2.length<=1048576 then some (n3 x.1 x.2) else none
def xr:bh×Int×Int×Int->Option Int:=fun x=>
 if E2 x.1/\(0<=x.2.1/\x.2.1<x.1.1)/\(0<=x.2.2.1/\x.2.2.1<x.1.2.1)/\(0<=x.2.2.2/\x.2.2.2<x.1.2.2.1) then some (w5 x.1 x.2.2.1.toNat x.2.1.toNat x.2.2.2.toNat) else none
def VJ:(Int×List bh)×List Int->Option Int:=fun x=>if e8 x.1=true/\n3 (bf x.1.2) x.2=true then some (m5 x.1.1 x.1.2 x.2) else none
def tu:(Int×List bh)×List Int->Option Int:=VJ
def KT:(Int×List bh)×List Int->Option Int:=fun x=>
 if xf x.1<=1048576/\x.2.length<=1048576 then some (if e8 x.1=true/\n3 (bf x.1.2) x.2=true then m5 x.1.1 x.1.2 x.2 else -1) else none
def xn:(Int×List bh)×List Int->Option Int:=KT
def GA:ak:=[(.agg,[.int .i64,.list [.int .i64,.int .i64,.int .i64,.list [.int .i64]]])]
def Sc:ak:=[(.one,[.list [.int .i64]])]
def ajR:aN:=[]
def Ge:ak:=[(.agg,[.int .i64,.list [.int .i64,.int .i64,.int .i64,.list [.int .i64]]])]
def RQ:ak:=[(.one,[.list [.int .i64]])]
def ajA:aN:=[]
def GL:ak:=[(.one,[.list [.int .i64]]),(.one,[.list [.int .i64]])]
def Sl:ak:=[(.one,[.bool])]
def aj0:aN:=[]
def Gv:ak:=[(.agg,[.int .i64,.int .i64,.int .i64,.list [.int .i64]]),(.one,[.int .i64]),(.one,[.int .i64]),(.one,[.int .i64])]
def R7:ak:=[(.one,[.int .i64])]
def ajM:aN:=[]
def GO:ak:=[(.agg,[.int .i64,.list [.int .i64,.int .i64,.int .i64,.list [.int .i64]]]),(.one,[.list [.int .i64]])]
def So:ak:=[(.one,[.int .i64])]
def aj2:aN:=[]
def Gf:ak:=[(.agg,[.int .i64,.list [.int .i64,.int .i64,.int .i64,.list [.int .i64]]]),(.one,[.list [.int .i64]])]
def RR:ak:=[(.one,[.int .i64])]
def ajB:aN:=[]
def VK (NN:Nat):(Int×(List (Int×(Int×(Int×(List Int))))))->(Option (List Int)):=
 (fun((i0,l1):(Int×(List (Int×(Int×(Int×(List Int)))))))=>
 cd ((ai 0 0 (J (([]:List Int)))).aa (fun _=>
 bN NN (fun(((l2,i3,i4),l5):(((List (Int×(Int×(Int×(List Int)))))×(Int×Int))×(List Int)))=>
 aC (bO i4 i3)
 ((dK l2 i4).aa (fun(i6,i7,i8,l9)=>
 (ai 0 (J l5) (J l5)).aa (fun _=>
 (c6 ((i7::([]:List Int))) 0 1).aa (fun ff=>
 (jt (aW (J l5) (J ff)) 8).aa (fun _=>
 (ai 0 (aW (J l5) (J ff)) (J (dt l5 ff))).aa (fun _=>
 some (Sum.inl ((l2,i3,bS .i64 i4 1),dt l5 ff))))))))
 (((ai 0 (J l5) (J l5)).aa (fun _=>
 some (Sum.inl l5))).aa (fun cB=>
 some (Sum.inr cB))))
 ((l1,aI (J l1),(0:Int)),([]:List Int))))
 (fun dz=>
 (dP dz (J dz)).aa (fun eK=>
 some eK)))
def K4 (NN:Nat):(Int×(List (Int×(Int×(Int×(List Int))))))->(Option (List Int)):=
 (fun((i0,l1):(Int×(List (Int×(Int×(Int×(List Int)))))))=>
 (pK (i0,l1)).aa (fun b2=>
 aC (ef b2)
 (some (([]:List Int)))
 ((ib (0:Int) (eG .i64 (aI (J l1)) (1:Int)) (J l1)).aa (fun(k3,k4)=>
 cd ((ai 0 0 (J (([]:List Int)))).aa (fun _=>
 bN NN (fun(((l5,i6,i7),l8):(((List (Int×(Int×(Int×(List Int)))))×(Int×Int))×(List Int)))=>
 aC (bO i7 i6)
 ((dK l5 i7).aa (fun(i9,db,eS,dz)=>
 (ai 0 (J l8) (J l8)).aa (fun _=>
 (c6 ((eS::([]:List Int))) 0 1).aa (fun eK=>
 (jt (aW (J l8) (J eK)) 8).aa (fun _=>
 (ai 0 (aW (J l8) (J eK)) (J (dt l8 eK))).aa (fun _=>
 some (Sum.inl ((l5,i6,bS .i64 i7 1),dt l8 eK))))))))
 (((ai 0 (J l8) (J l8)).aa (fun _=>
 some (Sum.inl l8))).aa (fun gm=>
 some (Sum.inr gm))))
 ((gu l1 k3 k4,aI (J (gu l1 k3 k4)),(0:Int)),([]:List Int))))
 (fun eU=>
 (dP eU (J eU)).aa (fun gn=>
 some gn))))))
def Lo (NN:Nat):((List Int)×(List Int))->(Option Bool):=
 (fun((l0,l1):((List Int)×(List Int)))=>
 aC (hZ (aI (J l1)) (aI (J l0)))
 (some false)
 (cd (bN NN (fun((l2,l3,i4,i5):((List Int)×((List Int)×(Int×Int))))=>
 aC (bO i5 i4)
 ((dK l3 i5).aa (fun i6=>
 aC (bO i6 (0:Int))
 (some (Sum.inr (Sum.inr false)))
 ((dK l2 i5).aa (fun i7=>
 aC (gC i7 i6)
 (some (Sum.inr (Sum.inr false)))
 (some (Sum.inl (l2,l3,i4,bS .i64 i5 1)))))))
 (some (Sum.inr (Sum.inl ()))))
 (l0,l1,aI (J l1),(0:Int)))
 (fun _=>
 some true)))
def Ld (NN:Nat):((Int×(Int×(Int×(List Int))))×(Int×(Int×Int)))->(Option Int):=
 (fun(((i0,i1,i2,l3),i4,i5,i6):((Int×(Int×(Int×(List Int))))×(Int×(Int×Int))))=>
 (dK l3 (bS .i64 (c7 .i64 (bS .i64 (c7 .i64 i4 i1) i5) i2) i6)).aa (fun i7=>
 some i7))
def Lr (NN:Nat):((Int×(List (Int×(Int×(Int×(List Int))))))×(List Int))->(Option Int):=
 (fun(((i0,l1),l2):((Int×(List (Int×(Int×(Int×(List Int))))))×(List Int)))=>
 cd ((ai 0 1 (J (((1:Int)::([]:List Int))))).aa (fun _=>
 bN NN (fun(((l3,l4,i5,i6),(i7,l8),l9):(((List Int)×((List (Int×(Int×(Int×(List Int)))))×(Int×Int)))×((Int×(List (Int×(Int×(Int×(List Int))))))×(List Int))))=>
 aC (bO i6 i5)
 (cd ((dK l4 i6).aa (fun(db,eS,eZ,eK)=>
 (n9 eZ eZ 8).aa (fun Bx=>
 cd ((ai 0 (J l9) (J l9)).aa (fun _=>
 (ai 0 Bx (J (dT Bx (0:Int)))).aa (fun _=>
 bN NN (fun(((eU,iK,fP,g0,gQ,jA,qi),(mI,jU),(wq,oV,uB,mL),ki,iw):(((List Int)×(Int×((List (Int×(Int×(Int×(List Int)))))×(Int×(Int×(Int×Int))))))×((Int×(List (Int×(Int×(Int×(List Int))))))×((Int×(Int×(Int×(List Int))))×((List Int)×(List Int))))))=>
 aC (bO qi jA)
 (cd ((ai 0 (J ki) (J ki)).aa (fun _=>
 (ai 0 (J iw) (J iw)).aa (fun _=>
 (ai 0 (J ki) (J ki)).aa (fun _=>
 bN NN (fun(((kj,nk,gk,jf,lI,jc,uD,jd,mJ,nZ),(oY,fy),(qj,mK,lJ,pg),iA,kL):(((List Int)×(Int×(Int×((List (Int×(Int×(Int×(List Int)))))×(Int×(Int×(Int×(Int×(Int×Int)))))))))×((Int×(List (Int×(Int×(Int×(List Int))))))×((Int×(Int×(Int×(List Int))))×((List Int)×(List Int))))))=>
 aC (bO nZ mJ)
 ((fj nZ (J iA)).aa (fun k48=>
 (dv iA (aW 0 k48)).aa (fun sQ=>
 (fj gk (J kL)).aa (fun Pr=>
 (dv kL (aW 0 Pr)).aa (fun rI=>
 (dK kj nk).aa (fun rJ=>
 (xr ((qj,mK,lJ,pg),nZ,rJ,gk)).aa (fun rK=>
 (jH (bS .i64 rI (c7 .i64 sQ rK)) oY).aa (fun o8=>
 (fj gk (J kL)).aa (fun Ps=>
 (dv kL (aW 0 Ps)).aa (fun D6=>
 (ai 0 (J iA) (J iA)).aa (fun _=>
 (ai 0 (J kL) (J (bW kL (aW 0 Ps) o8))).aa (fun _=>
 (ai 0 (J iA) (J iA)).aa (fun _=>
 some (Sum.inl ((kj,nk,gk,jf,lI,jc,uD,jd,mJ,bS .i64 nZ 1),(oY,fy),(qj,mK,lJ,pg),iA,bW kL (aW 0 Ps) o8)))))))))))))))
 (((ai 0 (J iA) (J iA)).aa (fun _=>
 (ai 0 (J kL) (J kL)).aa (fun _=>
 some (Sum.inl ((jd,kj,nk,jf,lI,jc,uD),(oY,fy),(qj,mK,lJ,pg),iA,kL))))).aa (fun iC=>
 some (Sum.inr iC))))
 ((eU,iK,qi,fP,g0,gQ,jA,qi,aI (J ki),(0:Int)),(mI,jU),(wq,oV,uB,mL),ki,iw)))))
 (fun((I3,jD,uE,wC,qm,rM,i64),(D7,ph),(uF,D8,Bp,qu),mO,mP)=>
 (ai 0 (J mO) (J mO)).aa (fun _=>
 (ai 0 (J mP) (J mP)).aa (fun _=>
 some (Sum.inl ((jD,uE,wC,qm,rM,i64,bS .i64 I3 1),(D7,ph),(uF,D8,Bp,qu),mO,mP))))))
 (((ai 0 (J iw) (J iw)).aa (fun _=>
 some (Sum.inl ((gQ,eU,fP,g0),(mI,jU),iw)))).aa (fun wE=>
 some (Sum.inr wE))))
 ((l3,i6,l4,i5,i6,aI Bx,(0:Int)),(i7,l8),(db,eS,eZ,eK),l9,dT Bx (0:Int)))))
 (fun((o9,Ej,Pz,sR),(sS,Jj),BA)=>
 (ai 0 (J BA) (J BA)).aa (fun _=>
 some (Sum.inl ((o9,Ej,Pz,sR),(sS,Jj),BA)))))))
 (fun((I4,iL,lS,O0),(Ea,BB),yO)=>
 (ai 0 (J yO) (J yO)).aa (fun _=>
 some (Sum.inl ((iL,lS,O0,bS .i64 I4 1),(Ea,BB),yO)))))
 (((ai 0 (J l9) (J l9)).aa (fun _=>
 some (Sum.inl l9))).aa (fun yP=>
 some (Sum.inr yP))))
 ((l2,l1,aI (J l1),(0:Int)),(i0,l1),((1:Int)::([]:List Int)))))
 (fun uJ=>
 (fj (0:Int) (J uJ)).aa (fun Pu=>
 (dv uJ (aW 0 Pu)).aa (fun Eb=>
 some Eb))))
def K5 (NN:Nat):((Int×(List (Int×(Int×(Int×(List Int))))))×(List Int))->(Option Int):=
 (fun(((i0,l1),l2):((Int×(List (Int×(Int×(Int×(List Int))))))×(List Int)))=>
 (pK (i0,l1)).aa (fun b3=>
 aC (ef b3)
 (some ((-1:Int)))
 ((xt (i0,l1)).aa (fun l4=>
 (c6 l4 0 (J l4)).aa (fun l5=>
 (zK (l5,l2)).aa (fun b6=>
 aC (ef b6)
 (some ((-1:Int)))
 ((tu ((i0,l1),l2)).aa (fun i7=>
 some i7))))))))
def bd (b:Int) (l:List bh):Nat->Int
 |0=>b
 |k+1=>(l.getD k dZ).2.2.1
theorem L8 {m:Int}:∀(l:List bh) (i:Nat) (b c:Int),eI (mr m) i b l=some c↔((∀k,k<l.length->mW m (l.getD k dZ)=true/\(l.getD k dZ).1=bd b l k)/\c=bd b l l.length)
 |[],i,b,c=>by
  simp only[eI,bd,List.length_nil]
  exact⟨fun h=>⟨fun k hk=>absurd hk (Nat.not_lt_zero k),(Option.some.inj h).symm⟩,fun h=>by rw[h.2]⟩
 |s::l,i,b,c=>by
  have cf:∀k,bd b (s::l) (k+1)=bd s.2.2.1 l k:=fun k=>by cases k<;>rfl
  rw[eI]
  by_cases hs:mW m s=true/\s.1=b
  ·rw[show mr m i b s=some s.2.2.1 from if_pos hs]
   try simp only
   rw[L8 l (i+1) s.2.2.1 c]
   constructor
   ·rintro⟨h1,h2⟩
    refine⟨fun k hk=>?_,h2.trans (cf _).symm⟩
    cases k with
    |zero=>exact hs
    |succ k=>rw[cf];exact h1 k (by simpa using hk)
   ·rintro⟨h1,h2⟩
    exact⟨fun k hk=>by rw[<-cf];exact h1 (k+1) (by simpa using hk),h2.trans (cf _)⟩
  ·rw[show mr m i b s=none from if_neg hs]
   constructor
   ·intro h;cases h
   ·rintro⟨h1,_⟩
    exact absurd (h1 0 (by simp)) hs
theorem LW (l:List bh) (k:Nat):(bd 1 l k).toNat=dk l k:=by cases k<;>rfl
theorem vG {m:Int} {l:List bh} (h:e8 (m,l)=true):dO m/\(1<=l.length/\l.length<=8)/\cV (bf l)<=4096/\dk l l.length=1/\
  ∀i,i<l.length->∃(p:Nat) (M:aU),l.getD i dZ=((dk l i:Int),(p:Int),(dk l (i+1):Int),aG (dk l i*p) (dk l (i+1)) M)/\dk l i<=32/\dk l (i+1)<=32/\(1<=p/\p<=8)/\
   de m (dk l i*p) (dk l (i+1)) M/\M=bY (dk l (i+1)) (aG (dk l i*p) (dk l (i+1)) M):=by
 simp only[e8,Bool.and_eq_true,decide_eq_true_eq] at h
 obtain⟨hp,hl,h⟩:=h
 cases hf:eI (mr m) 0 1 l with
 |none=>rw[hf] at h;cases h
 |some c=>
  rw[hf] at h
  simp only[Bool.and_eq_true,decide_eq_true_eq] at h
  obtain⟨h1,h2⟩:=(L8 l 0 1 c).1 hf
  have hm:=eF hp
  refine⟨hm,hl,h.2,by rw[<-LW,<-h2,h.1];rfl,fun i hi=>?_⟩
  obtain⟨s1,s2⟩:=h1 i hi
  have e2:(l.getD i dZ).2.2.1=bd 1 l (i+1):=rfl
  generalize hs:l.getD i dZ=s at*
  obtain⟨a,p,c',d⟩:=s
  obtain⟨t1,t2,t3,t4,t5⟩:=Uq s1
  simp only at s2 e2
  obtain⟨p,rfl⟩:=fz (show 0<=p by omega)
  have ea:a=(dk l i:Int):=by rw[<-LW,<-s2];omega
  have ec:c'=(dk l (i+1):Int):=by rw[<-LW,<-e2];omega
  subst ea ec
  have el:d.length=dk l i*p*dk l (i+1):=by
   have:((dk l i:Int)*(p:Int)*(dk l (i+1):Int))=((dk l i*p*dk l (i+1):Nat):Int):=by norm_cast
   rw[this] at t4;exact_mod_cast t4
  have eg:=sE (r:=dk l i*p) (c:=dk l (i+1)) el
  refine⟨p,bY (dk l (i+1)) d,by rw[eg],by omega,by omega,by omega,?_,by rw[eg]⟩
  rw[<-nK,eg]
  intro x hx
  exact of_decide_eq_true (List.all_eq_true.1 t5 x hx)
theorem HX (l:List bh) (i:Nat):(bf l).getD i 0=(l.getD i dZ).2.1:=by
 simp only[bf,List.getD_eq_getElem?_getD,List.getElem?_map]
 cases l[i]? <;>rfl
theorem gy (l:List bh):(bf l).length=l.length:=by simp[bf]
theorem aow {s:bh} (h:E2 s):∃(a p c:Nat) (M:aU),s=((a:Int),(p:Int),(c:Int),aG (a*p) c M)/\a<=64/\p<=64/\c<=64/\M=bY c (aG (a*p) c M):=by
 obtain⟨a,p,c,d⟩:=s
 obtain⟨h1,h2,h3,h4⟩:=h
 simp only at h1 h2 h3 h4
 obtain⟨a,rfl⟩:=fz h1.1
 obtain⟨p,rfl⟩:=fz h2.1
 obtain⟨c,rfl⟩:=fz h3.1
 have el:d.length=a*p*c:=by
  have:((a:Int)*(p:Int)*(c:Int))=((a*p*c:Nat):Int):=by norm_cast
  rw[this] at h4;exact_mod_cast h4
 have eg:=sE (r:=a*p) (c:=c) el
 exact⟨a,p,c,bY c d,by rw[eg],by omega,by omega,by omega,by rw[eg]⟩
theorem aox {a p c:Nat} (M:aU) (ha:a<=64) (hp:p<=64) (hc:c<=64):E2 ((a:Int),(p:Int),(c:Int),aG (a*p) c M):=by
 refine⟨⟨by omega,by show(a:Int)<=64;omega⟩,⟨by show(0:Int)<=p;omega,by show(p:Int)<=64;omega⟩,⟨by show(0:Int)<=c;omega,by show(c:Int)<=64;omega⟩,?_⟩
 simp only[j9];norm_cast
theorem Ur {a p c:Nat} {M:aU} (e:M=bY c (aG (a*p) c M)) (v:Nat):w5 ((a:Int),(p:Int),(c:Int),aG (a*p) c M) v=fun i j=>M (i*p+v) j:=by
 funext i j
 simp only[w5,abX,Int.toNat_natCast]
 rw[<-e]
theorem afJ (x:bh×Int×Int×Int) (y:Int) (h:xr x=some y):Ld ax x=some y:=by
 obtain⟨s,i,v,j⟩:=x
 simp only[xr] at h
 split at h
 ·rename_i hc
  obtain⟨hs,hi,hv,hj⟩:=hc
  obtain⟨a,p,c,M,rfl,ha,hp,hc,eM⟩:=aow hs
  obtain⟨i,rfl⟩:=fz hi.1
  obtain⟨v,rfl⟩:=fz hv.1
  obtain⟨j,rfl⟩:=fz hj.1
  rw[<-h,Ur eM]
  simp only[Int.toNat_natCast,Ld]
  have hi':i<a:=by have:=hi.2;simp only at this;omega
  have fE:v<p:=by have:=hv.2;simp only at this;omega
  have ir:j<c:=by have:=hj.2;simp only at this;omega
  have hk:=uG hi' fE
  have hap:a*p<=64*64:=Nat.mul_le_mul ha hp
  rw[I5 (by omega) (by omega) (by omega),I5 (by omega) (by omega) (by omega),Yj M hk ir,av]
 ·cases h
theorem aov {a p c i v j:Nat} {M:aU} (ha:a<=64) (hp:p<=64) (hc:c<=64) (e:M=bY c (aG (a*p) c M)) (hi:i<a) (hv:v<p) (hj:j<c):
  xr (((a:Int),(p:Int),(c:Int),aG (a*p) c M),(i:Int),(v:Int),(j:Int))=some (M (i*p+v) j):=by
 simp only[xr]
 rw[if_pos ⟨aox M ha hp hc,by first|omega|(simp only;omega),by first|omega|(simp only;omega),by first|omega|(simp only;omega)⟩,Ur e]
 simp only[Int.toNat_natCast]
def bP (n:Nat) (f:Nat->Int):List Int:=(List.range n).map f
theorem fR (n:Nat) (f:Nat->Int):(bP n f).length=n:=by simp[bP]
theorem mT {n j:Nat} (f:Nat->Int) (h:j<n):(bP n f)[j]? =some (f j):=by simp[bP,List.getElem?_range h]
theorem jl {n:Nat} {f g:Nat->Int} (h:∀j,j<n->f j=g j):bP n f=bP n g:=List.map_congr_left fun j hj=>h j (List.mem_range.1 hj)
theorem EO {n j:Nat} (f:Nat->Int) (x:Int):bW (bP n f) j x=bP n (fun q=>if q=j then x else f q):=by
 unfold bW
 apply List.ext_getElem?
 intro k
 rw[List.getElem?_set,fR]
 by_cases hk:k<n
 ·rw[mT _ hk,mT _ hk]
  by_cases e:j=k
  ·subst e;simp[hk]
  ·rw[if_neg e];simp[show¬k=j from fun h=>e h.symm]
 ·rw[List.getElem?_eq_none (by rw[fR];omega),List.getElem?_eq_none (by rw[fR];omega)]
  by_cases e:j=k
  ·subst e;simp[hk]
  ·simp[e]
theorem pi (n:Nat) (f:Nat->Int):J (bP n f)=n:=fR n f
theorem RH (n:Nat) (x:Int):dT n x=bP n (fun _=>x):=by
 unfold dT bP
 rw[List.map_const',List.length_range]
theorem nR (n:Nat) (f g:Nat->Int):ai 0 (J (bP n f)) (J (bP n g))=some ():=by rw[pi,pi];exact cH n
theorem Ap {n j:Nat} (f:Nat->Int) (h:j<n):fj (j:Int) (J (bP n f))=some j:=q9 (by rw[pi];exact h)
theorem vO {n j:Nat} (f:Nat->Int) (h:j<n):dv (bP n f) j=some (f j):=mT f h
theorem anB {m:Int} (hm:dO m) (l:List bh) (ix:List Int):∀i j,fk m (qJ m l ix i j)
 |0,j=>⟨by show(0:Int)<=1;omega,by have:=hm.1;show(1:Int)<m;omega⟩
 |i+1,j=>Mv hm _ _ _
theorem ahT {D ix:List Int} (h:n3 D ix=true):ix.length=D.length/\∀i,i<D.length->0<=ix.getD i 0/\ix.getD i 0<D.getD i 0:=by
 simp only[n3,Bool.and_eq_true,decide_eq_true_eq] at h
 exact h
theorem aoy {m:Int} {l:List bh} {ix:List Int} (h:e8 (m,l)=true) (hx:n3 (bf l) ix=true) {i:Nat} (hi:i<l.length):
  ∃(p v:Nat) (M:aU),l[i]? =some ((dk l i:Int),(p:Int),(dk l (i+1):Int),aG (dk l i*p) (dk l (i+1)) M)/\ix[i]? =some (v:Int)/\v<p/\dk l i<=32/\dk l (i+1)<=32/\p<=8/\
   de m (dk l i*p) (dk l (i+1)) M/\M=bY (dk l (i+1)) (aG (dk l i*p) (dk l (i+1)) M)/\qJ m l ix (i+1)=fun j=>lB m (qJ m l ix i) (fun t=>M (t*p+v) j) (dk l i):=by
 obtain⟨_,_,_,_,hs⟩:=vG h
 obtain⟨p,M,e,h1,h2,h3,h4,h5⟩:=hs i hi
 obtain⟨k1,k2⟩:=ahT hx
 have hk:=k2 i (by rw[gy];exact hi)
 rw[HX,e] at hk
 simp only at hk
 obtain⟨v,hv⟩:=fz hk.1
 have eY:i<ix.length:=by rw[k1,gy];exact hi
 refine⟨p,v,M,?_,?_,by omega,h1,h2,h3.2,h4,h5,?_⟩
 ·rw[getD_some dZ hi,e]
 ·rw[getD_some 0 eY,hv]
 ·funext j
  simp only[qJ,uY,e,hv,Int.toNat_natCast]
  rw[Ur h5]
theorem anH {m:Int} {a p c v:Nat} {M:aU} (h:de m (a*p) c M) (hv:v<p) {t j:Nat} (ht:t<a) (hj:j<c):fk m (M (t*p+v) j):=h _ (uG ht hv) j hj
def mZ (R':Nat->Int) (j:Nat) (s:Int):Nat->Int:=fun q=>if q<j then R' q else if q=j then s else 0
theorem af0 (x:(Int×List bh)×List Int) (y:Int) (h:tu x=some y):Lr ax x=some y:=by
 obtain⟨⟨m,l⟩,ix⟩:=x
 simp only[tu,VJ] at h
 split at h
 ·rename_i hc
  obtain⟨hc,hx⟩:=hc
  rw[<-h]
  obtain⟨hm,hl,_,hb,_⟩:=vG hc
  simp only[Lr,m5]
  rw[show ai 0 1 (J [(1:Int)])=some () from rfl,av]
  rw[fF (fun i=>((ix,l,aI (J l),(i:Int)),(m,l),bP (dk l i) (qJ m l ix i))) (r:=Sum.inl (bP 1 (qJ m l ix l.length))) l.length ?_ ?_ ?_ (dC (by omega))]
  ·rw[g8]
   try simp only
   rw[show(0:Int)=((0:Nat):Int) from rfl,Ap _ (by omega),av,gR,vO _ (by omega),av]
  ·intro i hi
   obtain⟨p,v,M,e1,e2,hv,h1,h2,h3,h4,h5,h6⟩:=aoy hc hx hi
   try simp only
   rw[aX (BG hi),dY,e1,av]
   try simp only
   generalize hR:qJ m l ix i=R at*
   generalize vS:qJ m l ix (i+1)=R' at*
   generalize ha:dk l i=a at*
   generalize IF:dk l (i+1)=c at*
   have agY:∀j,fk m (R j):=fun j=>by rw[<-hR];exact anB hm l ix i j
   rw[show n9 (c:Int) (c:Int) 8=some c from yT (n:=c) (by simp only[dF];omega),av]
   simp only[cH,av,show ai 0 c (J (dT c (0:Int)))=some () from by rw[PH];exact cH c]
   rw[fF (fun j=>((ix,(i:Int),l,aI (J l),(i:Int),(c:Int),(j:Int)),(m,l),((a:Int),(p:Int),(c:Int),aG (a*p) c M),bP a R,bP c (mZ R' j 0))) (r:=Sum.inl (((i:Int),ix,l,aI (J l)),(m,l),bP c R')) c ?_ ?_ ?_ (dC (by omega))]
   ·rw[g8]
    try simp only[nR,av]
    rw[g8]
    simp only[nR,av,j3 (show i<=1048577 by omega)]
   ·intro j hj
    try simp only
    rw[aX (qw hj)]
    try simp only[nR,av]
    rw[fF (fun t=>((ix,(i:Int),(j:Int),l,aI (J l),(i:Int),(c:Int),(j:Int),aI (J (bP a R)),(t:Int)),(m,l),((a:Int),(p:Int),(c:Int),aG (a*p) c M),bP a R,bP c (mZ R' j (lB m R (fun t=>M (t*p+v) j) t))))
     (r:=Sum.inl (((j:Int),ix,(i:Int),l,aI (J l),(i:Int),(c:Int)),(m,l),((a:Int),(p:Int),(c:Int),aG (a*p) c M),bP a R,bP c (mZ R' (j+1) 0))) a ?_ ?_ ?_ (dC (by omega))]
    ·rw[g8]
     simp only[nR,av,j3 (show j<=1048577 by omega)]
    ·intro t ht
     try simp only
     rw[aX (by rw[pi];exact qw ht),Ap _ ht,av,gR,vO _ ht,av,Ap _ hj,av,gR,vO _ hj,av,dY,e2,av,aov (by omega) (by omega) (by omega) h5 ht hv hj,av]
     have ej:mZ R' j (lB m R (fun t=>M (t*p+v) j) t) j=lB m R (fun t=>M (t*p+v) j) t:=by simp[mZ]
     rw[ej,aaf hm ((Mv hm _ _ t).s hm) (agY t).le (anH h4 hv ht hj).le,av]
     have es:bW (bP c (mZ R' j (lB m R (fun t=>M (t*p+v) j) t))) j ((lB m R (fun t=>M (t*p+v) j) t+R t*M (t*p+v) j)%m)=bP c (mZ R' j (lB m R (fun t=>M (t*p+v) j) (t+1))):=by
      rw[EO]
      refine jl fun q _=>?_
      simp only[mZ,lB]
      by_cases e:q=j
      ·subst e;simp
      ·simp[e]
     rw[av,gR,vO _ hj,av,es]
     simp only[nR,av,j3 (show t<=1048577 by omega)]
    ·try simp only
     rw[aR (by rw[pi];exact qv (Nat.le_refl a))]
     try simp only[nR,av]
     have ee:bP c (mZ R' j (lB m R (fun t=>M (t*p+v) j) a))=bP c (mZ R' (j+1) 0):=by
      refine jl fun q _=>?_
      simp only[mZ,h6]
      by_cases e:q<j
      ·simp[e,show q<j+1 by omega]
      ·by_cases e2:q=j
       ·subst e2;simp
       ·simp[e,e2,show¬q<j+1 by omega]
     rw[ee]
    ·rfl
   ·try simp only
    rw[aR (qv (Nat.le_refl c))]
    try simp only[nR,av]
    rw[show bP c (mZ R' c 0)=bP c R' from jl fun q hq=>by simp[mZ,hq]]
   ·rw[RH,show bP c (fun _=>0)=bP c (mZ R' 0 0) from jl fun q _=>by simp[mZ]]
    rfl
  ·try simp only
   rw[aR (uL l),hb]
   try simp only[nR,av]
  ·rfl
 ·cases h
theorem X7 {α:Type} (P:Nat->α->Bool) (d:α):∀(l:List α) (i:Nat),eI (fun i (_:Unit) a=>if P i a=true then some () else none) i () l=if(∀k,k<l.length->P (i+k) (l.getD k d)=true) then some () else none
 |[],i=>by simp[eI]
 |a::l,i=>by
  rw[eI]
  by_cases h:P i a=true
  ·rw[if_pos h]
   try simp only
   rw[X7 P d l (i+1)]
   have:(∀k,k<l.length->P (i+1+k) (l.getD k d)=true)↔(∀k,k<(a::l).length->P (i+k) ((a::l).getD k d)=true):=by
    constructor
    ·intro h1 k hk
     cases k with
     |zero=>exact h
     |succ k=>have:=h1 k (by simpa using hk);rw[show i+(k+1)=i+1+k by omega];exact this
    ·intro h1 k hk
     have:=h1 (k+1) (by simpa using hk)
     rw[show i+(k+1)=i+1+k by omega] at this
     exact this
   by_cases hc:∀k,k<l.length->P (i+1+k) (l.getD k d)=true
   ·rw[if_pos hc,if_pos (this.1 hc)]
   ·rw[if_neg hc,if_neg (fun h2=>hc (this.2 h2))]
  ·rw[if_neg h,if_neg (fun h1=>h (h1 0 (by simp)))]
theorem afO (x:Int×List (Int×Int×Int×List Int)) (y:List Int) (h:xt x=some y):VK ax x=some y:=by
 have h0:=agt x y h
 exact h0
theorem ahS {D ix:List Int} (hl:ix.length=D.length):n3 D ix=decide (∀k,k<ix.length->decide (0<=ix.getD k 0/\ix.getD k 0<D.getD (0+k) 0)=true):=by
 rw[n3,decide_eq_true hl,Bool.true_and,<-hl]
 simp only[decide_eq_true_eq,Nat.zero_add]
theorem afX (x:List Int×List Int) (y:Bool) (h:zK x=some y):Lo ax x=some y:=by
 obtain⟨D,ix⟩:=x
 simp only[zK] at h
 split at h
 ·rename_i hc
  obtain⟨h1,h2⟩:=hc
  rw[<-h]
  simp only[Lo]
  by_cases hl:ix.length=D.length
  ·rw[aR (Es (by simp only[nl,hl])),ahS hl]
   rw[aaa ix (fun(_:Unit) i=>(D,ix,aI (J ix),(i:Int))) (fun _ _=>True) (fun i _ v=>if decide (0<=v/\v<D.getD i 0)=true then some () else none) (Sum.inr false) (fun _=>Sum.inl ()) ?_ ?_ ?_ (s:=()) trivial ?_ (dC (by omega))]
   ·rw[X7 (fun i v=>decide (0<=v/\v<D.getD i 0)) 0]
    by_cases hk:∀k,k<ix.length->decide (0<=ix.getD k 0/\ix.getD k 0<D.getD (0+k) 0)=true
    ·rw[if_pos hk,decide_eq_true hk];rfl
    ·rw[if_neg hk,decide_eq_false hk];rfl
   all_goals try simp only
   ·intro i _ v hv _
    have hi:=wG hv
    rw[aX (uM hv),dY,hv,av]
    by_cases q1:v<0
    ·rw[aX (dc q1),if_neg (by simp only[decide_eq_true_eq];omega)]
    rw[aR (cZ (by omega)),dY,getD_some 0 (show i<D.length by omega),av]
    by_cases q2:D.getD i 0<=v
    ·rw[aX (uK q2),if_neg (by simp only[decide_eq_true_eq];omega)]
    ·rw[aR (wF (by omega)),if_pos (by simp only[decide_eq_true_eq];omega),BP hv (by omega)]
   ·intros;trivial
   ·intro _ _
    rw[aR (uL ix)]
   ·rfl
  ·rw[aX (Et (by simp only[nl];omega)),n3,decide_eq_false hl];rfl
 ·cases h
theorem afv (x:(Int×List bh)×List Int) (y:Int) (h:xn x=some y):K5 ax x=some y:=by
 obtain⟨⟨m,l⟩,ix⟩:=x
 simp only[xn,KT] at h
 split at h
 ·rename_i hc
  obtain⟨hs,hx⟩:=hc
  rw[<-h]
  obtain⟨hlen,cX⟩:=Kr hs
  simp only[K5]
  rw[show pK (m,l)=some (e8 (m,l)) from if_pos hs,av]
  cases hk:e8 (m,l) with
  |false=>rw[aX (by rfl),if_neg (by simp)]
  |true=>
   rw[aR (by rfl),show xt (m,l)=some (bf l) from if_pos hlen,av,iQ,av,show zK (bf l,ix)=some (n3 (bf l) ix) from if_pos ⟨by rw[gy];exact hlen,hx⟩,av]
   cases hb:n3 (bf l) ix with
   |false=>rw[aX (by rfl),if_neg (by simp)]
   |true=>
    rw[aR (by rfl),if_pos ⟨rfl,rfl⟩,show tu ((m,l),ix)=some (m5 m l ix) from if_pos ⟨hk,hb⟩,av]
 ·cases h
theorem map_take {α:Type} (g:α->Int) {L:List α} {j:Nat} {x:α} (h:L[j]? =some x):dt ((L.take j).map g) [g x]=(L.take (j+1)).map g:=by
 simp[dt,List.take_add_one,h]
theorem afu (x:Int×List bh) (y:List Int) (h:xm x=some y):K4 ax x=some y:=by
 obtain⟨m,l⟩:=x
 simp only[xm] at h
 split at h
 ·rename_i hs
  rw[<-h]
  obtain⟨hlen,cX⟩:=Kr hs
  simp only[K4]
  rw[show pK (m,l)=some (e8 (m,l)) from if_pos hs,av]
  cases hk:e8 (m,l) with
  |false=>rw[aX (by rfl),if_neg (by simp)]
  |true=>
   obtain⟨hm,hl,_⟩:=vG hk
   rw[aR (by rfl),if_pos rfl]
   have e1:eG .i64 (aI (J l)) 1=((l.length - 1:Nat):Int):=by rw[nl,lW (by omega) (by omega)];omega
   rw[e1,show ib 0 ((l.length - 1:Nat):Int) (J l)=some (0,l.length - 1) from Ut (by simp only[J];omega),av]
   try simp only
   generalize hL:gu l 0 (l.length - 1)=L
   have Yr:L=l.take (l.length - 1):=by rw[<-hL];rfl
   have hLl:L.length<=1048576:=by rw[Yr];simp;omega
   rw[show ai 0 0 (J ([]:List Int))=some () from rfl,av]
   rw[fF (fun i=>((L,aI (J L),(i:Int)),(L.take i).map fun s=>s.2.2.1)) (r:=Sum.inl (L.map fun s=>s.2.2.1)) L.length ?_ ?_ ?_ (dC (by omega))]
   ·rw[g8,ku,av,Yr];rfl
   all_goals try simp only
   ·intro j hj
    obtain⟨⟨a,p,c,d⟩,hs⟩:∃e,L[j]? =some e:=⟨_,List.getElem?_eq_getElem hj⟩
    have e1:J ((L.take j).map fun s=>s.2.2.1)=j:=by simp[J];omega
    have e2:dt ((L.take j).map fun s=>s.2.2.1) [c]=(L.take (j+1)).map fun s=>s.2.2.1:=map_take (fun s:bh=>s.2.2.1) hs
    have e3:jt (aW j 1) 8=some ():=oK (by simp only[aW,dF];omega)
    rw[aX (uM hs),dY,hs,av]
    simp only[e1,cH,av,Fy,BD,show J [c]=1 from rfl,e3,BP hs (by omega),e2]
   ·rw[aR (uL L),List.take_length]
    simp only[cH,av]
   ·rfl
 ·cases h
end Go.Am
end
section
namespace Go.Am
def br:List Int->Nat
 |[]=>1
 |x::l=>x.toNat*br l
def aM (D:List Int) (i:Nat):Nat:=br (D.drop i)
def dI (D:List Int) (n i:Nat):Int:=((n/aM D (i+1)%(D.getD i 0).toNat:Nat):Int)
def cP (D:List Int) (n:Nat):List Int:=bP D.length (dI D n)
def nq (D ix:List Int):Nat->Nat
 |0=>0
 |j+1=>nq D ix j*(D.getD j 0).toNat+(ix.getD j 0).toNat
def iW (D:List Int):Prop:=D.length<=1048576/\∀x∈D,1<=x/\x<=1048576
instance (D:List Int):Decidable (iW D):=by unfold iW;infer_instance
def FD:List Int×Int->Option (List Int):=fun x=>if iW x.1/\0<=x.2/\x.2<=1048576 then some (cP x.1 x.2.toNat) else none
def tt:List Int×List Int->Option (Bool×List Int):=fun x=>
 if iW x.1/\x.2=cP x.1 (nq x.1 x.2 x.1.length)/\nq x.1 x.2 x.1.length<br x.1/\br x.1<=1048576 then
  some (decide (nq x.1 x.2 x.1.length+1<br x.1),cP x.1 (nq x.1 x.2 x.1.length+1)) else none
def dG (n:Nat):List Int:=bP n fun i=>(i:Int)
def ic (m:Int) (l:List bh):List Int×List Int×List Int:=(dG l.length,bf l,bP (br (bf l)) fun n=>m5 m l (cP (bf l) n))
def KV:Int×List bh->Option (List Int×List Int×List Int):=fun x=>if xf x<=1048576 then some (if e8 x=true then ic x.1 x.2 else([],[],[])) else none
def tp:Int×List bh->Option (List Int×List Int×List Int):=KV
def GM:ak:=[(.one,[.list [.int .i64]]),(.one,[.list [.int .i64]])]
def Sm:ak:=[(.one,[.bool]),(.one,[.list [.int .i64]])]
def Js:aN:=[[],[some .ae]]
def Gj:ak:=[(.agg,[.int .i64,.list [.int .i64,.int .i64,.int .i64,.list [.int .i64]]])]
def RU:ak:=[(.agg,[.list [.int .i64],.list [.int .i64],.list [.int .i64]])]
def ajE:aN:=[]
def VO (NN:Nat):((List Int)×Int)->(Option (List Int)):=
 (fun((l0,i1):((List Int)×Int))=>
 (n9 (aI (J l0)) (aI (J l0)) 8).aa (fun k2=>
 cd ((ai 0 k2 (J (dT k2 (0:Int)))).aa (fun _=>
 bN NN (fun(((l3,i4,i5),l6):(((List Int)×(Int×Int))×(List Int)))=>
 aC (gC (0:Int) i5)
 ((dK l3 i5).aa (fun i7=>
 (jH i4 i7).aa (fun i8=>
 (fj i5 (J l6)).aa (fun k9=>
 (dv l6 (aW 0 k9)).aa (fun db=>
 (dK l3 i5).aa (fun eS=>
 (y8 .i64 i4 eS).aa (fun eZ=>
 (ai 0 (J l6) (J (bW l6 (aW 0 k9) i8))).aa (fun _=>
 some (Sum.inl ((l3,eZ,eG .i64 i5 1),bW l6 (aW 0 k9) i8))))))))))
 (((ai 0 (J l6) (J l6)).aa (fun _=>
 some (Sum.inl l6))).aa (fun eK=>
 some (Sum.inr eK))))
 ((l0,i1,eG .i64 (aI (J l0)) (1:Int)),dT k2 (0:Int))))
 (fun gm=>
 (dP gm (J gm)).aa (fun eU=>
 some eU))))
def Lp (NN:Nat):((List Int)×(List Int))->(Option (Bool×(List Int))):=
 (fun((l0,l1):((List Int)×(List Int)))=>
 cd ((ai 0 (J l1) (J l1)).aa (fun _=>
 bN NN (fun(((l2,i3),l4):(((List Int)×Int)×(List Int)))=>
 aC (gC (0:Int) i3)
 ((fj i3 (J l4)).aa (fun k5=>
 (dv l4 (aW 0 k5)).aa (fun i6=>
 (fj i3 (J l4)).aa (fun k7=>
 (dv l4 (aW 0 k7)).aa (fun i8=>
 (fj i3 (J l4)).aa (fun k9=>
 (dv (bW l4 (aW 0 k7) (bS .i64 i6 1)) (aW 0 k9)).aa (fun db=>
 (dK l2 i3).aa (fun eS=>
 aC (bO db eS)
 ((((pF (J (bW l4 (aW 0 k7) (bS .i64 i6 1))) (J l1)).aa (fun _=>
 some (true,bW l4 (aW 0 k7) (bS .i64 i6 1)))).aa (fun((We,eK):(Bool×(List Int)))=>
 some (Sum.inr (We,eK)))).aa (fun gm=>
 some (Sum.inr gm)))
 ((fj i3 (J l4)).aa (fun Pn=>
 (dv (bW l4 (aW 0 k7) (bS .i64 i6 1)) (aW 0 Pn)).aa (fun iK=>
 (ai 0 (J l4) (J (bW (bW l4 (aW 0 k7) (bS .i64 i6 1)) (aW 0 Pn) (0:Int)))).aa (fun _=>
 some (Sum.inl ((l2,eG .i64 i3 1),bW (bW l4 (aW 0 k7) (bS .i64 i6 1)) (aW 0 Pn) (0:Int)))))))))))))))
 (some (Sum.inr (Sum.inl l4))))
 ((l0,eG .i64 (aI (J l0)) (1:Int)),l1)))
 (fun fP=>
 (pF (J fP) (J l1)).aa (fun _=>
 some (false,fP))))
def K8 (NN:Nat):(Int×(List (Int×(Int×(Int×(List Int))))))->(Option ((List Int)×((List Int)×(List Int)))):=
 (fun((i0,l1):(Int×(List (Int×(Int×(Int×(List Int)))))))=>
 (pK (i0,l1)).aa (fun b2=>
 aC (ef b2)
 (some (([]:List Int),([]:List Int),([]:List Int)))
 ((xt (i0,l1)).aa (fun l3=>
 cd ((ai 0 0 (J (([]:List Int)))).aa (fun _=>
 (ai 0 0 (J (([]:List Int)))).aa (fun _=>
 (ai 0 0 (J (([]:List Int)))).aa (fun _=>
 (ai 0 0 (J (([]:List Int)))).aa (fun _=>
 (ai 0 (J l3) (J l3)).aa (fun _=>
 (ai 0 0 (J (([]:List Int)))).aa (fun _=>
 bN NN (fun(((i4,i5),(i6,l7),l8,l9,ff,cB,dz,eK):((Int×Int)×((Int×(List (Int×(Int×(Int×(List Int))))))×((List Int)×((List Int)×((List Int)×((List Int)×((List Int)×(List Int)))))))))=>
 aC (bO i5 i4)
 ((ai 0 (J cB) (J cB)).aa (fun _=>
 (c6 ((i5::([]:List Int))) 0 1).aa (fun gm=>
 (jt (aW (J cB) (J gm)) 8).aa (fun _=>
 (ai 0 (J l8) (J l8)).aa (fun _=>
 (ai 0 (J l9) (J l9)).aa (fun _=>
 (ai 0 (J ff) (J ff)).aa (fun _=>
 (ai 0 (aW (J cB) (J gm)) (J (dt cB gm))).aa (fun _=>
 (ai 0 (J dz) (J dz)).aa (fun _=>
 (ai 0 (J eK) (J eK)).aa (fun _=>
 some (Sum.inl ((i4,bS .i64 i5 1),(i6,l7),l8,l9,ff,dt cB gm,dz,eK))))))))))))
 (((ai 0 (J l8) (J l8)).aa (fun _=>
 (ai 0 (J l9) (J l9)).aa (fun _=>
 (ai 0 (J ff) (J ff)).aa (fun _=>
 (ai 0 (J cB) (J cB)).aa (fun _=>
 (ai 0 (J dz) (J dz)).aa (fun _=>
 (ai 0 (J eK) (J eK)).aa (fun _=>
 some (Sum.inl ((i6,l7),l8,l9,ff,cB,dz,eK))))))))).aa (fun eU=>
 some (Sum.inr eU))))
 ((aI (J l1),(0:Int)),(i0,l1),([]:List Int),([]:List Int),([]:List Int),([]:List Int),l3,([]:List Int)))))))))
 (fun((iK,fP),lM,lO,je,dQ,fm,jU)=>
 (n9 (aI (J fm)) (aI (J fm)) 8).aa (fun yL=>
 (ai 0 yL (J (dT yL (0:Int)))).aa (fun _=>
 (ai 0 (J lM) (J lM)).aa (fun _=>
 (ai 0 (J lO) (J lO)).aa (fun _=>
 (ai 0 (J je) (J je)).aa (fun _=>
 (ai 0 (J dQ) (J dQ)).aa (fun _=>
 (ai 0 (J fm) (J fm)).aa (fun _=>
 (ai 0 (J jU) (J jU)).aa (fun _=>
 bN NN (fun(((oV,fg),mL,ki,iw,kj,kl,sZ,jf):((Int×(List (Int×(Int×(Int×(List Int))))))×((List Int)×((List Int)×((List Int)×((List Int)×((List Int)×((List Int)×(List Int)))))))))=>
 (c6 jf 0 (J jf)).aa (fun yM=>
 (tu ((oV,fg),yM)).aa (fun jc=>
 (ai 0 (J sZ) (J sZ)).aa (fun _=>
 (c6 ((jc::([]:List Int))) 0 1).aa (fun iy=>
 (jt (aW (J sZ) (J iy)) 8).aa (fun _=>
 (c6 kl 0 (J kl)).aa (fun Ji=>
 (ai 0 (J jf) (J jf)).aa (fun _=>
 (tt (Ji,jf)).aa (fun(b38,iz)=>
 aC (ef b38)
 (((dP kj (J kj)).aa (fun g9=>
 (dP kl (J kl)).aa (fun fy=>
 (dP (dt sZ iy) (aW (J sZ) (J iy))).aa (fun hJ=>
 some (g9,fy,hJ))))).aa (fun((jg,km,pg):((List Int)×((List Int)×(List Int))))=>
 some (Sum.inr (jg,km,pg))))
 ((ai 0 (J jf) (J iz)).aa (fun _=>
 (ai 0 (J mL) (J mL)).aa (fun _=>
 (ai 0 (J ki) (J ki)).aa (fun _=>
 (ai 0 (J iw) (J iw)).aa (fun _=>
 (ai 0 (J kj) (J kj)).aa (fun _=>
 (ai 0 (J kl) (J kl)).aa (fun _=>
 (ai 0 (aW (J sZ) (J iy)) (J (dt sZ iy))).aa (fun _=>
 some (Sum.inl ((oV,fg),mL,ki,iw,kj,kl,dt sZ iy,iz)))))))))))))))))))
 ((iK,fP),lM,lO,je,dQ,fm,jU,dT yL (0:Int)))))))))))))))
theorem HZ {D:List Int} (h:iW D) {i:Nat} (hi:i<D.length):∃d:Nat,D[i]? =some (d:Int)/\D.getD i 0=(d:Int)/\(D.getD i 0).toNat=d/\1<=d/\d<=1048576:=by
 have e:=getD_some 0 hi
 have hm:=h.2 _ (List.mem_of_getElem? e)
 obtain⟨d,hd⟩:=fz (show 0<=D.getD i 0 by omega)
 exact⟨d,by rw[e,hd],hd,by rw[hd];rfl,by omega,by omega⟩
theorem lY {D:List Int} {i:Nat} (hi:i<D.length):aM D i=(D.getD i 0).toNat*aM D (i+1):=by
 unfold aM
 rw[drop_cons (getD_some 0 hi),br]
theorem nA (D:List Int):aM D D.length=1:=by simp[aM,br]
theorem zt (D:List Int):aM D 0=br D:=rfl
theorem EJ:∀{D:List Int},(∀x∈D,1<=x)->0<br D
 |[],_=>Nat.one_pos
 |x::l,h=>by
  have h1:=h x List.mem_cons_self
  exact Nat.mul_pos (by omega) (EJ fun y hy=>h y (List.mem_cons_of_mem _ hy))
theorem acH {D:List Int} (h:iW D) (i:Nat):0<aM D i:=EJ fun x hx=>(h.2 x (List.mem_of_mem_drop hx)).1
theorem uR:∀{D:List Int},(∀x∈D,1<=x)->cV D=(br D:Int)
 |[],_=>rfl
 |x::l,h=>by
  have h1:=h x List.mem_cons_self
  rw[cV,br,uR fun y hy=>h y (List.mem_cons_of_mem _ hy)]
  obtain⟨x,rfl⟩:=fz (show 0<=x by omega)
  simp
theorem Va {D:List Int} {i j:Nat} (h:i<=j) (hj:j<=D.length):aM D j∣aM D i:=by
 obtain⟨k,rfl⟩:∃k,j=i+k:=⟨j - i,by omega⟩
 induction k with
 |zero=>exact Nat.dvd_refl _
 |succ k ih=>
  refine Nat.dvd_trans ?_ (ih (by omega) (by omega))
  rw[lY (i:=i+k) (by omega)]
  exact Nat.dvd_mul_left _ _
def qx (D:List Int) (n n' k:Nat):List Int:=bP D.length fun q=>if k<=q then dI D n' q else dI D n q
theorem ajv (D:List Int) (n n':Nat):qx D n n' 0=cP D n':=jl fun q _=>by simp
theorem ajw (D:List Int) (n n':Nat):qx D n n' D.length=cP D n:=jl fun q hq=>by simp;intro h;omega
theorem aao (D:List Int) (n n' k:Nat):bW (qx D n n' (k+1)) k (dI D n' k)=qx D n n' k:=by
 unfold qx
 rw[EO]
 refine jl fun q _=>?_
 by_cases e:q=k
 ·subst e;simp
 ·by_cases h:k<=q
  ·rw[if_neg e,if_pos (by omega),if_pos h]
  ·rw[if_neg e,if_neg (by omega),if_neg h]
theorem Jn (D:List Int) (n n' k:Nat):J (qx D n n' k)=D.length:=fR _ _
theorem BJ {D:List Int} {n n' k:Nat} (h:k<D.length):dv (qx D n n' (k+1)) k=some (dI D n k):=by
 unfold qx
 rw[vO _ h,if_neg (by omega)]
theorem Ww {a b:Nat} (hb:0<b) (ha:a<=1048576):y8 .i64 (a:Int) (b:Int)=some ((a/b:Nat):Int):=by
 have e:((a:Int)/(b:Int))=((a/b:Nat):Int):=by norm_cast
 have:a/b<=a:=Nat.div_le_self a b
 unfold y8
 rw[if_neg (by omega),Int.tdiv_eq_ediv_of_nonneg (by omega),e]
 clear e
 generalize a/b=q at*
 rw[zy (by omega) (by omega)]
theorem adZ {a b:Nat} (hb:0<b):jH (a:Int) (b:Int)=some ((a%b:Nat):Int):=by
 rw[Rz (by omega) (by omega)];norm_cast
theorem Ko {n:Nat} (h:n<=1048577):eG .i64 (n:Int) 1=(n:Int) - 1:=lW (by omega) (by omega)
theorem agr (x:List Int×Int) (y:List Int) (h:FD x=some y):VO ax x=some y:=by
 obtain⟨D,n⟩:=x
 simp only[FD] at h
 split at h
 ·rename_i hc
  obtain⟨hD,h0,h1⟩:=hc
  rw[<-h]
  obtain⟨n,rfl⟩:=fz h0
  have hl:=hD.1
  simp only[VO,Int.toNat_natCast]
  rw[yT (n:=J D) (by simp only[J,dF];omega),av]
  rw[show ai 0 (J D) (J (dT (J D) (0:Int)))=some () from by rw[PH];exact cH _,av]
  rw[fF (fun j=>((D,((n/aM D (D.length - j):Nat):Int),(D.length:Int) - j - 1),bP D.length fun q=>if D.length - j<=q then dI D n q else 0)) (r:=Sum.inl (cP D n)) D.length ?_ ?_ ?_ (dC (by omega))]
  ·rw[g8,ku,av]
  ·intro j hj
   have hk:D.length - (j+1)<D.length:=by omega
   obtain⟨d,d1,d2,d3,d4,d5⟩:=HZ hD hk
   have ek:(D.length:Int) - j - 1=((D.length - (j+1):Nat):Int):=by omega
   have eT:aM D (D.length - (j+1))=d*aM D (D.length - j):=by rw[lY hk,d3];congr 2;omega
   have aeJ:dI D n (D.length - (j+1))=((n/aM D (D.length - j)%d:Nat):Int):=by unfold dI;rw[d3];congr 4;omega
   have iY:n/aM D (D.length - j)<=n:=Nat.div_le_self _ _
   simp only
   rw[ek,aX (uK (by omega)),dY,d1,av,adZ (by omega),av,Ap _ hk,av,gR,vO _ hk,av]
   simp only[av]
   rw[Ww (by omega) (by omega),av,<-aeJ,EO]
   simp only[nR,av]
   rw[Ko (by omega),Nat.div_div_eq_div_mul,Nat.mul_comm (aM D (D.length - j)) d,<-eT]
   have er:bP D.length (fun q=>if q=D.length - (j+1) then dI D n (D.length - (j+1)) else if D.length - j<=q then dI D n q else 0)=bP D.length fun q=>if D.length - (j+1)<=q then dI D n q else 0:=by
    refine jl fun q _=>?_
    by_cases e:q=D.length - (j+1)
    ·rw[if_pos e,if_pos (by omega),e]
    ·rw[if_neg e]
     by_cases h:D.length - j<=q
     ·rw[if_pos h,if_pos (by omega)]
     ·rw[if_neg h,if_neg (by omega)]
   rw[er]
   congr 5
   omega
  ·simp only
   rw[aR (wF (by omega))]
   simp only[nR,av]
   rw[show bP D.length (fun q=>if D.length - D.length<=q then dI D n q else 0)=cP D n from jl fun q _=>by simp]
  ·rw[RH,Nat.sub_zero,nA,Nat.div_one]
   have e1:eG .i64 (aI (J D)) 1=(D.length:Int) - ((0:Nat):Int) - 1:=by rw[nl,Ko (by omega)];omega
   rw[e1]
   have e2:bP (J D) (fun _=>(0:Int))=bP D.length fun q=>if D.length<=q then dI D n q else 0:=jl fun q hq=>by rw[if_neg (by have:J D=D.length:=rfl;omega)]
   rw[e2]
 ·cases h
theorem aey {a k:Nat} (hk:0<k) (h:(a+1)%k≠0):(a+1)/k=a/k:=by
 rw[Nat.succ_div,if_neg (fun hd=>h (Nat.mod_eq_zero_of_dvd hd)),Nat.add_zero]
theorem aez {a k:Nat} (hk:0<k) (h:(a+1)%k=0):(a+1)/k=a/k+1:=by
 rw[Nat.succ_div,if_pos (Nat.dvd_of_mod_eq_zero h)]
theorem aet {D:List Int} (hD:iW D) {n i:Nat} (hi:i<=D.length) (h:(n+1)%aM D i≠0) {q:Nat} (hq:q<i):dI D (n+1) q=dI D n q:=by
 unfold dI
 rw[aey (acH hD _)]
 intro h0
 exact h (Nat.mod_eq_zero_of_dvd (Nat.dvd_trans (Va hq hi) (Nat.dvd_of_mod_eq_zero h0)))
theorem Xd {D:List Int} (hD:iW D) {n i:Nat} (hi:i<D.length) (h:(n+1)%aM D (i+1)=0):
  (dI D n i+1<D.getD i 0->dI D (n+1) i=dI D n i+1/\(n+1)%aM D i≠0)/\(¬dI D n i+1<D.getD i 0->dI D (n+1) i=0/\(n+1)%aM D i=0):=by
 obtain⟨d,d1,d2,d3,d4,d5⟩:=HZ hD hi
 have hT:=acH hD (i+1)
 have e1:=aez hT h
 obtain⟨c,hc⟩:=Nat.dvd_of_mod_eq_zero h
 have ec:(n+1)/aM D (i+1)=c:=by rw[hc,Nat.mul_div_cancel_left _ hT]
 have aeK:(n+1)%aM D i=aM D (i+1)*(c%d):=by rw[lY hi,d3,hc,Nat.mul_comm d,Nat.mul_mod_mul_left]
 unfold dI
 rw[d2,ec,aeK]
 simp only[Int.toNat_natCast]
 rw[ec] at e1
 have bG:n/aM D (i+1)%d<d:=Nat.mod_lt _ (by omega)
 have cf:c%d=if n/aM D (i+1)%d+1<d then n/aM D (i+1)%d+1 else 0:=by
  rw[e1,Nat.add_mod]
  split
  ·rename_i hx
   by_cases YG:d=1
   ·omega
   ·rw[Nat.mod_eq_of_lt (show 1<d by omega),Nat.mod_eq_of_lt hx]
  ·by_cases YG:d=1
   ·subst YG;omega
   ·rw[Nat.mod_eq_of_lt (show 1<d by omega),show n/aM D (i+1)%d+1=d by omega,Nat.mod_self]
 constructor
 ·intro hx
  rw[cf,if_pos (by omega)]
  refine⟨by omega,?_⟩
  have:=Nat.mul_pos hT (show 0<n/aM D (i+1)%d+1 by omega)
  omega
 ·intro hx
  rw[cf,if_neg (by omega)]
  exact⟨by omega,by simp⟩
theorem afY (x:List Int×List Int) (y:Bool×List Int) (h:tt x=some y):Lp ax x=some y:=by
 obtain⟨D,ix⟩:=x
 simp only[tt] at h
 split at h
 ·rename_i hc
  obtain⟨hD,Ol,hn,hp⟩:=hc
  rw[<-h]
  generalize nq D ix D.length=n at*
  subst Ol
  have hl:=hD.1
  have hlen:(cP D n).length=D.length:=fR _ _
  simp only[Lp]
  rw[cH,av]
  obtain⟨k,k1,k2,k3⟩:=U0 (fun j=>(n+1)%aM D (D.length - (j+1))=0) D.length
  have IH:∀j,j<=k->(n+1)%aM D (D.length - j)=0:=fun j hj=>by
   cases j with
   |zero=>rw[Nat.sub_zero,nA];omega
   |succ j=>exact k2 j (by omega)
  have yy:∀j,j<k->dI D (n+1) (D.length - (j+1))=0/\¬dI D n (D.length - (j+1))+1<D.getD (D.length - (j+1)) 0:=fun j hj=>by
   have hk:D.length - (j+1)<D.length:=by omega
   have h1:=IH j (by omega)
   rw[show D.length - j=D.length - (j+1)+1 by omega] at h1
   obtain⟨c1,c2⟩:=Xd hD hk h1
   by_cases hx:dI D n (D.length - (j+1))+1<D.getD (D.length - (j+1)) 0
   ·exact absurd (IH (j+1) (by omega)) (c1 hx).2
   ·exact⟨(c2 hx).1,hx⟩
  have YF:∀q,0<=dI D n q/\dI D n q<=1048576:=fun q=>by
   unfold dI
   have h1:n/aM D (q+1)%(D.getD q 0).toNat<=n/aM D (q+1):=Nat.mod_le _ _
   have h2:n/aM D (q+1)<=n:=Nat.div_le_self _ _
   omega
  have e0:eG .i64 (aI (J D)) 1=(D.length:Int) - ((0:Nat):Int) - 1:=by rw[nl,Ko (by omega)];omega
  rw[fF (fun j=>((D,(D.length:Int) - (j:Int) - 1),qx D n (n+1) (D.length - j))) (r:=if k=D.length then Sum.inl (cP D (n+1)) else Sum.inr (true,cP D (n+1))) k ?_ ?_ ?_ (dC (by omega))]
  ·by_cases hk:k=D.length
   ·rw[if_pos hk,g8]
    have hz:(n+1)%br D=0:=by have:=IH k (Nat.le_refl _);rwa[hk,Nat.sub_self,zt] at this
    have DW:¬n+1<br D:=fun hx=>by rw[Nat.mod_eq_of_lt hx] at hz;omega
    rw[decide_eq_false DW,ze (by show J (cP D (n+1))=J (cP D n);unfold cP;rw[pi,pi]),av]
   ·rw[if_neg hk,ZN]
    have IV:=(k3.resolve_left hk)
    have DW:n+1<br D:=by
     rcases Nat.lt_or_ge (n+1) (br D) with h|h
     ·exact h
     ·exfalso
      have e:n+1=br D:=by omega
      apply IV
      rw[e,<-zt]
      exact Nat.mod_eq_zero_of_dvd (Va (Nat.zero_le _) (by omega))
    rw[decide_eq_true DW]
  ·intro j hj
   have hk:D.length - (j+1)<D.length:=by omega
   have ek:(D.length:Int) - j - 1=((D.length - (j+1):Nat):Int):=by omega
   obtain⟨s1,s2⟩:=yy j hj
   have t9:=YF (D.length - (j+1))
   simp only
   rw[ek,show D.length - j=D.length - (j+1)+1 by omega,aX (uK (by omega)),q9 (by rw[Jn];exact hk),av,gR,BJ hk,av]
   simp only[av,gR,BJ hk]
   rw[fv (by omega) (by omega)]
   have eg:dv (bW (qx D n (n+1) (D.length - (j+1)+1)) (D.length - (j+1)) (dI D n (D.length - (j+1))+1)) (D.length - (j+1))=some (dI D n (D.length - (j+1))+1):=Yk (BJ hk)
   rw[eg,av,dY,getD_some 0 hk,av,aR (cZ (by omega))]
   try simp only[av,gR,eg]
   rw[aoj,<-s1,aao,Jn,Jn,cH,av,Ko (by omega)]
   congr 4
   omega
  ·by_cases hk:k=D.length
   ·rw[if_pos hk,hk]
    simp only
    rw[aR (wF (by omega)),Nat.sub_self,ajv]
   ·rw[if_neg hk]
    have oT:D.length - (k+1)<D.length:=by omega
    have ek:(D.length:Int) - k - 1=((D.length - (k+1):Nat):Int):=by omega
    have h1:=IH k (Nat.le_refl _)
    rw[show D.length - k=D.length - (k+1)+1 by omega] at h1
    obtain⟨c1,c2⟩:=Xd hD oT h1
    have IV:=(k3.resolve_left hk)
    have hx:dI D n (D.length - (k+1))+1<D.getD (D.length - (k+1)) 0:=by
     rcases Decidable.em (dI D n (D.length - (k+1))+1<D.getD (D.length - (k+1)) 0) with h|h
     ·exact h
     ·exact absurd (c2 h).2 IV
    obtain⟨s1,s2⟩:=c1 hx
    have t9:=YF (D.length - (k+1))
    simp only
    rw[ek,show D.length - k=D.length - (k+1)+1 by omega,aX (uK (by omega)),q9 (by rw[Jn];exact oT),av,gR,BJ oT,av]
    simp only[av,gR,BJ oT]
    rw[fv (by omega) (by omega)]
    have eg:dv (bW (qx D n (n+1) (D.length - (k+1)+1)) (D.length - (k+1)) (dI D n (D.length - (k+1))+1)) (D.length - (k+1))=some (dI D n (D.length - (k+1))+1):=Yk (BJ oT)
    rw[eg,av,dY,getD_some 0 oT,av,aX (dc (by omega))]
    rw[<-s1,aao]
    have er:qx D n (n+1) (D.length - (k+1))=cP D (n+1):=jl fun q hq=>by
     by_cases h:D.length - (k+1)<=q
     ·rw[if_pos h]
     ·rw[if_neg h,aet hD (by omega) IV (by omega)]
    rw[er,ze (by show J (cP D (n+1))=J (cP D n);unfold cP;rw[pi,pi]),av]
    rfl
  ·rw[e0,Nat.sub_zero,ajw]
 ·cases h
theorem I6 {D:List Int} {n i:Nat} (hi:i<D.length):(cP D n).getD i 0=dI D n i:=by
 rw[List.getD_eq_getElem?_getD,cP,mT _ hi];rfl
theorem Q9 {D:List Int} (hD:iW D) {n:Nat} (hn:n<br D):∀j,j<=D.length->nq D (cP D n) j=n/aM D j
 |0,_=>by rw[zt,Nat.div_eq_of_lt hn];rfl
 |j+1,hj=>by
  rw[nq,Q9 hD hn j (by omega),I6 (by omega),dI,Int.toNat_natCast,lY (by omega),Nat.mul_comm (D.getD j 0).toNat,<-Nat.div_div_eq_div_mul,Nat.mul_comm,Nat.div_add_mod]
theorem Q4 {D:List Int} (hD:iW D) {n:Nat} (hn:n<br D) (hp:br D<=1048576):tt (D,cP D n)=some (decide (n+1<br D),cP D (n+1)):=by
 have e:=Q9 hD hn D.length (Nat.le_refl _)
 rw[nA,Nat.div_one] at e
 simp only[tt,e]
 rw[if_pos ⟨hD,trivial,hn,hp⟩]
theorem O3 {D:List Int} (hD:iW D) (n:Nat):n3 D (cP D n)=true:=by
 simp only[n3,Bool.and_eq_true,decide_eq_true_eq]
 refine⟨fR _ _,fun i hi=>?_⟩
 obtain⟨d,d1,d2,d3,d4,d5⟩:=HZ hD hi
 rw[I6 hi,dI,d3,d2]
 have:=Nat.mod_lt (n/aM D (i+1)) (show 0<d by omega)
 omega
theorem RG (n:Nat) (f:Nat->Int):dt (bP n f) [f n]=bP (n+1) f:=by
 unfold dt bP
 rw[List.range_succ,List.map_append]
 rfl
theorem HY {m:Int} {l:List bh} (h:e8 (m,l)=true):iW (bf l)/\(1<=br (bf l)/\br (bf l)<=4096)/\(bf l).length<=8/\xI 4096 (bf l)=(br (bf l):Int):=by
 obtain⟨_,hl,hp,_,hs⟩:=vG h
 have hd:∀x∈bf l,1<=x/\x<=8:=fun x hx=>by
  obtain⟨i,hi⟩:=List.mem_iff_getElem?.1 hx
  have eY:i<l.length:=by have:=wG hi;rwa[gy] at this
  obtain⟨p,M,e,_,_,h3,_⟩:=hs i eY
  have:=HX l i
  rw[e,List.getD_eq_getElem?_getD,hi] at this
  simp only[Option.getD_some] at this
  omega
 have hI:=uR (D:=bf l) fun x hx=>(hd x hx).1
 have dL:=EJ (D:=bf l) fun x hx=>(hd x hx).1
 refine⟨⟨by rw[gy];omega,fun x hx=>by have:=hd x hx;omega⟩,⟨dL,by omega⟩,by rw[gy];omega,?_⟩
 unfold xI
 rw[Hz (by decide) _ 0 1 (fun x hx=>(hd x hx).1) (by decide) (by decide),Int.one_mul,hI,Int.min_eq_left (by omega)]
theorem Zw {D:List Int} (hD:iW D):dT (J D) (0:Int)=cP D 0:=by
 rw[RH]
 refine jl fun i _=>?_
 simp[dI]
theorem apl {m:Int} {l:List bh} {n:Nat} (hn:n<=1048576):jt (aW (J (dG n)) 1) 8=some ():=oK (by simp only[aW,dG,pi,dF];omega)
theorem afy (x:Int×List bh) (y:List Int×List Int×List Int) (h:tp x=some y):K8 ax x=some y:=by
 obtain⟨m,l⟩:=x
 simp only[tp,KV] at h
 split at h
 ·rename_i hs
  rw[<-h]
  obtain⟨hlen,cX⟩:=Kr hs
  simp only[K8]
  rw[show pK (m,l)=some (e8 (m,l)) from if_pos hs,av]
  cases hk:e8 (m,l) with
  |false=>rw[aX (by rfl),if_neg (by simp)]
  |true=>
   rw[aR (by rfl),if_pos rfl]
   obtain⟨hm,hl,_,_,_⟩:=vG hk
   obtain⟨hD,hp,hDl,ju⟩:=HY hk
   rw[show xt (m,l)=some (bf l) from if_pos hlen,av]
   rw[show ai 0 0 (J ([]:List Int))=some () from rfl]
   simp only[av,cH]
   rw[fF (fun i=>((aI (J l),(i:Int)),(m,l),([]:List Int),([]:List Int),([]:List Int),dG i,bf l,([]:List Int))) (r:=Sum.inl ((m,l),([]:List Int),([]:List Int),([]:List Int),dG l.length,bf l,([]:List Int))) l.length ?_ ?_ ?_ (dC (by omega))]
   ·rw[g8]
    simp only
    rw[yT (n:=J (bf l)) (by simp only[J,dF];omega),av,PH,cH,av]
    rw[fF (fun n=>((m,l),([]:List Int),([]:List Int),([]:List Int),dG l.length,bf l,(bP n fun n=>m5 m l (cP (bf l) n)),cP (bf l) n)) (r:=ic m l) (br (bf l) - 1) ?_ ?_ ?_ (dC (by omega))]
    ·intro n hn
     simp only[iQ,av]
     rw[show tu ((m,l),cP (bf l) n)=some (m5 m l (cP (bf l) n)) from if_pos ⟨hk,O3 hD n⟩]
     simp only[av,Fy,BD,pi,show∀x:Int,J [x]=1 from fun _=>rfl,cH,show jt (aW n 1) 8=some () from oK (by simp only[aW,dF];omega)]
     rw[Q4 hD (by omega) (by omega),av]
     simp only
     rw[aR (alR (by omega)),show ai 0 (J (cP (bf l) n)) (J (cP (bf l) (n+1)))=some () from by unfold cP;exact nR _ _ _,av,RG n fun n=>m5 m l (cP (bf l) n)]
    ·simp only[iQ,av]
     generalize hq:br (bf l) - 1=n
     have hn:br (bf l)=n+1:=by omega
     rw[show tu ((m,l),cP (bf l) n)=some (m5 m l (cP (bf l) n)) from if_pos ⟨hk,O3 hD n⟩]
     simp only[av,Fy,BD,pi,show∀x:Int,J [x]=1 from fun _=>rfl,cH,show jt (aW n 1) 8=some () from oK (by simp only[aW,dF];omega)]
     rw[Q4 hD (by omega) (by omega),av]
     simp only
     rw[aX (alQ (by omega)),RG n fun n=>m5 m l (cP (bf l) n)]
     simp only[ku,av]
     rw[show aW n 1=J (bP (n+1) fun n=>m5 m l (cP (bf l) n)) from by rw[pi];rfl,ku,av]
     simp only[av,ic,hn]
    ·rw[Zw hD];rfl
   ·intro i hi
    simp only
    rw[aX (BG hi)]
    simp only[av,Fy,BD,show∀x:Int,J [x]=1 from fun _=>rfl,cH,apl (m:=m) (l:=l) (show i<=1048576 by omega),j3 (show i<=1048577 by omega)]
    rw[show dt (dG i) [(i:Int)]=dG (i+1) from RG i _]
   ·simp only
    rw[aR (uL l)]
   ·rfl
 ·cases h
end Go.Am
end
section
namespace Go.Am
end Go.Am
end
section
namespace Go.Am
def jk:Int×Int×Int->Bool:=fun((k,p,n):Int×Int×Int)=>
 if k=1 then decide (p=0/\n=0) else if k=2 then ct p&&decide (n=0) else if k=3\/k=4\/k=5 then decide ((1<=p/\p<=1000000)/\n=0)
 else if k=6 then decide (p=0/\1<=n/\n<=20) else if k=7 then ct p&&decide (1<=n/\n<=6) else if k=8 then ct p&&decide (p≠2/\n=0) else false
def kz:Int×Int×Int->Int:=fun((k,p,n):Int×Int×Int)=>if k=7 then n else if k=8 then 4 else 1
def bZ (r:Int×Int×Int):Nat:=(kz r).toNat
def eH:Int×Int×Int->Int:=fun((k,p,n):Int×Int×Int)=>if k=1 then 1 else if k=3\/k=4\/k=5 then p else if k=6 then 2^n.toNat - 1 else p - 1
def uH (t v:Int):Bool:=decide (0<=v/\v<=t)
def rj (r:Int×Int×Int) (x:List Int):Bool:=decide (x.length=bZ r)&&x.all (uH (eH r))
def BS:Int×Int×Int->List Int:=fun((k,p,n):Int×Int×Int)=>bW (dT (bZ (k,p,n)) 0) 0 (if k=4 then 0 else if k=5\/k=6 then eH (k,p,n) else 1)
def sm:Nat->(Nat->Int)->Int
 |0,_=>0
 |n+1,f=>sm n f+f n
def kW (om:Bool) (x y:Nat->Int) (t i j:Nat):Int:=if i+j=t then x i*y j else if om=true/\i+j=t+4 then -(x i*y j) else 0
def ox (w:Nat) (f:Nat->Int):List Int:=(List.range w).map f
def d8 (x:List Int):Nat->Int:=fun i=>x.getD i 0
def xS (p:Int) (om:Bool) (w:Nat) (x y:Nat->Int):List Int:=ox w fun t=>sm w (fun i=>sm w (fun j=>kW om x y t i j))%p
def pw:Int×Int×Int->Int->Int->Int:=fun((k,p,n):Int×Int×Int) a b=>
 if k=1\/k=6 then((a.toNat&&&b.toNat:Nat):Int) else if k=2 then a*b%p else if k=3 then min (a*b) p else if k=4 then min (a+b) p else min a b
def wI (r:Int×Int×Int) (x y:List Int):List Int:=if r.1=7\/r.1=8 then xS r.2.1 (decide (r.1=8)) (bZ r) (d8 x) (d8 y) else[pw r (d8 x 0) (d8 y 0)]
def zD:Int×Int×Int->Option Bool:=fun r=>some (jk r)
def vl:Int×Int×Int->Option Int:=fun r=>some (kz r)
def zO:Int×Int×Int->Option Int:=fun r=>if jk r=true then some (eH r) else none
def zI:(Int×Int×Int)×List Int->Option Bool:=fun((r,x):(Int×Int×Int)×List Int)=>if jk r=true/\x.length<=9223372036854775806 then some (x.all (uH (eH r))) else none
def Gu:ak:=[(.agg,[.int .i64,.int .i64,.int .i64])]
def R6:ak:=[(.one,[.bool])]
def ajL:aN:=[]
def GV:ak:=[(.agg,[.int .i64,.int .i64,.int .i64])]
def Sw:ak:=[(.one,[.int .i64])]
def aj8:aN:=[]
def GU:ak:=[(.agg,[.int .i64,.int .i64,.int .i64])]
def Sv:ak:=[(.one,[.int .i64])]
def aj7:aN:=[]
def GJ:ak:=[(.agg,[.int .i64,.int .i64,.int .i64]),(.one,[.list [.int .i64]])]
def Sj:ak:=[(.one,[.bool])]
def ajY:aN:=[]
def Lc (NN:Nat):(Int×(Int×Int))->(Option Bool):=
 (fun((i0,i1,i2):(Int×(Int×Int)))=>
 aC (cz i0 (1:Int))
 (aC (cz i1 (0:Int))
 (some (cz i2 (0:Int)))
 (some false))
 (aC (cz i0 (2:Int))
 ((pL i1).aa (fun b3=>
 aC (b3)
 (some (cz i2 (0:Int)))
 (some false)))
 (cd (aC (cz i0 (3:Int))
 (some (Sum.inl ((true,i0),i0,i1,i2)))
 (aC (cz i0 (4:Int))
 (some (Sum.inl ((true,i0),i0,i1,i2)))
 (some (Sum.inl ((cz i0 (5:Int),i0),i0,i1,i2)))))
 (fun((b4,i5),i6,i7,i8)=>
 aC (b4)
 (aC (gC (1:Int) i7)
 (aC (gC i7 (1000000:Int))
 (some (cz i8 (0:Int)))
 (some false))
 (some false))
 (aC (cz i5 (6:Int))
 (aC (cz i7 (0:Int))
 (aC (gC (1:Int) i8)
 (some (gC i8 (20:Int)))
 (some false))
 (some false))
 (aC (cz i5 (7:Int))
 ((pL i7).aa (fun b9=>
 aC (b9)
 (aC (gC (1:Int) i8)
 (some (gC i8 (6:Int)))
 (some false))
 (some false)))
 (aC (cz i5 (8:Int))
 ((pL i7).aa (fun vC=>
 aC (vC)
 (aC (hZ i7 (2:Int))
 (some (cz i8 (0:Int)))
 (some false))
 (some false)))
 (some false))))))))
def Lv (NN:Nat):(Int×(Int×Int))->(Option Int):=
 (fun((i0,i1,i2):(Int×(Int×Int)))=>
 aC (cz i0 (7:Int))
 (some i2)
 (aC (cz i0 (8:Int))
 (some (4:Int))
 (some (1:Int))))
def VN (NN:Nat):(Int×(Int×Int))->(Option Int):=
 (fun((i0,i1,i2):(Int×(Int×Int)))=>
 aC (cz i0 (1:Int))
 (some (1:Int))
 (cd (aC (cz i0 (3:Int))
 (some (Sum.inl ((true,i0),i0,i1,i2)))
 (aC (cz i0 (4:Int))
 (some (Sum.inl ((true,i0),i0,i1,i2)))
 (some (Sum.inl ((cz i0 (5:Int),i0),i0,i1,i2)))))
 (fun((b3,i4),i5,i6,i7)=>
 aC (b3)
 (some i6)
 (aC (cz i4 (6:Int))
 ((zi .i64 (1:Int) i7).aa (fun i8=>
 some (eG .i64 i8 1)))
 (some (eG .i64 i6 1))))))
def Ln (NN:Nat):((Int×(Int×Int))×(List Int))->(Option Bool):=
 (fun(((i0,i1,i2),l3):((Int×(Int×Int))×(List Int)))=>
 (zO (i0,i1,i2)).aa (fun i4=>
 cd (bN NN (fun((i5,l6,i7,i8):(Int×((List Int)×(Int×Int))))=>
 aC (bO i8 i7)
 ((dK l6 i8).aa (fun i9=>
 aC (bO i9 (0:Int))
 (some (Sum.inr (Sum.inr false)))
 (aC (bO i5 i9)
 (some (Sum.inr (Sum.inr false)))
 (some (Sum.inl (i5,l6,i7,bS .i64 i8 1))))))
 (some (Sum.inr (Sum.inl ()))))
 (i4,l3,aI (J l3),(0:Int)))
 (fun _=>
 some true)))
theorem aeg {α:Type} (a b:Int) (x y:α):aC (cz a b) x y=if a=b then x else y:=by
 by_cases h:a=b
 ·rw[if_pos h,aX (tL h)]
 ·rw[if_neg h,aR (sx h)]
theorem aeN (a b:Int):cz a b=decide (a=b):=by by_cases h:a=b<;>simp[cz,h]
theorem ajm (a b:Int):gC a b=decide (a<=b):=rfl
theorem WQ {α:Type} (p:Prop) [Decidable p] (x y:α):aC (decide p) x y=if p then x else y:=by
 by_cases h:p
 ·rw[if_pos h,aX (decide_eq_true h)]
 ·rw[if_neg h,aR (decide_eq_false h)]
theorem B5 {k p n:Int} (h:jk (k,p,n)=true):(k=1/\p=0/\n=0)\/(k=2/\ct p=true/\n=0)\/(k=3/\(1<=p/\p<=1000000)/\n=0)\/(k=4/\(1<=p/\p<=1000000)/\n=0)\/(k=5/\(1<=p/\p<=1000000)/\n=0)\/
  (k=6/\p=0/\1<=n/\n<=20)\/(k=7/\ct p=true/\1<=n/\n<=6)\/(k=8/\ct p=true/\p≠2/\n=0):=by
 simp only[jk] at h
 by_cases h1:k=1
 ·rw[if_pos h1] at h;exact .inl ⟨h1,by simpa using h⟩
 rw[if_neg h1] at h
 by_cases h2:k=2
 ·rw[if_pos h2] at h;simp at h;exact .inr (.inl ⟨h2,h⟩)
 rw[if_neg h2] at h
 by_cases h3:k=3\/k=4\/k=5
 ·rw[if_pos h3] at h
  simp only[decide_eq_true_eq] at h
  rcases h3 with h3|h3|h3
  ·exact .inr (.inr (.inl ⟨h3,h⟩))
  ·exact .inr (.inr (.inr (.inl ⟨h3,h⟩)))
  ·exact .inr (.inr (.inr (.inr (.inl ⟨h3,h⟩))))
 rw[if_neg h3] at h
 by_cases h4:k=6
 ·rw[if_pos h4] at h;simp at h;exact .inr (.inr (.inr (.inr (.inr (.inl ⟨h4,h⟩)))))
 rw[if_neg h4] at h
 by_cases h5:k=7
 ·rw[if_pos h5] at h;simp at h;exact .inr (.inr (.inr (.inr (.inr (.inr (.inl ⟨h5,h⟩))))))
 rw[if_neg h5] at h
 by_cases h6:k=8
 ·rw[if_pos h6] at h;simp at h;exact .inr (.inr (.inr (.inr (.inr (.inr (.inr ⟨h6,h⟩))))))
 rw[if_neg h6] at h
 cases h
theorem afI (x:Int×Int×Int) (y:Bool) (h:zD x=some y):Lc ax x=some y:=by
 obtain⟨k,p,n⟩:=x
 rw[<-h]
 simp only[zD,Lc,jk,pL,av,aeN,ajm,WQ]
 by_cases h1:k=1
 ·rw[if_pos h1,if_pos h1];by_cases hp:p=0<;>by_cases hn:n=0<;>simp[hp,hn]
 rw[if_neg h1,if_neg h1]
 by_cases h2:k=2
 ·rw[if_pos h2,if_pos h2];cases ct p<;>rfl
 rw[if_neg h2,if_neg h2]
 have hd:(if k=3 then some (Sum.inl ((true,k),k,p,n)) else if k=4 then some (Sum.inl ((true,k),k,p,n)) else some (Sum.inl ((decide (k=5),k),k,p,n)):Option (((Bool×Int)×Int×Int×Int)⊕Bool))=some (Sum.inl ((decide (k=3\/k=4\/k=5),k),k,p,n)):=by
  by_cases h3:k=3
  ·simp[h3]
  ·by_cases h4:k=4
   ·simp[h4]
   ·simp[h3,h4]
 rw[hd,g8]
 simp only[WQ]
 by_cases h3:k=3\/k=4\/k=5
 ·rw[if_pos h3,if_pos h3]
  by_cases ha:1<=p
  ·by_cases hb:p<=1000000<;>simp[ha,hb]
  ·simp[ha]
 rw[if_neg h3,if_neg h3]
 by_cases h4:k=6
 ·rw[if_pos h4,if_pos h4]
  by_cases ha:p=0
  ·by_cases hb:1<=n<;>simp[ha,hb]
  ·simp[ha]
 rw[if_neg h4,if_neg h4]
 by_cases h5:k=7
 ·rw[if_pos h5,if_pos h5]
  cases ct p
  ·rfl
  ·rw[aX rfl]
   by_cases hb:1<=n<;>simp[hb]
 rw[if_neg h5,if_neg h5]
 by_cases h6:k=8
 ·rw[if_pos h6,if_pos h6]
  cases ct p
  ·rfl
  ·rw[aX rfl,alF,Bool.true_and]
   by_cases hb:p=2<;>simp[hb,aC]
 rw[if_neg h6,if_neg h6]
theorem af6 (x:Int×Int×Int) (y:Int) (h:vl x=some y):Lv ax x=some y:=by
 obtain⟨k,p,n⟩:=x
 rw[<-h]
 simp only[vl,Lv,kz,aeg]
 by_cases h7:k=7
 ·rw[if_pos h7,if_pos h7]
 ·rw[if_neg h7,if_neg h7];by_cases h8:k=8<;>simp[h8]
theorem aoo {n:Int} (h0:0<=n) (h1:n<=60):zi .i64 1 n=some (2^n.toNat):=by
 obtain⟨m,rfl⟩:=fz h0
 rw[aop (by omega),Int.toNat_natCast]
 congr 1
theorem aaX {n:Int} (h0:0<=n) (h1:n<=20):1<=(2:Int)^n.toNat/\(2:Int)^n.toNat<=1048576:=by
 have a:(2:Nat)^n.toNat<=2^20:=Nat.pow_le_pow_right (by decide) (by omega)
 have b:1<=(2:Nat)^n.toNat:=Nat.one_le_two_pow
 have e:(((2:Nat)^n.toNat:Nat):Int)=(2:Int)^n.toNat:=by push_cast;rfl
 rw[<-e]
 omega
theorem af5 (x:Int×Int×Int) (y:Int) (h:zO x=some y):VN ax x=some y:=by
 obtain⟨k,p,n⟩:=x
 simp only[zO] at h
 split at h
 ·rename_i hr
  rw[<-h]
  rcases B5 hr with⟨rfl,rfl,rfl⟩|⟨rfl,hp,rfl⟩|⟨rfl,hp,rfl⟩|⟨rfl,hp,rfl⟩|⟨rfl,hp,rfl⟩|⟨rfl,rfl,hn⟩|⟨rfl,hp,hn⟩|⟨rfl,hp,mE,rfl⟩
  ·rfl
  ·have:=eF hp
   exact congrArg some (lW (by omega) (by omega))
  ·rfl
  ·rfl
  ·rfl
  ·have h1:=aaX (n:=n) (by omega) hn.2
   show(zi .i64 1 n).aa _=_
   rw[aoo (by omega) (by omega),av,lW (by omega) (by omega)]
   rfl
  ·have:=eF hp
   exact congrArg some (lW (by omega) (by omega))
  ·have:=eF hp
   exact congrArg some (lW (by omega) (by omega))
 ·cases h
theorem app {r:Int×Int×Int} (h:jk r=true):0<=eH r/\eH r<=1048576:=by
 obtain⟨k,p,n⟩:=r
 rcases B5 h with⟨rfl,rfl,rfl⟩|⟨rfl,hp,rfl⟩|⟨rfl,hp,rfl⟩|⟨rfl,hp,rfl⟩|⟨rfl,hp,rfl⟩|⟨rfl,rfl,hn⟩|⟨rfl,hp,hn⟩|⟨rfl,hp,mE,rfl⟩
 ·simp[eH]
 ·have:=eF hp;simp[eH];omega
 ·simp[eH];omega
 ·simp[eH];omega
 ·simp[eH];omega
 ·have h1:=aaX (n:=n) (by omega) hn.2
  simp only[eH,Int.reduceEq,reduceIte,or_self]
  omega
 ·have:=eF hp;simp[eH];omega
 ·have:=eF hp;simp[eH];omega
theorem Fx {r:Int×Int×Int} (h:jk r=true):kz r=(bZ r:Int)/\1<=bZ r/\bZ r<=6:=by
 obtain⟨k,p,n⟩:=r
 rcases B5 h with⟨rfl,rfl,rfl⟩|⟨rfl,hp,rfl⟩|⟨rfl,hp,rfl⟩|⟨rfl,hp,rfl⟩|⟨rfl,hp,rfl⟩|⟨rfl,rfl,hn⟩|⟨rfl,hp,hn⟩|⟨rfl,hp,mE,rfl⟩
 ·simp[bZ,kz]
 ·simp[bZ,kz]
 ·simp[bZ,kz]
 ·simp[bZ,kz]
 ·simp[bZ,kz]
 ·simp[bZ,kz]
 ·simp[bZ,kz];omega
 ·simp[bZ,kz]
theorem afV (x:(Int×Int×Int)×List Int) (y:Bool) (h:zI x=some y):Ln ax x=some y:=by
 obtain⟨⟨k,p,n⟩,l⟩:=x
 simp only[zI] at h
 split at h
 ·rename_i hc
  obtain⟨hr,hl⟩:=hc
  rw[<-h]
  have hb:=app hr
  simp only[Ln]
  rw[show zO (k,p,n)=some (eH (k,p,n)) from if_pos hr,av]
  generalize eH (k,p,n)=t at hb⊢
  rw[Z8 l (fun i=>(t,l,aI (J l),(i:Int))) (uH t) (.inr false) (.inl ()) ?_ ?_ ?_ ?_ (dC (by omega))]
  ·cases l.all (uH t)<;>rfl
  ·intro i a ha hb
   rw[aX (uM ha),dY,ha,av]
   simp only[uH,decide_eq_true_eq] at hb
   rw[aR (cZ hb.1),aR (cZ hb.2),BP ha (by omega)]
  ·intro i a ha hb
   rw[aX (uM ha),dY,ha,av]
   simp only[uH,decide_eq_false_iff_not] at hb
   by_cases h0:a<0
   ·rw[aX (dc h0)]
   ·rw[aR (cZ (by omega)),aX (dc (by omega))]
  ·rw[aR (uL l)]
  ·rfl
 ·cases h
theorem anu {w:Nat} {p:Int} (h:w=1):bW (dT w (0:Int)) 0 p=[p]:=by subst h;rfl
theorem apd {α:Type} {xs:List α} {n:Nat} (h:xs.length=n):dP xs n=some xs:=by subst h;exact ku xs
theorem Fm (w:Nat) (f:Nat->Int):(ox w f).length=w:=by simp[ox]
theorem Fl {w j:Nat} (f:Nat->Int) (h:j<w):(ox w f)[j]? =some (f j):=by simp[ox,h]
theorem acG {w:Nat} {f g:Nat->Int} (h:∀j,j<w->f j=g j):ox w f=ox w g:=List.map_congr_left fun j hj=>h j (List.mem_range.1 hj)
theorem apc {w:Nat} (f:Nat->Int) (j:Nat) (v:Int):(ox w f).set j v=ox w (fun i=>if i=j then v else f i):=by
 apply List.ext_getElem?
 intro i
 by_cases hi:i<w
 ·rw[Fl _ hi]
  by_cases hj:j=i
  ·subst hj
   rw[List.getElem?_set_self (by rw[Fm];exact hi),if_pos rfl]
  ·rw[List.getElem?_set_ne hj,Fl _ hi,if_neg (fun e=>hj e.symm)]
 ·rw[List.getElem?_eq_none (by rw[List.length_set,Fm];omega),List.getElem?_eq_none (by rw[Fm];omega)]
theorem X5 {x:List Int} {j:Nat} (h:j<x.length):x[j]? =some (d8 x j):=by
 rw[List.getElem?_eq_getElem h]
 simp[d8,List.getD_eq_getElem?_getD,List.getElem?_eq_getElem h]
theorem ML {w j:Nat} (f:Nat->Int) (h:j<w):d8 (ox w f) j=f j:=by simp[d8,List.getD_eq_getElem?_getD,Fl f h]
theorem apa {x:List Int} {w:Nat} (h:x.length=w):ox w (d8 x)=x:=by
 subst h
 apply List.ext_getElem?
 intro i
 by_cases hi:i<x.length
 ·rw[Fl _ hi,X5 hi]
 ·rw[List.getElem?_eq_none (by rw[Fm];omega),List.getElem?_eq_none (by omega)]
theorem apb (w:Nat) (c:Int):dT w c=ox w fun _=>c:=by
 apply List.ext_getElem?
 intro i
 by_cases hi:i<w
 ·rw[Fl _ hi];simp[dT,hi]
 ·rw[List.getElem?_eq_none (by simp[dT];omega),List.getElem?_eq_none (by rw[Fm];omega)]
theorem Xl {r:Int×Int×Int} {x:List Int} (h:rj r x=true):x.length=bZ r:=by
 simp only[rj,Bool.and_eq_true,decide_eq_true_eq] at h;exact h.1
theorem Xk {r:Int×Int×Int} {x:List Int} (h:rj r x=true) {j:Nat} (hj:j<bZ r):0<=d8 x j/\d8 x j<=eH r:=by
 simp only[rj,Bool.and_eq_true,decide_eq_true_eq] at h
 have:=List.all_eq_true.1 h.2 (d8 x j) (List.mem_of_getElem? (X5 (by rw[h.1];exact hj)))
 simpa[uH] using this
theorem Da {r:Int×Int×Int} {x:List Int} (h:rj r x=true) (hw:bZ r=1):x=[d8 x 0]/\0<=d8 x 0/\d8 x 0<=eH r:=by
 have hl:=Xl h
 rw[hw] at hl
 match x,hl with
 |[a],_=>exact⟨rfl,Xk h (j:=0) (by omega)⟩
theorem abk {a p:Int} (ha:0<=a) (hp:0<p):jH a p=some (a%p):=by
 obtain⟨m,rfl⟩:=fz (z:=p) (by omega)
 exact Rx ha (by omega)
theorem lV {f g:Nat->Int}:∀{n:Nat},(∀i,i<n->f i=g i)->sm n f=sm n g
 |0,_=>rfl
 |n+1,h=>by simp only[sm];rw[lV (n:=n) (fun i hi=>h i (by omega)),h n (by omega)]
structure KQ (k p:Int) (w:Nat):Prop where
 ck:k=7\/k=8
 cp:2<=p/\p<=1000003
 cw:1<=w/\w<=6
 w8:k=8->w=4
theorem Wu {k p n:Int} (h:jk (k,p,n)=true) (hk:k=7\/k=8):KQ k p (bZ (k,p,n)):=by
 have hw:=Fx h
 refine⟨hk,?_,hw.2,fun e=>by subst e;rfl⟩
 rcases B5 h with⟨rfl,rfl,rfl⟩|⟨rfl,hp,rfl⟩|⟨rfl,hp,rfl⟩|⟨rfl,hp,rfl⟩|⟨rfl,hp,rfl⟩|⟨rfl,rfl,hn⟩|⟨rfl,hp,hn⟩|⟨rfl,hp,mE,rfl⟩
 all_goals first|exact eF hp|(exfalso;omega)
theorem Ep {r:Int×Int×Int} {a b:Int} (h:¬(r.1=7\/r.1=8)):wI r [a] [b]=[pw r a b]:=by simp only[wI];rw[if_neg h];rfl
theorem Xm {r:Int×Int×Int} {x y:List Int} (hx:rj r x=true) (hy:rj r y=true) (hw:bZ r=1):∃a b,x=[a]/\y=[b]/\(0<=a/\a<=eH r)/\0<=b/\b<=eH r:=
 ⟨_,_,(Da hx hw).1,(Da hy hw).1,(Da hx hw).2,(Da hy hw).2⟩
theorem alZ (k p n:Int):BS (k,p,n)=ox (bZ (k,p,n)) fun j=>if j=0 then(if k=4 then 0 else if k=5\/k=6 then eH (k,p,n) else 1) else 0:=by
 simp only[BS]
 rw[apb]
 exact apc _ 0 _
end Go.Am
end
section
namespace Go.Am
def ch:Nat->Nat->Nat
 |_,0=>1
 |0,_+1=>0
 |n+1,k+1=>ch n k+ch n (k+1)
theorem HA:∀{n k:Nat},n<k->ch n k=0
 |0,k+1,_=>by simp[ch]
 |n+1,k+1,h=>by simp[ch,HA (show n<k by omega),HA (show n<k+1 by omega)]
theorem C0 (n:Nat):ch n 0=1:=by cases n<;>rfl
theorem Wz:∀n,ch n n=1
 |0=>rfl
 |n+1=>by simp[ch,Wz n,HA (Nat.lt_succ_self n)]
theorem HB:∀(n k:Nat),(k+1)*ch (n+1) (k+1)=(n+1)*ch n k
 |0,0=>by simp[ch]
 |0,k+1=>by simp[ch]
 |n+1,0=>by
  have h:=HB n 0
  simp only[C0] at h⊢
  have e:ch (n+1+1) (0+1)=ch (n+1) 0+ch (n+1) (0+1):=rfl
  rw[e,C0]
  omega
 |n+1,k+1=>by
  have h1:=HB n k
  have h2:=HB n (k+1)
  have e1:ch (n+1+1) (k+1+1)=ch (n+1) (k+1)+ch (n+1) (k+1+1):=rfl
  have e2:ch (n+1) (k+1)=ch n k+ch n (k+1):=rfl
  rw[e1]
  generalize ch (n+1) (k+1+1)=B at*
  generalize ch (n+1) (k+1)=A at*
  generalize ch n k=u at*
  generalize ch n (k+1)=v at*
  subst e2
  grind
def nz (f:Nat->Nat):Nat->Nat
 |0=>0
 |m+1=>nz f m+f m
theorem acD (n a:Nat):∀m,nz (fun k=>ch (n+1) k*a^k) (m+1)=nz (fun k=>ch n k*a^k) (m+1)+a*nz (fun k=>ch n k*a^k) m
 |0=>by simp[nz,C0]
 |m+1=>by
  have h:=acD n a m
  simp only[nz] at h⊢
  have e:ch (n+1) (m+1)=ch n m+ch n (m+1):=rfl
  rw[h,e,Nat.pow_succ]
  grind
theorem Wj (a:Nat):∀n,(a+1)^n=nz (fun k=>ch n k*a^k) (n+1)
 |0=>by simp[nz,C0]
 |n+1=>by
  rw[acD]
  have e:nz (fun k=>ch n k*a^k) (n+1+1)=nz (fun k=>ch n k*a^k) (n+1):=by
   show nz _ (n+1)+ch n (n+1)*a^(n+1)=_
   rw[HA (Nat.lt_succ_self n)];simp
  rw[e,<-Wj a n,Nat.pow_succ]
  grind
theorem acC {p:Nat} {f:Nat->Nat}:∀m,(∀k,0<k->k<=m->p∣f k)->nz f (m+1)%p=f 0%p
 |0,h=>by simp[nz]
 |m+1,h=>by
  have i:=acC m fun k h1 h2=>h k h1 (by omega)
  obtain⟨c,hc⟩:=h (m+1) (by omega) (Nat.le_refl _)
  show(nz f (m+1)+f (m+1))%p=_
  rw[hc,Nat.add_mul_mod_self_left,i]
def xC (p:Nat):Prop:=2<=p/\∀d,d∣p->d=1\/d=p
theorem xC.WV {p a:Nat} (hp:xC p) (h:¬p∣a):Nat.Coprime p a:=by
 have:=hp.2 (Nat.gcd p a) (Nat.gcd_dvd_left p a)
 rcases this with h1|h1
 ·exact h1
 ·exact absurd (h1▸Nat.gcd_dvd_right p a) h
theorem xC.ch {p k:Nat} (hp:xC p) (h1:0<k) (h2:k<p):p∣ch p k:=by
 obtain⟨q,rfl⟩:∃q,p=q+1:=⟨p - 1,by omega⟩
 obtain⟨j,rfl⟩:∃j,k=j+1:=⟨k - 1,by omega⟩
 have hm:=HB q j
 have hd:(q+1)∣(j+1)*Go.Am.ch (q+1) (j+1):=⟨Go.Am.ch q j,hm⟩
 exact(hp.WV fun h=>absurd (Nat.le_of_dvd (by omega) h) (by omega)).dvd_of_dvd_mul_left hd
theorem XM {p:Nat} (hp:xC p):∀a,a^p%p=a%p
 |0=>by rw[Nat.zero_pow (by have:=hp.1;omega)]
 |a+1=>by
  rw[Wj]
  show(nz _ p+Go.Am.ch p p*a^p)%p=_
  obtain⟨q,rfl⟩:∃q,p=q+1:=⟨p - 1,by have:=hp.1;omega⟩
  have h:=acC (p:=q+1) (f:=fun k=>Go.Am.ch (q+1) k*a^k) q fun k h1 h2=>Nat.dvd_trans (hp.ch h1 (by omega)) (Nat.dvd_mul_right _ _)
  rw[Wz,Nat.one_mul,Nat.add_mod,h,XM hp a]
  simp only[C0,Nat.pow_zero,Nat.mul_one]
  rw[<-Nat.add_mod,Nat.add_comm]
theorem agD {p a:Nat} (hp:xC p) (ha:¬p∣a):a*a^(p - 2)%p=1:=by
 have h2:=hp.1
 have h:=XM hp a
 have e:a^p=a*(a*a^(p - 2)):=by
  obtain⟨q,rfl⟩:∃q,p=q+2:=⟨p - 2,by omega⟩
  rw[Nat.pow_succ,Nat.pow_succ,Nat.add_sub_cancel]
  rw[Nat.mul_comm a (a^q),Nat.mul_comm a (a^q*a)]
 rw[e] at h
 have ID:0<a:=by
  rcases Nat.eq_zero_or_pos a with h|h
  ·subst h;exact absurd ⟨0,by simp⟩ ha
  ·exact h
 have hz:0<a*a^(p - 2):=Nat.mul_pos ID (Nat.pow_pos ID)
 generalize a*a^(p - 2)=z at h hz⊢
 obtain⟨y,rfl⟩:∃y,z=y+1:=⟨z - 1,by omega⟩
 have hd:p∣a*y:=by
  have e:a*(y+1)=a*y+a:=by rw[Nat.mul_add,Nat.mul_one]
  rw[e] at h
  have:(a*y+a - a)%p=0:=Nat.sub_mod_eq_zero_of_mod_eq h
  rw[Nat.add_sub_cancel] at this
  exact Nat.dvd_of_mod_eq_zero this
 obtain⟨c,rfl⟩:=(hp.WV ha).dvd_of_dvd_mul_left hd
 rw[Nat.add_comm,Nat.add_mul_mod_self_left]
 exact Nat.mod_eq_of_lt (by omega)
end Go.Am
end
section
namespace Go.Am
theorem ah9 {p:Int} (h:ct p=true):xC p.toNat:=by
 have hp:=eF h
 obtain⟨n,rfl⟩:=fz (show 0<=p by omega)
 simp only[Int.toNat_natCast]
 refine⟨by omega,fun d hd=>?_⟩
 rcases Nat.lt_or_ge d 2 with h2|h2
 ·rcases Nat.eq_zero_or_pos d with h0|h0
  ·subst h0
   have:=Nat.eq_zero_of_zero_dvd hd
   omega
  ·exact .inl (by omega)
 ·obtain⟨e,he⟩:=hd
  simp only[ct,Bool.and_eq_true,decide_eq_true_eq,Bool.not_eq_true',List.any_eq_false] at h
  have cf:∀a b:Nat,2<=a->2<=b->a<=b->n≠a*b:=by
   intro a b ha hb eQ e
   have h1:a*a<=n:=by rw[e];exact Nat.mul_le_mul_left _ eQ
   have h3:a<1001:=by
    rcases Nat.lt_or_ge a 1001 with h|h
    ·exact h
    ·have:=Nat.mul_le_mul h h;omega
   refine h.2 a (by simp;omega) ?_
   unfold re
   have ea:((a:Int))*(a:Int)=((a*a:Nat):Int):=by norm_cast
   simp only[Bool.and_eq_true,decide_eq_true_eq]
   constructor
   ·rw[ea];omega
   ·rw[e];push_cast;exact Int.mul_emod_right _ _
  right
  rcases Nat.lt_or_ge e 2 with h3|h3
  ·have:e=1:=by
    rcases Nat.eq_zero_or_pos e with h0|h0
    ·subst h0;simp at he;omega
    ·omega
   subst this;omega
  ·exfalso
   rcases Nat.le_total d e with N8|N8
   ·exact cf d e h2 h3 N8 he
   ·exact cf e d h3 h2 N8 (by rw[he,Nat.mul_comm])
theorem aaY (x:Int) (b:Nat):∀m:Nat,(x*x)^m*x^b=x^(2*m+b)
 |0=>by simp
 |m+1=>by
  have ih:=aaY x b m
  rw[show 2*(m+1)+b=2*m+b+1+1 by omega,Int.pow_succ,Int.pow_succ (n:=2*m+b+1),Int.pow_succ (n:=2*m+b),<-ih]
  grind
theorem ah4 {p:Int} (hp:dO p):∀(n:Nat) (out x:Int),kg p out x n%p=out*x^n%p:=by
 intro n
 induction n using Nat.strongRecOn with
 |ind n ih=>
  intro out x
  by_cases h0:n=0
  ·subst h0;rw[Pg];simp
  ·rw[Ph h0,ih (n/2) (by omega)]
   have e:x^n=(x*x)^(n/2)*x^(n%2):=by
    rw[aaY,Nat.div_add_mod]
   rw[e]
   have h1:((x*x%p)^(n/2))%p=((x*x)^(n/2))%p:=by
    have:∀k:Nat,((x*x%p)^k)%p=((x*x)^k)%p:=by
     intro k
     induction k with
     |zero=>simp
     |succ k ih=>rw[Int.pow_succ,Int.pow_succ,Int.mul_emod,ih,Int.emod_emod,<-Int.mul_emod]
    exact this _
   by_cases hb:n%2=1
   ·rw[if_pos hb,hb,Int.mul_emod,h1,Int.emod_emod,<-Int.mul_emod]
    congr 1
    grind
   ·rw[if_neg hb,show n%2=0 by omega,Int.mul_emod,h1,<-Int.mul_emod]
    congr 1
    grind
theorem ZE {p x:Int} (bx:ct p=true) (hx:fk p x) (h0:x≠0):x*kg p 1 x (p - 2).toNat%p=1:=by
 have hp:=eF bx
 have bi:dO p:=⟨hp.1,hp.2⟩
 obtain⟨n,rfl⟩:=fz (show 0<=p by omega)
 obtain⟨a,rfl⟩:=fz hx.1
 have hN:=ah9 bx
 simp only[Int.toNat_natCast] at hN
 have ha:¬n∣a:=fun h=>by
  have:=Nat.le_of_dvd (by omega) h
  have:=hx.2
  omega
 have hf:=agD hN ha
 have e:(((n:Int)) - 2).toNat=n - 2:=by omega
 rw[Int.mul_emod,ah4 bi,e,Int.one_mul,<-Int.mul_emod]
 exact_mod_cast hf
def gb (f g:Nat->Int):Nat->Int
 |0=>0
 |n+1=>gb f g n+f n*g n
theorem acA {p:Int} {f f' g:Nat->Int}:∀n,(∀k,k<n->∃q,f k=f' k+p*q)->∃q,gb f g n=gb f' g n+p*q
 |0,_=>⟨0,by simp[gb]⟩
 |n+1,h=>by
  obtain⟨q,hq⟩:=acA (g:=g) n fun k hk=>h k (by omega)
  obtain⟨q',eA⟩:=h n (by omega)
  exact⟨q+q'*g n,by simp only[gb,hq,eA];grind⟩
theorem U1 (f f2 g:Nat->Int) (c:Int):∀n,gb (fun k=>f k+c*f2 k) g n=gb f g n+c*gb f2 g n
 |0=>by simp[gb]
 |n+1=>by simp only[gb,U1 f f2 g c n];grind
theorem Kp (f g g2:Nat->Int) (c:Int):∀n,gb f (fun k=>g k - c*g2 k) n=gb f g n - c*gb f g2 n
 |0=>by simp[gb]
 |n+1=>by simp only[gb,Kp f g g2 c n];grind
theorem U2 (f g:Nat->Int) (c:Int):∀n,gb (fun k=>f k*c) g n=gb f g n*c
 |0=>by simp[gb]
 |n+1=>by simp only[gb,U2 f g c n];grind
theorem U3 (f g:Nat->Int) (c:Int):∀n,gb f (fun k=>g k*c) n=gb f g n*c
 |0=>by simp[gb]
 |n+1=>by simp only[gb,U3 f g c n];grind
def dl (a b:Nat):Int:=if a=b then 1 else 0
def lk (p:Int) (n:Nat) (E X:aU):Prop:=∀a,a<n->∀b,b<n->∃q,gb (E a) (fun k=>X k b) n=dl a b+p*q
theorem lk.congr {p:Int} {n:Nat} {E E' X:aU} (h:lk p n E X) (he:∀a,a<n->∀k,k<n->∃q,E' a k=E a k+p*q):lk p n E' X:=by
 intro a ha b hb
 obtain⟨q,hq⟩:=h a ha b hb
 obtain⟨q',eA⟩:=acA (p:=p) (f:=E' a) (f':=E a) (g:=fun k=>X k b) n (he a ha)
 exact⟨q+q',by rw[eA,hq];grind⟩
theorem lk.swap {p:Int} {n:Nat} {E X:aU} (h:lk p n E X) {s t:Nat} (hs:s<n) (ht:t<n):∃X',lk p n (cR E s t) X':=by
 let sw:Nat->Nat:=fun i=>if i=s then t else if i=t then s else i
 have Bg:∀i,i<n->sw i<n:=by
  intro i hi
  show(if i=s then t else if i=t then s else i)<n
  split
  ·exact ht
  ·split
   ·exact hs
   ·exact hi
 have vY:∀i j,sw i=sw j->i=j:=by
  intro i j
  show(if i=s then t else if i=t then s else i)=(if j=s then t else if j=t then s else j)->i=j
  intro h
  repeat' split at h
  all_goals omega
 refine⟨fun k b=>X k (sw b),fun a ha b hb=>?_⟩
 obtain⟨q,hq⟩:=h (sw a) (Bg a ha) (sw b) (Bg b hb)
 refine⟨q,?_⟩
 have e:cR E s t a=E (sw a):=by
  funext k
  show(if a=s then E t k else if a=t then E s k else E a k)=E (if a=s then t else if a=t then s else a) k
  split
  ·rfl
  ·split<;>rfl
 rw[e,hq]
 congr 1
 unfold dl
 by_cases eQ:a=b
 ·subst eQ;simp
 ·rw[if_neg eQ,if_neg fun h=>eQ (vY _ _ h)]
theorem lk.an5 {p inv u:Int} {n:Nat} {E X:aU} (h:lk p n E X) {t:Nat} (ht:t<n) (hu:u*inv%p=1):∃X',lk p n (rW p inv E t) X':=by
 have kG:∃z,u*inv=1+p*z:=⟨u*inv/p,by have:=Int.emod_add_mul_ediv (u*inv) p;omega⟩
 obtain⟨z,hz⟩:=kG
 refine⟨fun k b=>if b=t then X k t*u else X k b,lk.congr (E:=fun a k=>if a=t then E t k*inv else E a k) (fun a ha b hb=>?_) (fun a ha k hk=>?_)⟩
 ·obtain⟨q,hq⟩:=h a ha b hb
  by_cases bQ:a=t
  ·subst bQ
   by_cases nc:b=a
   ·subst nc
    refine⟨z+q*inv*u,?_⟩
    simp only[if_true]
    rw[U2,U3,hq,dl,if_pos rfl]
    grind
   ·refine⟨q*inv,?_⟩
    simp only[if_true,if_neg nc]
    rw[U2,hq,dl,if_neg (Ne.symm nc)]
    grind
  ·by_cases nc:b=t
   ·subst nc
    refine⟨q*u,?_⟩
    simp only[if_neg bQ,if_true]
    rw[U3]
    have:gb (fun k=>E a k) (fun k=>X k b) n=dl a b+p*q:=hq
    rw[this,dl,if_neg bQ]
    grind
   ·refine⟨q,?_⟩
    simp only[if_neg bQ,if_neg nc]
    exact hq
 ·unfold rW
  by_cases bQ:a=t
  ·simp only[bQ,if_true]
   refine⟨-(E t k*inv/p),?_⟩
   have:=Int.emod_add_mul_ediv (E t k*inv) p
   have e:p* -(E t k*inv/p)= -(p*(E t k*inv/p)):=Int.mul_neg _ _
   omega
  ·simp only[bQ,if_false]
   exact⟨0,by simp⟩
theorem lk.add {p f:Int} {n:Nat} {E E' X:aU} (h:lk p n E X) {m t:Nat} (hm:m<n) (ht:t<n) (A8:m≠t) (he:∀a,a<n->∀k,k<n->∃q,E' a k=(if a=m then E m k+f*E t k else E a k)+p*q):∃X',lk p n E' X':=by
 refine⟨fun k b=>if b=t then X k t - f*X k m else X k b,lk.congr (E:=fun a k=>if a=m then E m k+f*E t k else E a k) (fun a ha b hb=>?_) he⟩
 obtain⟨q1,h1⟩:=h a ha b hb
 obtain⟨q2,h2⟩:=h t ht b hb
 obtain⟨q3,h3⟩:=h a ha m hm
 obtain⟨q4,h4⟩:=h t ht m hm
 have jO:gb (fun k=>E a k) (fun k=>X k b) n=dl a b+p*q1:=h1
 have AP:gb (fun k=>E t k) (fun k=>X k b) n=dl t b+p*q2:=h2
 have vQ:gb (fun k=>E a k) (fun k=>X k m) n=dl a m+p*q3:=h3
 have NO:gb (fun k=>E t k) (fun k=>X k m) n=dl t m+p*q4:=h4
 have d1:dl t m=0:=if_neg (Ne.symm A8)
 by_cases x8:a=m
 ·subst x8
  have d2:dl a a=1:=if_pos rfl
  by_cases nc:b=t
  ·subst nc
   have d3:dl a b=0:=if_neg A8
   have d4:dl b b=1:=if_pos rfl
   refine⟨q1+f*q2 - f*q3 - f*f*q4,?_⟩
   simp only[if_true]
   rw[U1,Kp,Kp,jO,AP,vQ,NO,d1,d2,d3,d4]
   grind
  ·refine⟨q1+f*q2,?_⟩
   have d3:dl t b=0:=if_neg (Ne.symm nc)
   simp only[if_true,if_neg nc]
   rw[U1,jO,AP,d3]
   grind
 ·by_cases nc:b=t
  ·subst nc
   have d3:dl a m=0:=if_neg x8
   refine⟨q1 - f*q3,?_⟩
   simp only[if_neg x8,if_true]
   rw[Kp,jO,vQ,d3]
   grind
  ·refine⟨q1,?_⟩
   simp only[if_neg x8,if_neg nc]
   exact jO
def RK (p:Int) (n:Nat) (s:aU×List Int×Int) (j:Nat):Prop:=
 (∃X,lk p n (fun a k=>s.1 a (n+k)) X)/\∀b,b<j->∀i,s.2.1.length<=i->i<n->s.1 i b=0
theorem RK.step {p:Int} {n:Nat} {s:aU×List Int×Int} {j:Nat} (bx:ct p=true) (hj:j<2*n) (I:RI p n (2*n) s j) (h:RK p n s j):RK p n (jX p n s j) (j+1):=by
 have hp:dO p:=eF bx
 obtain⟨⟨X,hX⟩,hz⟩:=h
 obtain⟨M,L,d⟩:=s
 simp only at hX hz
 by_cases hl:L.length<n
 ·cases hk:pA M j (n - L.length) L.length with
  |none=>
   rw[Rr (s:=(M,L,d)) hl hk]
   refine⟨⟨X,hX⟩,fun b hb i h1 h2=>?_⟩
   by_cases x9:b=j
   ·subst x9;exact JJ hk i h1 (by simp only at h1;omega)
   ·exact hz b (by omega) i h1 h2
  |some k=>
   rw[Rs (s:=(M,L,d)) hl hk]
   simp only
   have hq:=EF hk
   have ym:k<n:=by omega
   have hM:de p n (2*n) M:=I.m
   have hx:fk p (M k j):=hM k ym j hj
   have Bg:cR M L.length k L.length j=M k j:=if_pos rfl
   have hi:=ZE bx hx hq.2.2
   generalize Oj:kg p 1 (M k j) (p - 2).toNat=inv at hi
   have ahs:od p M L.length j k=rW p inv (cR M L.length k) L.length:=by unfold od;rw[Bg,Oj]
   rw[ahs]
   have hS:de p n (2*n) (cR M L.length k):=Kq hM hl ym
   generalize IB:rW p inv (cR M L.length k) L.length=M2
   have apM:de p n (2*n) M2:=by rw[<-IB];exact abI hp hS _
   constructor
   ·obtain⟨X1,hX1⟩:=hX.swap (s:=L.length) (t:=k) hl ym
    obtain⟨X2,hX2⟩:=hX1.an5 (inv:=inv) (u:=M k j) hl hi
    have Ae:lk p n (fun a b=>e9 p M2 L.length j 0 a (n+b)) X2:=by
     rw[WL,<-IB];exact hX2
    have cf:∀m,m<=n->∃X',lk p n (fun a b=>e9 p M2 L.length j m a (n+b)) X':=by
     intro m
     induction m with
     |zero=>intro _;exact⟨X2,Ae⟩
     |succ m ih=>
      intro hm
      obtain⟨X',Yu⟩:=ih (by omega)
      by_cases A8:m=L.length
      ·subst A8
       rw[WN];exact⟨X',Yu⟩
      ·refine Yu.add (f:=p - M2 m j) (m:=m) (t:=L.length) (by omega) hl A8 fun a ha b hb=>?_
       show∃q,e9 p M2 L.length j (m+1) a (n+b)=_
       by_cases x8:a=m
       ·subst x8
        rw[if_pos rfl]
        show∃q,e9 p M2 L.length j (a+1) a (n+b)=(e9 p M2 L.length j a a (n+b)+(p - M2 a j)*e9 p M2 L.length j a L.length (n+b))+p*q
        rw[HM,WO]
        unfold e9
        rw[if_pos ⟨by omega,A8⟩]
        refine⟨-((M2 a (n+b)+(p - M2 a j)*M2 L.length (n+b))/p),?_⟩
        have e1:=Int.emod_add_mul_ediv (M2 a (n+b)+(p - M2 a j)*M2 L.length (n+b)) p
        have e2:=Int.mul_neg p ((M2 a (n+b)+(p - M2 a j)*M2 L.length (n+b))/p)
        omega
       ·rw[if_neg x8]
        refine⟨0,?_⟩
        show e9 p M2 L.length j (m+1) a (n+b)=e9 p M2 L.length j m a (n+b)+p*0
        unfold e9
        by_cases hc:a<m/\a≠L.length
        ·rw[if_pos hc,if_pos ⟨by omega,hc.2⟩];simp
        ·rw[if_neg hc,if_neg (by omega)];simp
    exact cf n (Nat.le_refl _)
   ·intro b hb i h1 h2
    simp only[List.length_append,List.length_cons,List.length_nil] at h1
    show e9 p M2 L.length j n i b=0
    unfold e9
    rw[if_pos ⟨h2,by omega⟩]
    have e2:∀c,M2 i c=cR M L.length k i c:=fun c=>by rw[<-IB];exact if_neg (by omega)
    have e3:∀c,M2 L.length c=M k c*inv%p:=fun c=>by rw[<-IB];show(if L.length=L.length then _ else _)=_;rw[if_pos rfl];congr 2;exact if_pos rfl
    by_cases x9:b=j
    ·subst x9
     rw[e3 b,hi]
     have:M2 i b+(p - M2 i b)*1=p:=by omega
     rw[this];exact Int.emod_self
    ·have NZ:b<j:=by omega
     rw[e3 b,hz b NZ k hq.1 ym,e2 b]
     have:cR M L.length k i b=0:=by
      unfold cR
      rw[if_neg (by omega)]
      split
      ·exact hz b NZ L.length (Nat.le_refl _) hl
      ·exact hz b NZ i (by omega) h2
     rw[this];simp
 ·unfold jX
  rw[if_neg hl]
  exact⟨⟨X,hX⟩,fun b hb i h1 h2=>by simp only at h1;omega⟩
end Go.Am
end
section
namespace Go.Am
def apC (n:Nat) (M:aU):aU:=fun a b=>if b<n then M a b else dl a (b - n)
def apD (n:Nat) (M:aU):aU:=bY (2*n) (aG n (2*n) (apC n M))
def ZD (p:Int) (n:Nat) (M:aU):aU×List Int×Int:=bK p n (apD n M) (2*n)
def ah6 (p:Int) (n:Nat) (M:aU):Prop:=∀i,i<n->(ZD p n M).2.1.getD i 0=(i:Int)
instance (p:Int) (n:Nat) (M:aU):Decidable (ah6 p n M):=inferInstanceAs (Decidable (∀i,i<n->(ZD p n M).2.1.getD i 0=(i:Int)))
section
variable {p:Int} {n:Nat} {M R:aU} {L:List Int}
end
section
variable {p:Int} {n:Nat} {M R:aU} {L:List Int}
end
end Go.Am
end
section
namespace Go.Am
abbrev jn:=Int×Int×List Int
abbrev KP:=Int×Int×List Int×List (Int×Int×List Int)×List Int
def KH (k:Nat) (w:List Int):Prop:=∀c∈w,0<=c/\c<(k:Int)
instance (k:Nat) (w:List Int):Decidable (KH k w):=inferInstanceAs (Decidable (∀c∈w,0<=c/\c<(k:Int)))
def adE (x:KP):Bool:=match x with
 |(m,n,a,ms,b)=>ct m&&(decide (0<=n/\n<=24)&&((mV m a&&decide ((a.length:Int)=n))&&((mV m b&&decide ((b.length:Int)=n))&&(decide (1<=ms.length/\ms.length<=4)&&ms.all fun y=>decide (y.1=n/\y.2.1=n/\y.2.2.length=n.toNat*n.toNat)&&mV m y.2.2))))
def abe (x:KP×List Int):Prop:=adE x.1=true/\KH x.1.2.2.2.1.length x.2/\x.2.length<=1048576
instance (x:KP×List Int):Decidable (abe x):=by unfold abe;infer_instance
theorem anC {m:Int} {l:List Int}:mV m l=true↔eX m l:=by
 simp only[mV,eX,List.all_eq_true,Ja,decide_eq_true_eq,fk]
structure CB (N:Nat) (p:Int) (n:Nat) (a:List Int) (ms:List jn) (b:List Int):Prop where
 pr:ct p=true
 hn:n<=N
 al:a.length=n
 ap:eX p a
 bl:b.length=n
 bp:eX p b
 l1:1<=ms.length
 l4:ms.length<=4
 hm:∀x∈ms,∃M:aU,x=((n:Int),(n:Int),aG n n M)/\de p n n M
abbrev adb:=CB 12
abbrev ada:=CB 24
theorem CB.p {N:Nat} {p:Int} {n:Nat} {a b:List Int} {ms:List jn} (h:CB N p n a ms b):dO p:=eF h.pr
theorem CB.b {p:Int} {n:Nat} {a b:List Int} {ms:List jn} (h:adb p n a ms b):ada p n a ms b:=⟨h.pr,Nat.le_trans h.hn (by omega),h.al,h.ap,h.bl,h.bp,h.l1,h.l4,h.hm⟩
section
variable {p:Int} {n:Nat} {a b:List Int} {ms:List jn}
end
end Go.Am
end
section
namespace Go.Am
section
variable {p:Int} {n m:Nat} {a b a2 b2:List Int} {ms PY:List jn}
end
section
variable {p sg:Int} {n m:Nat} {a b a2 b2:List Int} {ms PY:List jn}
end
end Go.Am
end
section
namespace Go.Am
section
variable {n:Int} {d:List (Int×Int)} {a b:Int}
end
end Go.Am
end
section
namespace Go.Am
def pE (b a:Int) (l:List Int):List Int:=l.map fun x=>if x=b then a else x
def vz (l:List Int) (i:Int):Int:=l.getD i.toNat 0
def wz (n:Nat):List Int:=(List.range n).map fun i=>((i:Nat):Int)
def BW (s:Nat) (i:Nat) (st:Int×List Int) (e:Int×Int):Int×List Int:=
 if s.testBit i=true/\vz st.2 e.1≠vz st.2 e.2 then(st.1 - 1,pE (vz st.2 e.2) (vz st.2 e.1) st.2) else st
def parts (n:Int) (es:List (Int×Int)) (s:Int):Int×List Int:=AJ (BW s.toNat) 0 (n,wz n.toNat) es
def PF (s:Nat) (i:Nat) (l:List Int) (e:Int×Int):List Int:=
 if s.testBit i=true then pE (max (vz l e.1) (vz l e.2)) (min (vz l e.1) (vz l e.2)) l else l
def MH (l:List Int):Int:=((List.range l.length).countP fun i=>l.getD i 0==(i:Int):Nat)
theorem Pk (n:Nat):(wz n).length=n:=by simp[wz]
theorem Rw (b a:Int) (l:List Int):(pE b a l).length=l.length:=by simp[pE]
theorem aal (a b:Int):n7 a b=min a b:=by unfold n7;split<;>omega
theorem WX (p:Nat->Bool) (j:Nat):(List.range (j+1)).countP p=(List.range j).countP p+(if p j=true then 1 else 0):=by
 rw[List.range_succ,List.countP_append,List.countP_singleton]
theorem WW (p q:Nat->Bool) (k:Nat):∀n,k<n->(∀i,i<n->i≠k->p i=q i)->p k=true->q k=false->(List.range n).countP p=(List.range n).countP q+1
 |0,h,_,_,_=>by omega
 |n+1,h,OI,h1,h2=>by
  rw[WX,WX]
  by_cases hk:k=n
  ·subst hk
   rw[h1,h2]
   have:(List.range k).countP p=(List.range k).countP q:=List.countP_congr fun i hi=>by
    have:=List.mem_range.1 hi
    rw[OI i (by omega) (by omega)]
   rw[this]
   simp
  ·rw[WW p q k n (by omega) (fun i hi=>OI i (by omega)) h1 h2,OI n (by omega) (by omega)]
   omega
structure CM (m:Nat) (l:List Int) (c:Int) (q:List Int):Prop where
 ll:l.length=m
 lq:q.length=m
 fY:∀i j:Nat,i<m->j<m->(l.getD i 0=l.getD j 0↔q.getD i 0=q.getD j 0)
 low:∀i:Nat,i<m->0<=l.getD i 0/\l.getD i 0<=(i:Int)/\l.getD (l.getD i 0).toNat 0=l.getD i 0
 gL:MH l=c
theorem abj {b a:Int} {l:List Int} {i:Nat} (h:i<l.length):(pE b a l).getD i 0=if l.getD i 0=b then a else l.getD i 0:=by
 simp[pE,List.getD,List.getElem?_map,List.getElem?_eq_getElem h]
theorem ans (b:Int) (l:List Int):pE b b l=l:=by
 unfold pE
 conv=>rhs;rw[<-List.map_id l]
 refine List.map_congr_left fun x _=>?_
 split
 ·rename_i h;exact h.symm
 ·rfl
theorem aak {b a x y:Int}:((if x=b then a else x)=(if y=b then a else y))↔(x=y\/((x=b\/x=a)/\(y=b\/y=a))):=by
 constructor
 ·intro h;split at h<;>split at h<;>omega
 ·intro h;split<;>split<;>omega
theorem CM.step {m:Nat} {l:List Int} {c:Int} {q:List Int} (h:CM m l c q) {u v:Nat} (hu:u<m) (hv:v<m) {s i:Nat}:
  CM m (PF s i l ((u:Int),(v:Int))) (BW s i (c,q) ((u:Int),(v:Int))).1 (BW s i (c,q) ((u:Int),(v:Int))).2:=by
 cases hb:s.testBit i with
 |false=>
  have e1:PF s i l ((u:Int),(v:Int))=l:=if_neg (by rw[hb];decide)
  have e2:BW s i (c,q) ((u:Int),(v:Int))=(c,q):=if_neg (fun hh=>by rw[hb] at hh;exact absurd hh.1 (by decide))
  rw[e1,e2]
  exact h
 |true=>
  have ep:q.getD u 0=q.getD v 0->BW s i (c,q) ((u:Int),(v:Int))=(c,q):=fun h=>if_neg (fun hh=>hh.2 h)
  have en:q.getD u 0≠q.getD v 0->BW s i (c,q) ((u:Int),(v:Int))=(c - 1,pE (q.getD v 0) (q.getD u 0) q):=fun h=>if_pos ⟨hb,h⟩
  have el:PF s i l ((u:Int),(v:Int))=pE (max (l.getD u 0) (l.getD v 0)) (min (l.getD u 0) (l.getD v 0)) l:=if_pos hb
  obtain⟨ll,lq,fY,low,gL⟩:=h
  by_cases hq:q.getD u 0=q.getD v 0
  ·have hl:=(fY u v hu hv).2 hq
   rw[ep hq,el,hl,Int.max_self,Int.min_self,ans]
   exact⟨ll,lq,fY,low,gL⟩
  ·have hl:l.getD u 0≠l.getD v 0:=fun e=>hq ((fY u v hu hv).1 e)
   rw[en hq,el]
   obtain⟨lu0,lu1,PP⟩:=low u hu
   obtain⟨lv0,lv1,PQ⟩:=low v hv
   obtain⟨lo,hi,e1,e2,bG,Be,ahk,v7,ug,YM⟩:∃lo hi:Nat,min (l.getD u 0) (l.getD v 0)=(lo:Int)/\max (l.getD u 0) (l.getD v 0)=(hi:Int)/\lo<hi/\
     (∀x:Int,(x=(hi:Int)\/x=(lo:Int))↔(x=l.getD v 0\/x=l.getD u 0))/\lo<m/\l.getD lo 0=(lo:Int)/\l.getD hi 0=(hi:Int)/\hi<m:=by
    obtain⟨a,ha⟩:=fz lu0
    obtain⟨b,hb⟩:=fz lv0
    rw[ha,Int.toNat_natCast] at PP
    rw[hb,Int.toNat_natCast] at PQ
    rw[ha] at lu1 hl
    rw[hb] at lv1 hl
    rw[ha,hb]
    rcases Nat.lt_or_ge a b with eQ|eQ
    ·exact⟨a,b,by omega,by omega,eQ,fun x=>by omega,by omega,PP,PQ,by omega⟩
    ·exact⟨b,a,by omega,by omega,by omega,fun x=>by omega,by omega,PQ,PP,by omega⟩
   rw[e1,e2]
   have gl:∀j,j<m->(pE (hi:Int) (lo:Int) l).getD j 0=if l.getD j 0=(hi:Int) then(lo:Int) else l.getD j 0:=fun j hj=>abj (by omega)
   have gq:∀j,j<m->(pE (q.getD v 0) (q.getD u 0) q).getD j 0=if q.getD j 0=q.getD v 0 then q.getD u 0 else q.getD j 0:=fun j hj=>abj (by omega)
   refine⟨by rw[Rw];exact ll,by rw[Rw];exact lq,?_,?_,?_⟩
   ·intro x y hx hy
    rw[gl x hx,gl y hy,gq x hx,gq y hy,aak,aak,Be,Be,fY x y hx hy,fY x u hx hu,fY x v hx hv,fY y u hy hu,fY y v hy hv]
   ·intro x hx
    obtain⟨h0,h1,h2⟩:=low x hx
    rw[gl x hx]
    by_cases OV:l.getD x 0=(hi:Int)
    ·rw[if_pos OV]
     refine⟨by omega,by omega,?_⟩
     rw[Int.toNat_natCast,gl lo ahk,v7,if_neg (by omega)]
    ·rw[if_neg OV]
     refine⟨h0,h1,?_⟩
     rw[gl _ (by omega),h2,if_neg OV]
   ·have hc:=WW (fun j=>l.getD j 0==(j:Int)) (fun j=>(pE (hi:Int) (lo:Int) l).getD j 0==(j:Int)) hi m YM ?_ (by rw[ug];simp) (by rw[gl hi YM,if_pos ug];simp;omega)
    ·unfold MH at gL⊢
     rw[Rw,ll]
     rw[ll,hc] at gL
     omega
    ·intro j hj aB
     rw[gl j hj]
     by_cases Oo:l.getD j 0=(hi:Int)
     ·rw[if_pos Oo,Oo,Bool.eq_iff_iff]
      simp only[beq_iff_eq]
      constructor
      ·intro h;omega
      ·intro h
       have:lo=j:=by omega
       subst this
       omega
     ·rw[if_neg Oo]
theorem Pj {m i:Nat} (h:i<m):(wz m).getD i 0=(i:Int):=by
 simp[wz,List.getD,List.getElem?_map,List.getElem?_range h]
theorem CM.init (m:Nat):CM m (wz m) (m:Int) (wz m):=by
 refine⟨Pk m,Pk m,fun _ _ _ _=>Iff.rfl,fun i hi=>?_,?_⟩
 ·rw[Pj hi,Int.toNat_natCast,Pj hi]
  omega
 ·unfold MH
  rw[Pk]
  have:(List.range m).countP (fun i=>(wz m).getD i 0==(i:Int))=(List.range m).length:=by
   rw[List.countP_eq_length]
   intro i hi
   rw[Pj (List.mem_range.1 hi)]
   simp
  rw[this,List.length_range]
end Go.Am
end
section
namespace Go.Am
end Go.Am
end
section
namespace Go.Am
def cS (om:Bool) (w:Nat) (x y:Nat->Int) (t:Nat):Int:=sm w (fun i=>sm w (fun j=>kW om x y t i j))
def pc (x y:Nat->Int) (t:Nat):Int:=sm (t+1) (fun i=>x i*y (t - i))
theorem Ce:∀(n:Nat) {f:Nat->Int},(∀i,i<n->f i=0)->sm n f=0
 |0,_,_=>rfl
 |n+1,f,h=>by simp only[sm];rw[Ce n (fun i hi=>h i (by omega)),h n (by omega)];rfl
theorem u6 {a:Nat} {f:Nat->Int}:∀(n:Nat),a<n->(∀i,i<n->i≠a->f i=0)->sm n f=f a
 |0,h,_=>by omega
 |n+1,h,hf=>by
  simp only[sm]
  by_cases e:a=n
  ·subst e
   rw[Ce a (fun i hi=>hf i (by omega) (by omega))];omega
  ·rw[u6 n (by omega) (fun i hi aB=>hf i (by omega) aB),hf n (by omega) (by omega)];omega
theorem Uw {m:Nat} {f:Nat->Int}:∀(n:Nat),m<=n->(∀i,i<n->m<=i->f i=0)->sm n f=sm m f
 |0,h,_=>by rw[show m=0 by omega]
 |n+1,h,hf=>by
  by_cases e:m=n+1
  ·rw[e]
  ·simp only[sm]
   rw[Uw n (by omega) (fun i hi hm=>hf i (by omega) hm),hf n (by omega) (by omega)];omega
theorem Cd {p:Int} {f g:Nat->Int}:∀{n:Nat},(∀i,i<n->f i%p=g i%p)->sm n f%p=sm n g%p
 |0,_=>rfl
 |n+1,h=>by simp only[sm];rw[Int.add_emod,Cd (n:=n) (fun i hi=>h i (by omega)),h n (by omega),<-Int.add_emod]
theorem CW {w t:Nat} (x y:Nat->Int) (h:t<w):cS false w x y t=pc x y t:=by
 have fx:∀i,i<w->sm w (fun j=>kW false x y t i j)=if i<=t then x i*y (t - i) else 0:=by
  intro i hi
  split
  ·rename_i vZ
   rw[u6 (a:=t - i) w (by omega) (fun j hj aB=>by unfold kW;rw[if_neg (by omega),if_neg (by simp)])]
   unfold kW
   rw[if_pos (by omega)]
  ·exact Ce w fun j hj=>by unfold kW;rw[if_neg (by omega),if_neg (by simp)]
 unfold cS pc
 rw[lV fx,Uw (m:=t+1) w (by omega) (fun i hi hm=>if_neg (by omega))]
 exact lV fun i hi=>if_pos (by omega)
theorem alH {p a b:Int} (eQ:a%p=b%p):(-a)%p=(-b)%p:=by
 have:(0 - a)%p=(0 - b)%p:=by rw[Int.sub_emod,eQ,<-Int.sub_emod]
 simpa using this
theorem Wo {om:Bool} {w t:Nat} {p:Int} {x x' y y':Nat->Int} (hx:∀i,i<w->x i%p=x' i%p) (hy:∀i,i<w->y i%p=y' i%p):cS om w x y t%p=cS om w x' y' t%p:=by
 refine Cd fun i hi=>Cd fun j hj=>?_
 have hm:(x i*y j)%p=(x' i*y' j)%p:=by rw[Int.mul_emod,hx i hi,hy j hj,<-Int.mul_emod]
 unfold kW
 split
 ·exact hm
 ·split
  ·exact alH hm
  ·rfl
theorem L4 {om:Bool} {w t:Nat} {x x' y y':Nat->Int} (hx:∀i,i<w->x i=x' i) (hy:∀i,i<w->y i=y' i):cS om w x y t=cS om w x' y' t:=
 lV fun i hi=>lV fun j hj=>by unfold kW;rw[hx i hi,hy j hj]
theorem amU (x y z:Nat->Int) {t:Nat} (h:t<6):pc (pc x y) z t=pc x (pc y z) t:=by
 match t,h with
 |0,_=>simp only[pc,sm,Nat.reduceSub,Nat.reduceAdd,Nat.zero_add];try grind
 |1,_=>simp only[pc,sm,Nat.reduceSub,Nat.reduceAdd,Nat.zero_add];try grind
 |2,_=>simp only[pc,sm,Nat.reduceSub,Nat.reduceAdd,Nat.zero_add];try grind
 |3,_=>simp only[pc,sm,Nat.reduceSub,Nat.reduceAdd,Nat.zero_add];try grind
 |4,_=>simp only[pc,sm,Nat.reduceSub,Nat.reduceAdd,Nat.zero_add];try grind
 |5,_=>simp only[pc,sm,Nat.reduceSub,Nat.reduceAdd,Nat.zero_add];try grind
theorem xM (x y:Nat->Int):cS true 4 x y 0=x 0*y 0 - x 1*y 3 - x 2*y 2 - x 3*y 1:=by simp[cS,sm,kW];grind
theorem xN (x y:Nat->Int):cS true 4 x y 1=x 0*y 1+x 1*y 0 - x 2*y 3 - x 3*y 2:=by simp[cS,sm,kW];grind
theorem xO (x y:Nat->Int):cS true 4 x y 2=x 0*y 2+x 1*y 1+x 2*y 0 - x 3*y 3:=by simp[cS,sm,kW];grind
theorem xP (x y:Nat->Int):cS true 4 x y 3=x 0*y 3+x 1*y 2+x 2*y 1+x 3*y 0:=by simp[cS,sm,kW]
theorem aek (x y z:Nat->Int) {t:Nat} (h:t<4):cS true 4 (cS true 4 x y) z t=cS true 4 x (cS true 4 y z) t:=by
 match t,h with
 |0,_=>rw[xM,xM];simp only[xM,xN,xO,xP];grind
 |1,_=>rw[xN,xN];simp only[xM,xN,xO,xP];grind
 |2,_=>rw[xO,xO];simp only[xM,xN,xO,xP];grind
 |3,_=>rw[xP,xP];simp only[xM,xN,xO,xP];grind
theorem adU {k p:Int} {w:Nat} (c:KQ k p w) (x y z:Nat->Int) {t:Nat} (h:t<w):cS (decide (k=8)) w (cS (decide (k=8)) w x y) z t=cS (decide (k=8)) w x (cS (decide (k=8)) w y z) t:=by
 by_cases h8:k=8
 ·obtain rfl:=c.w8 h8
  rw[decide_eq_true h8]
  exact aek x y z h
 ·rw[decide_eq_false h8]
  have h6:=c.cw
  rw[L4 (x':=pc x y) (y':=z) (fun i hi=>CW x y hi) (fun _ _=>rfl),CW _ _ h,L4 (x':=x) (y':=pc y z) (fun _ _=>rfl) (fun i hi=>CW y z hi),CW _ _ h]
  exact amU x y z (by omega)
theorem Mp (p:Int) (om:Bool) (w:Nat) (x y:Nat->Int):xS p om w x y=ox w fun t=>cS om w x y t%p:=rfl
theorem C6 {r:Int×Int×Int} (h:r.1=7\/r.1=8) (x y:List Int):wI r x y=xS r.2.1 (decide (r.1=8)) (bZ r) (d8 x) (d8 y):=if_pos h
theorem aam {a b c p:Int} (hp:0<=p) (ha:0<=a) (hb:0<=b) (hc:0<=c):min (min (a*b) p*c) p=min (a*b*c) p:=by
 generalize hm:a*b=m
 by_cases h:m<=p
 ·rw[show min m p=m by omega]
 ·rw[show min m p=p by omega]
  by_cases h0:c=0
  ·subst h0;simp
  ·have h1:p*1<=p*c:=Int.mul_le_mul_of_nonneg_left (by omega) hp
   have h2:p*c<=m*c:=Int.mul_le_mul_of_nonneg_right (by omega) hc
   omega
theorem ac3 {r:Int×Int×Int} (hk:¬(r.1=7\/r.1=8)):bZ r=1:=by
 obtain⟨k,p,n⟩:=r
 simp only at hk
 simp only[bZ,kz]
 rw[if_neg (by omega),if_neg (by omega)]
 rfl
theorem al0 {r:Int×Int×Int} (hr:jk r=true) (hk:¬(r.1=7\/r.1=8)) {a b c:Int} (ha:0<=a/\a<=eH r) (hb:0<=b/\b<=eH r) (hc:0<=c/\c<=eH r):pw r (pw r a b) c=pw r a (pw r b c):=by
 obtain⟨k,p,n⟩:=r
 simp only at hk
 rcases B5 hr with⟨rfl,rfl,rfl⟩|⟨rfl,hp,rfl⟩|⟨rfl,hp,rfl⟩|⟨rfl,hp,rfl⟩|⟨rfl,hp,rfl⟩|⟨rfl,rfl,hn⟩|⟨rfl,hp,hn⟩|⟨rfl,hp,mE,rfl⟩
 ·have o:∀u v,pw (1,0,0) u v=((u.toNat&&&v.toNat:Nat):Int):=fun _ _=>rfl
  rw[o,o,o,o,Int.toNat_natCast,Int.toNat_natCast,Nat.and_assoc]
 ·have o:∀u v,pw (2,p,0) u v=u*v%p:=fun _ _=>rfl
  rw[o,o,o,o,Int.mul_emod,Int.emod_emod,<-Int.mul_emod,Int.mul_emod a,Int.emod_emod,<-Int.mul_emod,Int.mul_assoc]
 ·have o:∀u v,pw (3,p,0) u v=min (u*v) p:=fun _ _=>rfl
  rw[o,o,o,o,aam (by omega) ha.1 hb.1 hc.1,Int.mul_comm a (min _ _),aam (by omega) hb.1 hc.1 ha.1,Int.mul_assoc a b c,Int.mul_comm a]
 ·have o:∀u v,pw (4,p,0) u v=min (u+v) p:=fun _ _=>rfl
  rw[o,o,o,o];omega
 ·have o:∀u v,pw (5,p,0) u v=min u v:=fun _ _=>rfl
  rw[o,o,o,o];omega
 ·have o:∀u v,pw (6,0,n) u v=((u.toNat&&&v.toNat:Nat):Int):=fun _ _=>rfl
  rw[o,o,o,o,Int.toNat_natCast,Int.toNat_natCast,Nat.and_assoc]
 ·omega
 ·omega
theorem mul_assoc {r:Int×Int×Int} {x y z:List Int} (hr:jk r=true) (hx:rj r x=true) (hy:rj r y=true) (hz:rj r z=true):wI r (wI r x y) z=wI r x (wI r y z):=by
 by_cases hk:r.1=7\/r.1=8
 ·obtain⟨k,p,n⟩:=r
  have c:=Wu hr hk
  rw[C6 hk,C6 hk,C6 hk,C6 hk]
  simp only
  refine acG fun t ht=>?_
  show cS (decide (k=8)) (bZ (k,p,n)) (d8 (xS p (decide (k=8)) (bZ (k,p,n)) (d8 x) (d8 y))) (d8 z) t%p=cS (decide (k=8)) (bZ (k,p,n)) (d8 x) (d8 (xS p (decide (k=8)) (bZ (k,p,n)) (d8 y) (d8 z))) t%p
  have e1:cS (decide (k=8)) (bZ (k,p,n)) (d8 (xS p (decide (k=8)) (bZ (k,p,n)) (d8 x) (d8 y))) (d8 z) t%p=cS (decide (k=8)) (bZ (k,p,n)) (cS (decide (k=8)) (bZ (k,p,n)) (d8 x) (d8 y)) (d8 z) t%p:=
   Wo (fun i hi=>by rw[Mp,ML _ hi,Int.emod_emod]) (fun _ _=>rfl)
  have e2:cS (decide (k=8)) (bZ (k,p,n)) (d8 x) (d8 (xS p (decide (k=8)) (bZ (k,p,n)) (d8 y) (d8 z))) t%p=cS (decide (k=8)) (bZ (k,p,n)) (d8 x) (cS (decide (k=8)) (bZ (k,p,n)) (d8 y) (d8 z)) t%p:=
   Wo (fun _ _=>rfl) (fun i hi=>by rw[Mp,ML _ hi,Int.emod_emod])
  rw[e1,e2,adU c _ _ _ ht]
 ·have hw:=ac3 hk
  obtain⟨a,b,rfl,rfl,ha,hb⟩:=Xm hx hy hw
  obtain⟨_,c,e,rfl,_,hc⟩:=Xm hx hz hw
  rw[Ep hk,Ep hk,Ep hk,Ep hk,al0 hr hk ha hb hc]
theorem agI {k p n:Int} (hk:k=7\/k=8) {j:Nat} (hj:j<bZ (k,p,n)):d8 (BS (k,p,n)) j=if j=0 then 1 else 0:=by
 rw[alZ,ML _ hj,if_neg (show¬k=4 by omega),if_neg (show¬(k=5\/k=6) by omega)]
theorem adT {k p:Int} {w:Nat} (c:KQ k p w) (u:Nat->Int) (v:Int) {t:Nat} (h:t<w):cS (decide (k=8)) w u (fun j=>if j=0 then v else 0) t=u t*v:=by
 by_cases h8:k=8
 ·obtain rfl:=c.w8 h8
  rw[decide_eq_true h8]
  match t,h with
  |0,_=>rw[xM];simp
  |1,_=>rw[xN];simp
  |2,_=>rw[xO];simp
  |3,_=>rw[xP];simp
 ·rw[decide_eq_false h8,CW _ _ h]
  unfold pc
  rw[u6 (a:=t) (t+1) (by omega) (fun i hi aB=>by simp only;rw[if_neg (by omega),Int.mul_zero])]
  simp only
  rw[if_pos (by omega)]
theorem al1 {k p n:Int} (hr:jk (k,p,n)=true) (hk:¬(k=7\/k=8)) {a:Int} (ha:0<=a/\a<=eH (k,p,n)):pw (k,p,n) a (if k=4 then 0 else if k=5\/k=6 then eH (k,p,n) else 1)=a:=by
 rcases B5 hr with⟨rfl,rfl,rfl⟩|⟨rfl,hp,rfl⟩|⟨rfl,hp,rfl⟩|⟨rfl,hp,rfl⟩|⟨rfl,hp,rfl⟩|⟨rfl,rfl,hn⟩|⟨rfl,hp,hn⟩|⟨rfl,hp,mE,rfl⟩
 ·have e:eH (1,0,0)=1:=rfl
  have h1:a=0\/a=1:=by omega
  rcases h1 with rfl|rfl<;>decide
 ·have e:eH (2,p,0)=p - 1:=rfl
  have:=eF hp
  show a*1%p=a
  rw[Int.mul_one,Int.emod_eq_of_lt (by omega) (by omega)]
 ·have e:eH (3,p,0)=p:=rfl
  show min (a*1) p=a
  omega
 ·have e:eH (4,p,0)=p:=rfl
  show min (a+0) p=a
  omega
 ·have e:eH (5,p,0)=p:=rfl
  show min a p=a
  omega
 ·have e:eH (6,0,n)=2^n.toNat - 1:=rfl
  have e2:(((2:Nat)^n.toNat:Nat):Int)=(2:Int)^n.toNat:=by push_cast;rfl
  show((a.toNat&&&(2^n.toNat - 1:Int).toNat:Nat):Int)=a
  rw[show(2^n.toNat - 1:Int).toNat=2^n.toNat - 1 by omega,Nat.and_two_pow_sub_one_eq_mod,Nat.mod_eq_of_lt (by omega)]
  omega
 ·omega
 ·omega
theorem mul_one {r:Int×Int×Int} {x:List Int} (hr:jk r=true) (hx:rj r x=true):wI r x (BS r)=x:=by
 obtain⟨k,p,n⟩:=r
 by_cases hk:k=7\/k=8
 ·have c:=Wu hr hk
  rw[C6 hk,Mp]
  simp only
  have hT:eH (k,p,n)=p - 1:=by
   simp only[eH]
   rw[if_neg (by omega),if_neg (by omega),if_neg (by omega)]
  refine(acG fun t ht=>?_).trans (apa (Xl hx))
  rw[L4 (x':=d8 x) (y':=fun j=>if j=0 then 1 else 0) (fun _ _=>rfl) (fun i hi=>agI hk hi),adT c _ _ ht,Int.mul_one]
  have:=Xk hx ht
  rw[hT] at this
  exact Int.emod_eq_of_lt this.1 (by omega)
 ·have hw:=ac3 (r:=(k,p,n)) hk
  obtain⟨e,ha⟩:=Da hx hw
  have e1:BS (k,p,n)=[if k=4 then 0 else if k=5\/k=6 then eH (k,p,n) else 1]:=by simp only[BS];exact anu hw
  rw[e,e1,Ep hk,al1 hr hk ha]
end Go.Am
end
section
namespace Go.Am
abbrev Rg:=Int×Int×Int
abbrev T3:=List Int×List Int×List Int
abbrev FB:=Int×List (List Int)
def jm (r:Rg) (t:T3):Bool:=jk r&&(decide (0<=iE t.1 t.2.1)&&(decide ((t.2.2.length:Int)=iE t.1 t.2.1*kz r)&&t.2.2.all (uH (eH r))))
def VD:Rg×T3->Option Bool:=fun x=>if x.2.1.length<=1048576/\x.2.2.1.length<=1048576/\x.2.2.2.length<=1048576 then some (jm x.1 x.2) else none
def vi:Rg×T3->Option Bool:=VD
def Wy (R:List (List Int)) (ix:List Int) (i:Nat):Int:=(R.getD i []).getD (ix.getD i 0).toNat 0
def acB (x:FB×List Int):Prop:=(1<=x.1.1/\x.1.1<=12)/\x.2.length<=12/\∀i,i<x.2.length->i<x.1.2.length/\(0<=x.2.getD i 0/\(x.2.getD i 0).toNat<(x.1.2.getD i []).length)/\0<=Wy x.1.2 x.2 i/\Wy x.1.2 x.2 i<=12
instance (x:FB×List Int):Decidable (acB x):=by unfold acB;infer_instance
def zL:List Int->Option Int:=fun l=>if l.length<=12/\∀v∈l,1<=v/\v<=8 then some (cV l) else none
def zJ:List Int×Int->Option (List Int):=FD
def aa4 (x:Rg×T3×Int×List Int):Prop:=jk x.1=true/\0<=x.2.2.1/\x.2.2.1.toNat*bZ x.1+x.2.2.2.length<=x.2.1.2.2.length/\x.2.1.2.2.length<=1048576
instance (x:Rg×T3×Int×List Int):Decidable (aa4 x):=by unfold aa4;infer_instance
def Mx (x:Rg×T3×Int):Prop:=jk x.1=true/\0<=x.2.2/\(x.2.2.toNat+1)*bZ x.1<=x.2.1.2.2.length/\x.2.1.2.2.length<=1048576
instance (x:Rg×T3×Int):Decidable (Mx x):=by unfold Mx;infer_instance
def WU (x:Rg×T3×FB):Prop:=(x.2.1.1.length<=1048576/\x.2.1.2.1.length<=1048576/\x.2.1.2.2.length<=1048576)/\L7 (x.2.1,x.2.2)
instance (x:Rg×T3×FB):Decidable (WU x):=by unfold WU;infer_instance
def Gx:ak:=[(.agg,[.int .i64,.int .i64,.int .i64]),(.agg,[.list [.int .i64],.list [.int .i64],.list [.int .i64]])]
def R9:ak:=[(.one,[.bool])]
def ajO:aN:=[]
def GN:ak:=[(.one,[.list [.int .i64]])]
def Sn:ak:=[(.one,[.int .i64])]
def aj1:aN:=[]
def GK:ak:=[(.one,[.list [.int .i64]]),(.one,[.int .i64])]
def Sk:ak:=[(.one,[.list [.int .i64]])]
def ajZ:aN:=[]
def Lf (NN:Nat):((Int×(Int×Int))×((List Int)×((List Int)×(List Int))))->(Option Bool):=
 (fun(((i0,i1,i2),l3,l4,l5):((Int×(Int×Int))×((List Int)×((List Int)×(List Int)))))=>
 (zD (i0,i1,i2)).aa (fun b6=>
 aC (ef b6)
 (some false)
 ((vj (l3,l4,l5)).aa (fun i7=>
 aC (hZ i7 ((-1:Int)))
 ((vl (i0,i1,i2)).aa (fun i8=>
 aC (cz (aI (J l5)) (c7 .i64 i7 i8))
 ((zI ((i0,i1,i2),l5)).aa (fun b9=>
 some b9))
 (some false)))
 (some false)))))
def Lq (NN:Nat):(List Int)->(Option Int):=
 (fun(l0:(List Int))=>
 cd (bN NN (fun((i1,l2,i3,i4):(Int×((List Int)×(Int×Int))))=>
 aC (bO i4 i3)
 ((dK l2 i4).aa (fun i5=>
 some (Sum.inl (c7 .i64 i1 i5,l2,i3,bS .i64 i4 1))))
 (some (Sum.inr (Sum.inl i1))))
 ((1:Int),l0,aI (J l0),(0:Int)))
 (fun i6=>
 some i6))
def VM (NN:Nat):((List Int)×Int)->(Option (List Int)):=
 (fun((l0,i1):((List Int)×Int))=>
 (n9 (aI (J l0)) (aI (J l0)) 8).aa (fun k2=>
 cd ((ai 0 k2 (J (dT k2 (0:Int)))).aa (fun _=>
 bN NN (fun(((l3,i4,i5),l6):(((List Int)×(Int×Int))×(List Int)))=>
 aC (gC (0:Int) i5)
 ((dK l3 i5).aa (fun i7=>
 (jH i4 i7).aa (fun i8=>
 (fj i5 (J l6)).aa (fun k9=>
 (dv l6 (aW 0 k9)).aa (fun db=>
 (dK l3 i5).aa (fun eS=>
 (y8 .i64 i4 eS).aa (fun eZ=>
 (ai 0 (J l6) (J (bW l6 (aW 0 k9) i8))).aa (fun _=>
 some (Sum.inl ((l3,eZ,eG .i64 i5 1),bW l6 (aW 0 k9) i8))))))))))
 (((ai 0 (J l6) (J l6)).aa (fun _=>
 some (Sum.inl l6))).aa (fun eK=>
 some (Sum.inr eK))))
 ((l0,i1,eG .i64 (aI (J l0)) (1:Int)),dT k2 (0:Int))))
 (fun gm=>
 (dP gm (J gm)).aa (fun eU=>
 some eU))))
theorem bI {α β:Type} (x:α) (f:α->Option β):(some x).aa f=f x:=by
 have h:∀o:Option α,o=some x->o.aa f=f x:=by intro o h;subst h;rfl
 exact h _ rfl
theorem Ky {r:Rg} {L D A:List Int} (h:jm r (L,D,A)=true):jk r=true/\(D.length<=12/\(∀x∈D,1<=x/\x<=8))/\iE L D=(br D:Int)/\(1<=br D/\br D<=4096)/\A.length=br D*bZ r/\iW D/\xI 4096 D=(br D:Int)/\cV D=(br D:Int)/\A.all (uH (eH r))=true:=by
 simp only[jm,Bool.and_eq_true,decide_eq_true_eq] at h
 obtain⟨h1,h2,h3,h4⟩:=h
 have hw:=Fx h1
 by_cases ha:nM L D=true/\cV D<=4096
 ·have e:iE L D=cV D:=if_pos ha
  have hd:=CT ha.1
  have hl:=vB ha.1
  have hI:=uR (D:=D) fun x hx=>(hd x hx).1
  have dL:=EJ (D:=D) fun x hx=>(hd x hx).1
  refine⟨h1,⟨by omega,hd⟩,e.trans hI,⟨dL,by omega⟩,?_,⟨by omega,fun x hx=>by have:=hd x hx;omega⟩,?_,hI,h4⟩
  ·rw[e,hI,hw.1] at h3
   exact_mod_cast h3
  ·unfold xI
   rw[Hz (by decide) _ 0 1 (fun x hx=>(hd x hx).1) (by decide) (by decide),Int.one_mul,hI,Int.min_eq_left (by omega)]
 ·have e:iE L D= -1:=if_neg ha
  rw[e] at h2
  exact absurd h2 (by decide)
theorem acT (L D:List Int):iE L D= -1\/(0<=iE L D/\iE L D<=4096):=by
 unfold iE
 split
 ·rename_i h
  have hd:=CT h.1
  have hI:=uR (D:=D) fun x hx=>(hd x hx).1
  right
  omega
 ·exact .inl rfl
theorem apn {L D:List Int} {r:Rg} (h:jk r=true) (h0:0<=iE L D):c7 .i64 (iE L D) (kz r)=iE L D*kz r:=by
 have hw:=Fx h
 have h1:iE L D<=4096:=by
  rcases acT L D with e|e
  ·omega
  ·exact e.2
 have h2:iE L D*kz r<=4096*6:=Int.mul_le_mul h1 (by omega) (by omega) (by decide)
 have h3:0<=iE L D*kz r:=Int.mul_nonneg h0 (by omega)
 exact np (by omega) (by omega)
theorem afL (x:Rg×T3) (y:Bool) (h:vi x=some y):Lf ax x=some y:=by
 obtain⟨⟨k,p,n⟩,L,D,A⟩:=x
 simp only[vi,VD] at h
 split at h
 ·rename_i hc
  rw[<-h]
  simp only[Lf,zD,bI]
  cases hr:jk (k,p,n) with
  |false=>rw[aX (b:=ef false) rfl];simp[jm,hr]
  |true=>
   rw[aR (b:=ef true) rfl,show vj (L,D,A)=some (iE L D) from if_pos ⟨hc.1,hc.2.1⟩]
   simp only[bI]
   by_cases h0:0<=iE L D
   ·rw[aX (show hZ _ _=true from bne_iff_ne.2 (by omega))]
    simp only[vl,bI]
    rw[apn hr h0,nl]
    by_cases hl:(A.length:Int)=iE L D*kz (k,p,n)
    ·rw[aX (show cz _ _=true from beq_iff_eq.2 hl),show zI ((k,p,n),A)=some _ from if_pos ⟨hr,by have:=hc.2.2;omega⟩,bI]
     simp[jm,hr,h0,hl]
    ·rw[aR (show cz _ _=false from beq_eq_false_iff_ne.2 hl)]
     simp[jm,hr,hl]
   ·have:iE L D= -1:=by rcases acT L D with e|e<;>omega
    rw[aR (show hZ _ _=false by unfold hZ;rw[this];rfl)]
    simp[jm,hr,h0]
 ·cases h
theorem afZ (x:List Int) (y:Int) (h:zL x=some y):Lq ax x=some y:=by
 simp only[zL] at h
 split at h
 ·rename_i hc
  rw[<-h]
  obtain⟨hl,hv⟩:=hc
  have hb:∀k,k<=x.length->1<=cV (x.take k)/\cV (x.take k)<=8^k:=by
   intro k
   induction k with
   |zero=>exact fun _=>⟨Int.le_refl 1,Int.le_refl 1⟩
   |succ k ih=>
    intro hk
    obtain⟨i1,i2⟩:=ih (by omega)
    have h1:=hv _ (List.mem_of_getElem? (getD_some 0 (show k<x.length by omega)))
    rw[BZ (by omega)]
    have a1:1*1<=cV (x.take k)*x.getD k 0:=Int.mul_le_mul i1 h1.1 (by decide) (by omega)
    have a2:cV (x.take k)*x.getD k 0<=8^k*8:=Int.mul_le_mul i2 h1.2 (by omega) (by exact Int.pow_nonneg (by decide))
    exact⟨by omega,by rw[Int.pow_succ];exact a2⟩
  have AO:∀k,k<=12->(8:Int)^k<=68719476736:=by decide
  simp only[Lq]
  rw[fF (fun k=>(cV (x.take k),x,aI (J x),(k:Int))) x.length ?a1 ?a2 ?a3 (dC (by omega))]
  case a3=>rfl
  case a2=>dsimp only;rw[aR (uL x)]
  case a1=>
   intro k hk
   have g:=getD_some (0:Int) hk
   have h1:=hb (k+1) (by omega)
   have h2:=AO (k+1) (by omega)
   rw[BZ hk] at h1
   dsimp only
   rw[aX (dc (by rw[nl];omega)),dY,g,bI,np (by omega) (by omega),fv (by omega) (by omega),<-BZ hk]
   rfl
  simp only[cd,Option.bind,List.take_length]
 ·cases h
theorem afW (x:List Int×Int) (y:List Int) (h:zJ x=some y):VM ax x=some y:=agr x y h
end Go.Am
end
section
namespace Go.Am
theorem aat {a b:Nat} (h:a*b<=1099511627776):c7 .i64 (a:Int) (b:Int)=((a*b:Nat):Int):=by
 have e:(a:Int)*(b:Int)=((a*b:Nat):Int):=(Int.natCast_mul a b).symm
 rw[np (by omega) (by omega),e]
end Go.Am
end
section
namespace Go.Am
theorem BF {X Y:Type} {f:X->Option (X⊕Y)} (n:Nat) (I:Nat->X->Prop) (Q:Y->Prop)
  (h1:∀i x,i<n->I i x->∃x',f x=some (.inl x')/\I (i+1) x') (h2:∀x,I n x->∃r,f x=some (.inr r)/\Q r) {x0:X} (h0:I 0 x0) {N:Nat} (hN:n<N):∃r,bN N f x0=some r/\Q r:=by
 have cf:∀(k i:Nat) (x:X),i+k=n->I i x->∀N,k<N->∃r,bN N f x=some r/\Q r:=by
  intro k
  induction k with
  |zero=>
   intro i x hi hx N hN
   obtain⟨N,rfl⟩:∃M,N=M+1:=⟨N - 1,by omega⟩
   have:i=n:=by omega
   subst this
   obtain⟨r,e,q⟩:=h2 x hx
   exact⟨r,by simp only[bN,e],q⟩
  |succ k ih=>
   intro i x hi hx N hN
   obtain⟨N,rfl⟩:∃M,N=M+1:=⟨N - 1,by omega⟩
   obtain⟨x',e,fM⟩:=h1 i x (by omega) hx
   obtain⟨r,e',q⟩:=ih (i+1) x' (by omega) fM N (by omega)
   exact⟨r,by simp only[bN,e];exact e',q⟩
 exact cf n 0 x0 (by omega) h0 N hN
abbrev Cu:Type:=List Int×Int×Int
def iS (c:Cu):Prop:=0<=c.2.1/\c.1.length<=1048576
theorem V4 (a:Int):0<=pO .i64 a 255/\pO .i64 a 255<=255:=by
 have e:pO .i64 a 255=IntKind.wrap .i64 (((BitVec.ofInt 64 a&&&BitVec.ofInt 64 255).toNat:Nat):Int):=rfl
 have h:(BitVec.ofInt 64 a&&&BitVec.ofInt 64 255).toNat<=255:=by
  rw[BitVec.toNat_and]
  exact Nat.le_trans Nat.and_le_right (by decide)
 rw[e]
 generalize (BitVec.ofInt 64 a&&&BitVec.ofInt 64 255).toNat=m at h
 rw[Vv _ (by omega) (by omega)]
 omega
theorem agL {α:Type}:ai 0 0 (J ([]:List α))=some ():=rfl
theorem agK {α:Type} (l:List α) (x:α):ai 0 (aW (J l) (J [x])) (J (dt l [x]))=some ():=by
 rw[show J (dt l [x])=aW (J l) (J [x]) by simp[aW,J,dt]];exact cH _
def Hf:ak:=[(.one,[.list [.int .u8]])]
def SP:ak:=[(.ptr,[.list [.int .u8],.int .i64,.int .i64])]
def akn:aN:=[[some .aD]]
def FX (NN:Nat):(List Int)->(Option ((List Int)×(Int×Int))):=
 (fun(l0:(List Int))=>
 cd (bN NN (fun((l1,i2,i3):((List Int)×(Int×Int)))=>
 aC (bO i3 (aI (J l1)))
 (aC (bO i3 (4000:Int))
 ((dK l1 i3).aa (fun i4=>
 some (Sum.inl (l1,pO .i64 (bS .i64 (bS .i64 (c7 .i64 i2 131) (xR .i64 i4)) (7:Int)) (1073741823:Int),bS .i64 i3 1))))
 (some (Sum.inr (Sum.inl (l1,i2)))))
 (some (Sum.inr (Sum.inl (l1,i2)))))
 (l0,bS .i64 (55127:Int) (aI (J l0)),(0:Int)))
 (fun(l5,i6)=>
 some (l5,(0:Int),i6)))
def z3:(List Int)->(Option ((List Int)×(Int×Int))):=FX ax
theorem ago (x:(List Int)) (z:((List Int)×(Int×Int))) (h:z3 x=some z):FX ax x=some z:=h
def Ho:ak:=[(.one,[.list [.int .u8]]),(.one,[.int .i64])]
def SY:ak:=[(.ptr,[.list [.int .u8],.int .i64,.int .i64])]
def aku:aN:=[[some .aD]]
def F6 (NN:Nat):((List Int)×Int)->(Option ((List Int)×(Int×Int))):=
 (fun((l0,i1):((List Int)×Int))=>
 (z3 l0).aa (fun(l2,i3,i4)=>
 some (l2,n7 i1 (aI (J l0)),pO .i64 (bS .i64 (bS .i64 (c7 .i64 i4 31) (c7 .i64 i1 7919)) (1:Int)) (1073741823:Int))))
def tw:((List Int)×Int)->(Option ((List Int)×(Int×Int))):=F6 ax
theorem agw (x:((List Int)×Int)) (z:((List Int)×(Int×Int))) (h:tw x=some z):F6 ax x=some z:=h
def He:ak:=[(.ptr,[.list [.int .u8],.int .i64,.int .i64])]
def SO:ak:=[(.one,[.int .i64]),(.ptr,[.list [.int .u8],.int .i64,.int .i64])]
def akm:aN:=[[some .aD]]
def FW (NN:Nat):((List Int)×(Int×Int))->(Option (Int×((List Int)×(Int×Int)))):=
 (fun((l0,i1,i2):((List Int)×(Int×Int)))=>
 (tf .i64 (bS .i64 (c7 .i64 i2 6364136223846793005) (1442695040888963407:Int)) (33:Int)).aa (fun i3=>
 (tf .i64 (bS .i64 (c7 .i64 i2 6364136223846793005) (1442695040888963407:Int)) (45:Int)).aa (fun i4=>
 cd (aC (bO i1 (aI (J l0)))
 ((dK l0 i1).aa (fun i5=>
 some (Sum.inl (pO .i64 (bS .i64 (pO .i64 (Vw .i64 i3 i4) (255:Int)) (xR .i64 i5)) (255:Int),l0,bS .i64 i1 1,bS .i64 (c7 .i64 i2 6364136223846793005) (1442695040888963407:Int)))))
 (some (Sum.inl (pO .i64 (Vw .i64 i3 i4) (255:Int),l0,i1,bS .i64 (c7 .i64 i2 6364136223846793005) (1442695040888963407:Int)))))
 (fun(i6,l7,i8,i9)=>
 some (i6,l7,i8,i9)))))
def vo:((List Int)×(Int×Int))->(Option (Int×((List Int)×(Int×Int)))):=FW ax
theorem agn (x:((List Int)×(Int×Int))) (z:(Int×((List Int)×(Int×Int)))) (h:vo x=some z):FW ax x=some z:=h
def Hd:ak:=[(.ptr,[.list [.int .u8],.int .i64,.int .i64]),(.one,[.int .i64])]
def SN:ak:=[(.one,[.int .i64]),(.ptr,[.list [.int .u8],.int .i64,.int .i64])]
def akl:aN:=[[some .aD]]
def FV (NN:Nat):(((List Int)×(Int×Int))×Int)->(Option (Int×((List Int)×(Int×Int)))):=
 (fun(((l0,i1,i2),i3):(((List Int)×(Int×Int))×Int))=>
 aC (gC i3 (0:Int))
 (some ((0:Int),l0,i1,i2))
 ((vo (l0,i1,i2)).aa (fun(i4,l5,i6,i7)=>
 (jH i4 i3).aa (fun i8=>
 some (i8,l5,i6,i7)))))
def qV:(((List Int)×(Int×Int))×Int)->(Option (Int×((List Int)×(Int×Int)))):=FV ax
theorem agm (x:(((List Int)×(Int×Int))×Int)) (z:(Int×((List Int)×(Int×Int)))) (h:qV x=some z):FV ax x=some z:=h
def Hh:ak:=[(.ptr,[.list [.int .u8],.int .i64,.int .i64]),(.one,[.int .i64])]
def SQ:ak:=[(.one,[.bool]),(.ptr,[.list [.int .u8],.int .i64,.int .i64])]
def ako:aN:=[[some .aD]]
def FY (NN:Nat):(((List Int)×(Int×Int))×Int)->(Option (Bool×((List Int)×(Int×Int)))):=
 (fun(((l0,i1,i2),i3):(((List Int)×(Int×Int))×Int))=>
 (qV ((l0,i1,i2),i3)).aa (fun(i4,l5,i6,i7)=>
 some (cz i4 (0:Int),l5,i6,i7)))
def vp:(((List Int)×(Int×Int))×Int)->(Option (Bool×((List Int)×(Int×Int)))):=FY ax
theorem agp (x:(((List Int)×(Int×Int))×Int)) (z:(Bool×((List Int)×(Int×Int)))) (h:vp x=some z):FY ax x=some z:=h
def Hi:ak:=[(.ptr,[.list [.int .u8],.int .i64,.int .i64]),(.one,[.list [.int .i64]])]
def SR:ak:=[(.one,[.int .i64]),(.ptr,[.list [.int .u8],.int .i64,.int .i64])]
def akp:aN:=[[some .aD]]
def FZ (NN:Nat):(((List Int)×(Int×Int))×(List Int))->(Option (Int×((List Int)×(Int×Int)))):=
 (fun(((l0,i1,i2),l3):(((List Int)×(Int×Int))×(List Int)))=>
 (qV ((l0,i1,i2),aI (J l3))).aa (fun(i4,l5,i6,i7)=>
 (dK l3 i4).aa (fun i8=>
 some (i8,l5,i6,i7))))
def z4:(((List Int)×(Int×Int))×(List Int))->(Option (Int×((List Int)×(Int×Int)))):=FZ ax
theorem agq (x:(((List Int)×(Int×Int))×(List Int))) (z:(Int×((List Int)×(Int×Int)))) (h:z4 x=some z):FZ ax x=some z:=h
def G9:ak:=[(.one,[.list [.int .u8]]),(.one,[.int .i64])]
def SK:ak:=[(.one,[.int .i64])]
def aki:aN:=[[some .aD]]
def FR (NN:Nat):((List Int)×Int)->(Option Int):=
 (fun((l0,i1):((List Int)×Int))=>
 (tw (l0,i1)).aa (fun(l2,i3,i4)=>
 (vo (l2,i3,i4)).aa (fun(i5,l6,i7,i8)=>
 (vo (l6,i7,i8)).aa (fun(i9,ff,eS,eZ)=>
 some (bS .i64 (c7 .i64 (256:Int) i5) i9)))))
def zW:((List Int)×Int)->(Option Int):=FR ax
theorem agj (x:((List Int)×Int)) (z:Int) (h:zW x=some z):FR ax x=some z:=h
def Hc:ak:=[(.one,[.list [.int .u8]]),(.one,[.int .i64]),(.one,[.int .i64]),(.one,[.int .i64])]
def SM:ak:=[(.one,[.int .i64])]
def akk:aN:=[[some .aD]]
def FU (NN:Nat):((List Int)×(Int×(Int×Int)))->(Option Int):=
 (fun((l0,i1,i2,i3):((List Int)×(Int×(Int×Int))))=>
 (zW (l0,i1)).aa (fun i4=>
 (jH i4 (bS .i64 (eG .i64 i3 i2) (1:Int))).aa (fun i5=>
 some (bS .i64 i2 i5))))
def zZ:((List Int)×(Int×(Int×Int)))->(Option Int):=FU ax
theorem agl (x:((List Int)×(Int×(Int×Int)))) (z:Int) (h:zZ x=some z):FU ax x=some z:=h
def Ha:ak:=[(.one,[.list [.int .u8]]),(.one,[.int .i64])]
def SL:ak:=[(.one,[.int .i64])]
def akj:aN:=[[some .aD]]
def FT (NN:Nat):((List Int)×Int)->(Option Int):=
 (fun((l0,i1):((List Int)×Int))=>
 (tw (l0,i1)).aa (fun(l2,i3,i4)=>
 (dP (((2:Int)::((3:Int)::((7:Int)::((101:Int)::((1000003:Int)::([]:List Int))))))) 5).aa (fun l5=>
 (z4 ((l2,i3,i4),l5)).aa (fun(i6,l7,i8,i9)=>
 some i6))))
def zY:((List Int)×Int)->(Option Int):=FT ax
theorem agk (x:((List Int)×Int)) (z:Int) (h:zY x=some z):FT ax x=some z:=h
theorem LZ (c:Cu) (h:iS c):∃x c',vo c=some (x,c')/\(0<=x/\x<=255)/\iS c':=by
 obtain⟨l,i,k⟩:=c
 obtain⟨h0,h1⟩:=h
 dsimp only at h0 h1
 obtain⟨i,rfl⟩:=fz h0
 obtain⟨s1,e1⟩:∃s,tf .i64 (bS .i64 (c7 .i64 k (6364136223846793005:Int)) (1442695040888963407:Int)) (33:Int)=some s:=⟨_,if_neg (by decide)⟩
 obtain⟨s2,e2⟩:∃s,tf .i64 (bS .i64 (c7 .i64 k (6364136223846793005:Int)) (1442695040888963407:Int)) (45:Int)=some s:=⟨_,if_neg (by decide)⟩
 simp only[vo,FW]
 rw[e1,e2]
 simp only[Option.aa,Option.bind]
 by_cases hc:i<l.length
 ·rw[aX (dc (by unfold aI J;omega))]
  rw[dY,List.getElem?_eq_getElem hc]
  simp only[cd,Option.bind]
  refine⟨_,_,rfl,V4 _,?_,h1⟩
  dsimp only
  rw[fv (by omega) (by omega)]
  omega
 ·rw[aR (cZ (by unfold aI J;omega))]
  simp only[cd,Option.bind]
  exact⟨_,_,rfl,V4 _,h0,h1⟩
theorem Af (c:Cu) (n:Int) (h:iS c) (hn:1<=n):∃x c',qV (c,n)=some (x,c')/\(0<=x/\x<n)/\x<=255/\iS c':=by
 obtain⟨l,i,k⟩:=c
 obtain⟨x,⟨l',i',k'⟩,e,hx,hc⟩:=LZ _ h
 simp only[qV,FV]
 rw[aR (wF (by omega)),e]
 simp only[Option.aa,Option.bind]
 rw[abk hx.1 (by omega)]
 refine⟨_,_,rfl,⟨Int.emod_nonneg _ (by omega),Int.emod_lt_of_pos _ (by omega)⟩,?_,hc⟩
 have:=Int.emod_lt_of_pos x (show 0<n by omega)
 by_cases hl:x<n
 ·rw[Int.emod_eq_of_lt hx.1 hl];omega
 ·omega
theorem Rc (c:Cu) (n:Int) (h:iS c) (hn:1<=n):∃b c',vp (c,n)=some (b,c')/\iS c':=by
 obtain⟨l,i,k⟩:=c
 obtain⟨x,⟨l',i',k'⟩,e,_,_,hc⟩:=Af _ n h hn
 simp only[vp,FY]
 rw[e]
 exact⟨_,_,rfl,hc⟩
theorem amV (c:Cu) (l:List Int) (h:iS c) (h1:l≠[]) (h2:l.length<=100):∃x c',z4 (c,l)=some (x,c')/\x∈l/\iS c':=by
 obtain⟨cl,i,k⟩:=c
 have hl:1<=l.length:=by rcases l with _|⟨a,l⟩<;>simp_all
 obtain⟨x,⟨l',i',k'⟩,e,hx,_,hc⟩:=Af (cl,i,k) (aI (J l)) h (by unfold aI J;omega)
 simp only[z4,FZ]
 rw[e]
 simp only[Option.aa,Option.bind]
 obtain⟨j,rfl⟩:=fz hx.1
 have hj:j<l.length:=by unfold aI J at hx;omega
 rw[dY,List.getElem?_eq_getElem hj]
 exact⟨_,_,rfl,List.getElem_mem hj,hc⟩
theorem alL (l:List Int) (h:l.length<=1048576):∃c,z3 l=some c/\iS c:=by
 simp only[z3,FX]
 generalize hL:bN ax _ _=o
 obtain⟨r,rfl,z,rfl⟩:∃r,o=some r/\∃z,r=Sum.inl (l,z):=by
  rw[<-hL]
  refine BF (min l.length 4000) (fun i (x:List Int×Int×Int)=>x.1=l/\x.2.2=(i:Int)) _ ?_ ?_ ⟨rfl,rfl⟩ (dC (by omega))
  ·intro i x hi hx
   obtain⟨l1,i2,i3⟩:=x
   dsimp only at hx⊢
   obtain⟨rfl,rfl⟩:=hx
   rw[aX (dc (by unfold aI J;omega)),aX (dc (by omega)),dY,List.getElem?_eq_getElem (by omega)]
   exact⟨_,rfl,rfl,fv (by omega) (by omega)⟩
  ·intro x hx
   obtain⟨l1,i2,i3⟩:=x
   dsimp only at hx⊢
   obtain⟨rfl,rfl⟩:=hx
   by_cases hc:l1.length<=4000
   ·rw[aR (cZ (by unfold aI J;omega))]
    exact⟨_,rfl,_,rfl⟩
   ·rw[aX (dc (by unfold aI J;omega)),aR (cZ (by omega))]
    exact⟨_,rfl,_,rfl⟩
 exact⟨_,rfl,Int.le_refl _,h⟩
theorem Hr (l:List Int) (n:Int) (h:l.length<=1048576) (hn:0<=n):∃c,tw (l,n)=some c/\iS c:=by
 obtain⟨⟨l',i',k'⟩,e,hc⟩:=alL l h
 simp only[tw,F6]
 rw[e]
 refine⟨_,rfl,?_,hc.2⟩
 dsimp only
 rw[aal]
 unfold aI J
 omega
theorem alU (l:List Int) (n:Int) (h:l.length<=1048576) (hn:0<=n):∃x,zW (l,n)=some x/\(0<=x/\x<=65535):=by
 obtain⟨⟨l',i',k'⟩,e,hc⟩:=Hr l n h hn
 obtain⟨x,⟨l1,i1,k1⟩,e1,hx,hc⟩:=LZ _ hc
 obtain⟨y,⟨l2,i2,k2⟩,e2,hy,hc⟩:=LZ _ hc
 simp only[zW,FR]
 rw[e]
 simp only[Option.aa,Option.bind]
 rw[e1]
 simp only[Option.bind]
 rw[e2]
 refine⟨_,rfl,?_⟩
 rw[np (by omega) (by omega),fv (by omega) (by omega)]
 omega
theorem aoz (l:List Int) (n lo hi:Int) (h:l.length<=1048576) (hn:0<=n) (h0:0<=lo) (h1:lo<=hi) (h2:hi<=1048576):∃x,zZ (l,n,lo,hi)=some x/\(lo<=x/\x<=hi):=by
 obtain⟨x,e,hx⟩:=alU l n h hn
 simp only[zZ,FU]
 rw[e]
 simp only[Option.aa,Option.bind]
 rw[lW (by omega) (by omega),fv (by omega) (by omega),abk hx.1 (by omega)]
 have a:=Int.emod_nonneg x (show hi - lo+1≠0 by omega)
 have b:=Int.emod_lt_of_pos x (show 0<hi - lo+1 by omega)
 refine⟨_,rfl,?_⟩
 rw[fv (by omega) (by omega)]
 omega
theorem am4 (l:List Int) (n:Int) (h:l.length<=1048576) (hn:0<=n):∃x,zY (l,n)=some x/\x∈[(2:Int),3,7,101,1000003]:=by
 obtain⟨⟨l',i',k'⟩,e,hc⟩:=Hr l n h hn
 obtain⟨x,⟨l1,i1,k1⟩,e1,hx,hc⟩:=amV _ [(2:Int),3,7,101,1000003] hc (by simp) (by simp)
 simp only[zY,FT]
 rw[e]
 simp only[Option.aa,Option.bind,dP,List.length_cons,List.length_nil,Nat.le_refl,if_true,List.take]
 rw[e1]
 exact⟨_,rfl,hx⟩
end Go.Am
end
section
namespace Go.Am
def ZP (x:Int×jn×jn):Prop:=dO x.1/\pk x.2.1/\pk x.2.2/\(x.2.1.1*x.2.2.1<=4096/\x.2.1.2.1*x.2.2.2.1<=4096)/\(x.2.1.1*x.2.2.1)*(x.2.1.2.1*x.2.2.2.1)<=1048576/\eX x.1 x.2.1.2.2/\eX x.1 x.2.2.2.2
instance (x:Int×jn×jn):Decidable (ZP x):=by unfold ZP;infer_instance
section
variable {p:Int} {r c s d:Nat} {A B:aU}
end
section
variable {p:Int} {n m:Nat} {a b a2 b2:List Int} {ms PY:List jn}
end
end Go.Am
end
section
namespace Go.Am
theorem Xi (p:Int) (f g:Nat->Int):∀n,lB p f g n=sm n (fun t=>f t*g t)%p
 |0=>by simp[lB,sm]
 |n+1=>by simp only[lB,sm];rw[Xi p f g n,Int.emod_add_emod]
theorem zk (c:Int) (f:Nat->Int):∀n,sm n (fun t=>c*f t)=c*sm n f
 |0=>by simp[sm]
 |n+1=>by simp only[sm];rw[zk c f n,Int.mul_add]
theorem ab2 (c:Int) (f:Nat->Int) (n:Nat):sm n (fun t=>f t*c)=sm n f*c:=by
 rw[Int.mul_comm,<-zk]
 exact lV fun i _=>Int.mul_comm _ _
theorem Kc (f g:Nat->Int):∀n,sm n (fun t=>f t+g t)=sm n f+sm n g
 |0=>by simp[sm]
 |n+1=>by simp only[sm];rw[Kc f g n];omega
theorem Ux (f:Nat->Nat->Int) (m:Nat):∀n,sm n (fun i=>sm m (fun j=>f i j))=sm m (fun j=>sm n (fun i=>f i j))
 |0=>by simp only[sm];exact(Ce m fun _ _=>rfl).symm
 |n+1=>by simp only[sm];rw[Ux f m n,<-Kc]
end Go.Am
end
section
namespace Go.Am
abbrev Wd:=List Int
structure BI (p:Int) (n t:Nat) (S:List Wd×List Int) (q:List Wd):Prop where
 dl:S.2.length=S.1.length*n
 dp:eX p S.2
 kn:S.1.length<=n
 qo:∀w∈q,KH t w/\w.length<=S.1.length
 wo:∀w∈S.1,KH t w/\w.length<=n
section
variable {p:Int} {n:Nat} {s b:List Int} {ms:List jn}
theorem BI.no {S:List Wd×List Int} {w:Wd} {q:List Wd} (h:BI p n ms.length S (w::q)):BI p n ms.length S q:=⟨h.dl,h.dp,h.kn,fun v hv=>h.qo v (by simp[hv]),h.wo⟩
end
theorem acK {α:Type} {l:List α} {n:Nat} (h:n=l.length):dP l n=some l:=by subst h;unfold dP;rw[if_pos (Nat.le_refl _),List.take_length]
section
variable {p:Int} {n:Nat} {s b:List Int} {ms:List jn}
end
end Go.Am
end
section
namespace Go.Am
section
variable {p:Int} {n:Nat} {s b:List Int} {ms:List jn}
end
end Go.Am
end
section
namespace Go.Am
def ab8 (x:Int×jn×jn):Prop:=dO x.1/\(0<=x.2.1.1/\x.2.1.1<=x.2.1.2.1/\x.2.1.2.1<=12)/\(0<=x.2.2.1/\x.2.2.1<=12)/\x.2.2.2.1=x.2.1.2.1/\(x.2.1.2.2.length=x.2.1.1.toNat*x.2.1.2.1.toNat/\x.2.2.2.2.length=x.2.2.1.toNat*x.2.1.2.1.toNat)/\eX x.1 x.2.1.2.2/\eX x.1 x.2.2.2.2
instance (x:Int×jn×jn):Decidable (ab8 x):=by unfold ab8;infer_instance
end Go.Am
end
section
namespace Go.Am
end Go.Am
end
section
namespace Go.Am
end Go.Am
end
section
namespace Go.Am
def LN (p:Int) (M:aU) (i j:Nat):Prop:=(M i j+M j i)%p=0/\(i=j->M i j=0)
instance (p:Int) (M:aU) (i j:Nat):Decidable (LN p M i j):=by unfold LN;infer_instance
def V3 (p:Int) (M:aU) (i:Nat):Prop:=∀j,j<i+1->LN p M i j
instance (p:Int) (M:aU) (i:Nat):Decidable (V3 p M i):=by unfold V3;infer_instance
end Go.Am
end
section
namespace Go.Am
def bV (p a b:Int):Prop:=∃q,a=b+p*q
theorem bV.refl (p a:Int):bV p a a:=⟨0,by simp⟩
theorem AD (p a:Int):bV p (a%p) a:=⟨-(a/p),by have:=Int.emod_add_mul_ediv a p;have e:=Int.mul_neg p (a/p);omega⟩
theorem bV.trans {p a b c:Int} (h:bV p a b) (h':bV p b c):bV p a c:=by
 obtain⟨q,rfl⟩:=h;obtain⟨q',rfl⟩:=h';exact⟨q'+q,by rw[Int.mul_add];omega⟩
theorem bV.symm {p a b:Int} (h:bV p a b):bV p b a:=by
 obtain⟨q,rfl⟩:=h;exact⟨-q,by rw[Int.mul_neg];omega⟩
theorem bV.add {p a b c d:Int} (h:bV p a b) (h':bV p c d):bV p (a+c) (b+d):=by
 obtain⟨q,rfl⟩:=h;obtain⟨q',rfl⟩:=h';exact⟨q+q',by grind⟩
theorem bV.mul {p a b c d:Int} (h:bV p a b) (h':bV p c d):bV p (a*c) (b*d):=by
 obtain⟨q,rfl⟩:=h;obtain⟨q',rfl⟩:=h';exact⟨q*d+b*q'+p*q*q',by grind⟩
theorem aeO {p a b:Int} (h:bV p a b) (ha:fk p a) (hb:fk p b):a=b:=by
 obtain⟨q,hq⟩:=h
 have h1:=ha.1;have h2:=ha.2;have h3:=hb.1;have h4:=hb.2
 have hp:0<p:=by omega
 rcases Int.lt_trichotomy q 0 with h|h|h
 ·have:p*q<=p*(-1):=Int.mul_le_mul_of_nonneg_left (by omega) (by omega)
  omega
 ·subst h;omega
 ·have:p*1<=p*q:=Int.mul_le_mul_of_nonneg_left (by omega) (by omega)
  omega
section
variable {p inv:Int} {n k:Nat} {A:aU}
end
end Go.Am
end
section
namespace Go.Am
section
variable {p:Int} {n:Nat} {M:aU}
end
section
variable {p:Int} {n:Nat} {M:aU}
end
end Go.Am
end
section
namespace Go.Am
end Go.Am
end
section
namespace Go.Am
section
variable {p:Int} {n m:Nat} {a b a2 b2:List Int} {ms PY:List jn}
theorem abN {α:Type} (l r:List α) (v x:α) (k:Nat) (hk:k=l.length):bW (l++v::r) k x=l++x::r:=by
 subst hk
 unfold bW
 rw[List.set_append_right _ _ (Nat.le_refl _),Nat.sub_self]
 rfl
end
end Go.Am
end
section
namespace Go.Am
def nw:Nat->List Int->List Int
 |0,l=>l
 |k+1,l=>if l.getD (k+1) 0<l.getD k 0 then nw k (bW (bW l (k+1) (l.getD k 0)) k (l.getD (k+1) 0)) else l
def fh (l:List Int):Nat->List Int
 |0=>l
 |i+1=>nw i (fh l i)
def FE:List Int->Option (List Int):=fun l=>if l.length<=12 then some (fh l l.length) else none
def CE:Int->Option Int:=fun x=>if 0<=x/\x<=18446744073709551615 then some ((Go.Lib.bitLen x.toNat:Nat):Int) else none
def xl:Int->Option Bool:=fun _=>some false
def CC:Int×Int->Option Bool:=fun x=>some (bO x.1 x.2)
def vn:List Int×Int×Int->Option (List Int):=fun x=>if x.2.1=0/\x.2.2=x.1.length/\x.1.length<=12 then some (fh x.1 x.1.length) else none
def zT:List Int×Int×Int×Int->Option (List Int):=fun x=>vn (x.1,x.2.1,x.2.2.1)
def zS:List Int->Option (List Int):=FE
def zP:List Int->Option (List Int):=FE
def adq:ak:=[(.one,[.int .u64])]
def anK:ak:=[(.one,[.int .i64])]
def akf:aN:=[]
def Gd:ak:=[(.one,[.int .i64])]
def RP:ak:=[(.one,[.bool])]
def ajz:aN:=[]
def Gc:ak:=[(.one,[.int .i64]),(.one,[.int .i64])]
def RO:ak:=[(.one,[.bool])]
def ajy:aN:=[]
def G5:ak:=[(.one,[.list [.int .i64]]),(.one,[.int .i64]),(.one,[.int .i64])]
def SG:ak:=[(.one,[.list [.int .i64]])]
def Ju:aN:=[[some .ae]]
def G6:ak:=[(.one,[.list [.int .i64]]),(.one,[.int .i64]),(.one,[.int .i64]),(.one,[.int .i64])]
def SH:ak:=[(.one,[.list [.int .i64]])]
def Jv:aN:=[[some .ae]]
def G4:ak:=[(.one,[.list [.int .i64]])]
def SF:ak:=[(.one,[.list [.int .i64]])]
def Jt:aN:=[[some .ae]]
def GX:ak:=[(.one,[.list [.int .i64]])]
def Sy:ak:=[(.one,[.list [.int .i64]])]
def aka:aN:=[]
def K3 (NN:Nat):Int->(Option Bool):=
 (fun(i0:Int)=>
 some (hZ i0 i0))
def KZ (NN:Nat):(Int×Int)->(Option Bool):=
 (fun((i0,i1):(Int×Int))=>
 (xl i0).aa (fun b2=>
 aC (b2)
 ((xl i1).aa (fun b3=>
 aC (ef b3)
 (some true)
 (some (bO i0 i1))))
 (some (bO i0 i1))))
def LA (NN:Nat):((List Int)×(Int×Int))->(Option (List Int)):=
 (fun((l0,i1,i2):((List Int)×(Int×Int)))=>
 (ai 0 (J l0) (J l0)).aa (fun _=>
 bN NN (fun(((i3,i4,i5),l6):((Int×(Int×Int))×(List Int)))=>
 aC (bO i5 i4)
 (cd ((ai 0 (J l6) (J l6)).aa (fun _=>
 bN NN (fun(((i7,i8,i9,db),cB):((Int×(Int×(Int×Int)))×(List Int)))=>
 aC (bO i7 db)
 ((fj db (J cB)).aa (fun Bw=>
 (dv cB (aW 0 Bw)).aa (fun fN=>
 (fj (eG .i64 db 1) (J cB)).aa (fun Bx=>
 (dv cB (aW 0 Bx)).aa (fun jz=>
 (CC (fN,jz)).aa (fun b16=>
 aC (b16)
 ((fj (eG .i64 db 1) (J cB)).aa (fun k17=>
 (dv cB (aW 0 k17)).aa (fun g0=>
 (fj db (J cB)).aa (fun k19=>
 (dv cB (aW 0 k19)).aa (fun jA=>
 (fj db (J cB)).aa (fun Jg=>
 (dv cB (aW 0 Jg)).aa (fun mI=>
 (fj (eG .i64 db 1) (J cB)).aa (fun Po=>
 (dv (bW cB (aW 0 Jg) g0) (aW 0 Po)).aa (fun wq=>
 (ai 0 (J cB) (J (bW (bW cB (aW 0 Jg) g0) (aW 0 Po) jA))).aa (fun _=>
 some (Sum.inl ((i7,i8,i9,eG .i64 db 1),bW (bW cB (aW 0 Jg) g0) (aW 0 Po) jA))))))))))))
 (((ai 0 (J cB) (J cB)).aa (fun _=>
 some (Sum.inl ((i9,i7,i8),cB)))).aa (fun f9=>
 some (Sum.inr f9)))))))))
 (((ai 0 (J cB) (J cB)).aa (fun _=>
 some (Sum.inl ((i9,i7,i8),cB)))).aa (fun fg=>
 some (Sum.inr fg))))
 ((i3,i4,i5,i5),l6)))
 (fun((kI,uC,yB),kj)=>
 (ai 0 (J kj) (J kj)).aa (fun _=>
 some (Sum.inl ((uC,yB,bS .i64 kI 1),kj)))))
 (((pF (J l6) (J l0)).aa (fun _=>
 some l6)).aa (fun kl=>
 some (Sum.inr kl))))
 ((i1,i2,bS .i64 i1 1),l0)))
def LB (NN:Nat):((List Int)×(Int×(Int×Int)))->(Option (List Int)):=
 (fun((l0,i1,i2,i3):((List Int)×(Int×(Int×Int))))=>
 (ai 0 (J l0) (J l0)).aa (fun _=>
 bN NN (fun(((i4,i5,i6,b7,b8),l9):((Int×(Int×(Int×(Bool×Bool))))×(List Int)))=>
 aC (gC (eG .i64 i5 i4) (12:Int))
 ((ai 0 (J l9) (J l9)).aa (fun _=>
 (vn (l9,i4,i5)).aa (fun ff=>
 ((pF (J ff) (J l0)).aa (fun _=>
 some ff)).aa (fun cB=>
 some (Sum.inr cB)))))
 (aC (cz i6 (0:Int))
 (none)
 (cd (aC (ef b7)
 (none)
 ((ai 0 (J l9) (J l9)).aa (fun _=>
 some (Sum.inl ((b8,b7,eG .i64 i5 i4,i5,i4,i6),l9)))))
 (fun((We,Hu,eE,jz,iK,kH),lM)=>
 none))))
 ((i1,i2,i3,true,true),l0)))
def Lz (NN:Nat):(List Int)->(Option (List Int)):=
 (fun(l0:(List Int))=>
 (CE (xR .u64 (aI (J l0)))).aa (fun i1=>
 (ai 0 (J l0) (J l0)).aa (fun _=>
 (zT (l0,(0:Int),aI (J l0),i1)).aa (fun l2=>
 (pF (J l2) (J l0)).aa (fun _=>
 some l2)))))
def Lx (NN:Nat):(List Int)->(Option (List Int)):=
 (fun(l0:(List Int))=>
 (nF l0).aa (fun l1=>
 (ai 0 (J l1) (J l1)).aa (fun _=>
 (zS l1).aa (fun l2=>
 (dP l2 (J l1)).aa (fun l3=>
 some l3)))))
theorem abV:∀(k:Nat) (l:List Int),(nw k l).length=l.length
 |0,_=>rfl
 |k+1,l=>by
  unfold nw
  split
  ·rw[abV k];simp[bW]
  ·rfl
theorem w6 (l:List Int):∀i,(fh l i).length=l.length
 |0=>rfl
 |i+1=>by unfold fh;rw[abV,w6 l i]
theorem ab7 {l:List Int} {k:Nat} (h:k<l.length):dv l (aW 0 k)=some (l.getD k 0):=by
 rw[gR]
 show l[k]? =_
 rw[List.getD_eq_getElem?_getD,List.getElem?_eq_getElem h]
 rfl
theorem aoE {l:List Int} {k:Nat} (v:Int) (h:k+1<l.length):dv (bW l (aW 0 (k+1)) v) (aW 0 k)=some (l.getD k 0):=by
 rw[gR,gR]
 show(l.set (k+1) v)[k]? =_
 rw[List.getElem?_set_ne (by omega),List.getD_eq_getElem?_getD,List.getElem?_eq_getElem (by omega)]
 rfl
theorem aoF {l:List Int} {k:Nat} (v:Int) (h:k+1<l.length):dv (bW l (k+1) v) k=some (l.getD k 0):=by
 have:=aoE v h
 rwa[gR,gR] at this
theorem ab6 {l:List Int} {k:Nat} (h:k<l.length):fj (k:Int) (J l)=some k:=q9 h
theorem aoH {k:Nat} (h:k<=1000):eG .i64 ((k+1:Nat):Int) 1=(k:Int):=by rw[lW (by omega) (by omega)];omega
theorem aoG {l:List Int} {k:Nat} (h:k+1<l.length):∃p q a b,l=p++a::b::q/\p.length=k/\l.getD k 0=a/\l.getD (k+1) 0=b:=by
 refine⟨l.take k,l.drop (k+2),l[k],l[k+1],?_,by rw[List.length_take];omega,?_,?_⟩
 ·have h1:=List.drop_eq_getElem_cons (l:=l) (i:=k) (by omega)
  have h2:=List.drop_eq_getElem_cons (l:=l) (i:=k+1) (by omega)
  rw[<-h2,<-h1,List.take_append_drop]
 ·rw[List.getD_eq_getElem?_getD,List.getElem?_eq_getElem (by omega)];rfl
 ·rw[List.getD_eq_getElem?_getD,List.getElem?_eq_getElem (by omega)];rfl
theorem abW:∀(k:Nat) (l:List Int),k<l.length->(nw k l).Perm l
 |0,_,_=>List.Perm.refl _
 |k+1,l,h=>by
  unfold nw
  split
  ·refine(abW k _ (by simp[bW];omega)).trans ?_
   obtain⟨p,q,a,b,e,hp,ha,hb⟩:=aoG (l:=l) (k:=k) h
   rw[ha,hb]
   subst e
   have e1:bW (p++a::b::q) (k+1) a=p++a::a::q:=by
    have:=abN (p++[a]) q b a (k+1) (by simp[hp])
    simpa using this
   rw[e1,abN p (a::q) a b k hp.symm]
   exact(List.Perm.swap a b q).append_left p
  ·exact List.Perm.refl _
theorem aca (l:List Int):∀i,i<=l.length->(fh l i).Perm l
 |0,_=>List.Perm.refl _
 |i+1,h=>by unfold fh;exact(abW i _ (by rw[w6];omega)).trans (aca l i (by omega))
theorem aft (x:Int) (y:Bool) (h:xl x=some y):K3 ax x=some y:=by
 rw[<-h]
 simp[K3,xl,hZ]
theorem afs (x:Int×Int) (y:Bool) (h:CC x=some y):KZ ax x=some y:=by
 obtain⟨a,b⟩:=x
 rw[<-h]
 simp only[KZ,xl,bI]
 rw[aR (by rfl)]
 rfl
theorem age (x:List Int×Int×Int) (y:List Int) (h:vn x=some y):LA ax x=some y:=by
 obtain⟨x,a,b⟩:=x
 simp only[vn] at h
 split at h
 ·rename_i hc
  rw[<-h]
  obtain⟨ha,hb,hl⟩:=hc
  try dsimp only at ha hb hl
  subst ha hb
  simp only[LA,cH,bI]
  rw[fv (by omega) (by omega)]
  have h0:fh x 1=x:=rfl
  by_cases hx:x.length=0
  ·rw[fF (fun i=>(((0:Int),(x.length:Int),(1:Int)),x)) 0 ?a1 ?a2 ?a3 (dC (by omega))]
   case a3=>rfl
   case a2=>
    dsimp only
    rw[aR (cZ (by omega)),ze rfl,hx]
    rfl
   case a1=>intro i hi;omega
  ·rw[fF (fun i=>(((0:Int),(x.length:Int),((i+1:Nat):Int)),fh x (i+1))) (x.length - 1) ?a1 ?a2 ?a3 (dC (by omega))]
   case a3=>rfl
   case a2=>
    dsimp only
    rw[aR (cZ (by omega)),ze (by show(fh x _).length=_;rw[w6];rfl),show x.length - 1+1=x.length by omega]
    rfl
   case a1=>
    intro i hi
    dsimp only
    rw[aX (dc (by omega))]
    try simp only[cH,bI]
    have hL:=w6 x (i+1)
    rw[aac (r:=Sum.inl ((((i+1:Nat):Int),(0:Int),(x.length:Int)),nw (i+1) (fh x (i+1)))) (fun m z=>∃l',z=(((0:Int),(x.length:Int),((i+1:Nat):Int),(m:Int)),l')/\l'.length=x.length/\m<x.length/\nw m l'=nw (i+1) (fh x (i+1))) ?b1 (i+1) _ ⟨_,rfl,hL,by omega,rfl⟩ ax (dC (by omega))]
    case b1=>
     rintro m z ⟨l',rfl,h1,h2,h3⟩
     dsimp only
     cases m with
     |zero=>
      left
      rw[aR (cZ (by omega))]
      try simp only[cH,bI]
      rw[<-h3]
      rfl
     |succ m=>
      have hm:m<l'.length:=by omega
      have gY:m+1<l'.length:=by omega
      rw[aX (dc (by omega)),aoH (by omega),ab6 hm,ab6 gY]
      simp only[bI,ab7 hm,ab7 gY,CC]
      by_cases bG:l'.getD (m+1) 0<l'.getD m 0
      ·right
       rw[aX (dc bG)]
       simp only[bI,gR,aoF _ gY]
       have e:nw (m+1) l'=nw m (bW (bW l' (m+1) (l'.getD m 0)) m (l'.getD (m+1) 0)):=if_pos bG
       rw[show ai 0 (J l') (J (bW (bW l' (m+1) (l'.getD m 0)) m (l'.getD (m+1) 0)))=some () from x6 (by simp[J,bW])]
       try simp only[bI]
       exact⟨m,_,by omega,rfl,_,rfl,by simpa[bW] using h1,by omega,by rw[<-e];exact h3⟩
      ·left
       rw[aR (cZ (by omega))]
       try simp only[cH,bI]
       rw[<-h3,show nw (m+1) l'=l' from if_neg bG]
    simp only[cd,Option.bind,cH,bI]
    rw[fv (by omega) (by omega)]
    rfl
 ·cases h
theorem agf (x:List Int×Int×Int×Int) (y:List Int) (h:zT x=some y):LB ax x=some y:=by
 obtain⟨x,a,b,kM⟩:=x
 have h':vn (x,a,b)=some y:=h
 simp only[zT,vn] at h
 split at h
 ·rename_i hc
  injection h with h
  obtain⟨ha,hb,hl⟩:=hc
  try dsimp only at ha hb hl
  subst ha hb
  simp only[LB,cH,bI]
  rw[fF (fun _=>(((0:Int),(x.length:Int),kM,true,true),x)) 0 ?a1 ?a2 ?a3 (dC (by omega))]
  case a3=>rfl
  case a1=>intro i hi;omega
  case a2=>
   dsimp only
   rw[lW (by omega) (by omega),aX (uK (by omega))]
   try simp only[cH,bI]
   rw[h']
   try simp only[bI]
   rw[ze (by rw[<-h];exact w6 x _)]
   try simp only[bI]
 ·cases h
theorem agd (x:List Int) (y:List Int) (h:zS x=some y):Lz ax x=some y:=by
 simp only[zS,FE] at h
 split at h
 ·rename_i hl
  rw[<-h]
  simp only[Lz,cH]
  have hc:xR .u64 (aI (J x))=(x.length:Int):=by
   show xR .u64 (x.length:Int)=_
   unfold xR
   simp[IntKind.wrap,IntKind.bits,IntKind.signed]
   omega
  rw[hc,show CE (x.length:Int)=some ((Go.Lib.bitLen ((x.length:Int).toNat):Nat):Int) from if_pos ⟨by omega,by omega⟩]
  try simp only[bI]
  rw[show zT (x,(0:Int),aI (J x),_)=some (fh x x.length) from if_pos ⟨rfl,rfl,hl⟩]
  try simp only[bI]
  rw[show pF (J (fh x x.length)) (J x)=some () from ze (w6 x _)]
  try simp only[bI]
 ·cases h
theorem af8 (x:List Int) (y:List Int) (h:zP x=some y):Lx ax x=some y:=by
 simp only[zP,FE] at h
 split at h
 ·rename_i hl
  rw[<-h]
  simp only[Lx]
  rw[show nF x=some x from if_pos (by omega)]
  simp only[bI,cH]
  rw[show zS x=some (fh x x.length) from if_pos hl]
  try simp only[bI]
  rw[apd (n:=J x) (w6 x _)]
  rfl
 ·cases h
end Go.Am
end
section
namespace Go.Am
def sN (f:Nat->Nat):Nat->Nat
 |0=>0
 |q+1=>sN f q+f q
def dB (L D S:List Int):List Int:=bP S.length fun i=>D.getD (c8 L (S.getD i 0)) 0
def gP (L D S:List Int) (n:Nat) (v:Int):Nat:=(dI (dB L D S) n (c8 S v)).toNat*aM D (c8 L v+1)
def jh (L D S:List Int) (n:Nat):Nat:=sN (fun i=>gP L D S n (S.getD i 0)) S.length
def j4 (r:Rg) (A:List Int) (off:Nat->Nat):Nat->List Int
 |0=>[]
 |n+1=>j4 r A off n++gu A (off n*bZ r) (bZ r)
def uP (r:Rg) (t:T3) (S:List Int):T3:=(S,dB t.1 t.2.1 S,j4 r t.2.2 (jh t.1 t.2.1 S) (br (dB t.1 t.2.1 S)))
def Rh (x:Rg×T3×List Int):Prop:=jm x.1 x.2.1=true/\x.2.2=fh x.2.1.1 x.2.1.1.length
instance (x:Rg×T3×List Int):Decidable (Rh x):=by unfold Rh;infer_instance
def VH:Rg×T3×List Int->Option T3:=fun x=>if Rh x then some (uP x.1 x.2.1 x.2.2) else none
def zN:Rg×T3×List Int->Option T3:=VH
def qN (r:Rg) (t:T3):T3:=if jm r t=true then uP r t (fh t.1 t.1.length) else([],[],[])
def VC:Rg×T3->Option T3:=fun x=>if x.2.1.length<=1048576/\x.2.2.1.length<=1048576/\x.2.2.2.length<=1048576 then some (qN x.1 x.2) else none
def zE:Rg×T3->Option T3:=VC
def zF:T3×Int->Option Int:=fun x=>if x.1.1.length<=1048576 then some (x3 x.1.1 x.2) else none
def zl (l:List Int) (b:Int):Prop:=l.length<=12/\∀x∈l,0<=x/\x<=b
instance (l:List Int) (b:Int):Decidable (zl l b):=by unfold zl;infer_instance
def zH:List Int×List Int->Option Int:=fun x=>if zl x.1 1048576/\zl x.2 8/\x.1.length=x.2.length then some ((sN (fun i=>(x.2.getD i 0).toNat*(x.1.getD i 0).toNat) x.1.length:Nat):Int) else none
def ov (L D S:List Int):List Int:=bP S.length fun i=>((aM D (c8 L (S.getD i 0)+1):Nat):Int)
def zQ:T3×List Int->Option (List Int):=fun x=>if nM x.1.1 x.1.2.1=true/\x.2=fh x.1.1 x.1.1.length/\br x.1.2.1<=4096 then some (ov x.1.1 x.1.2.1 x.2) else none
def VF:Rg×T3×Int->Option (List Int):=fun x=>if Mx x then some (gu x.2.1.2.2 (x.2.2.toNat*bZ x.1) (bZ x.1)) else none
def xv:Rg×T3×Int->Option (List Int):=VF
def Gz:ak:=[(.agg,[.list [.int .i64],.list [.int .i64],.list [.int .i64]]),(.one,[.int .i64])]
def Sb:ak:=[(.one,[.int .i64])]
def ajQ:aN:=[]
def GF:ak:=[(.one,[.list [.int .i64]]),(.one,[.list [.int .i64]])]
def Sf:ak:=[(.one,[.int .i64])]
def ajU:aN:=[]
def GP:ak:=[(.agg,[.int .i64,.int .i64,.int .i64]),(.agg,[.list [.int .i64],.list [.int .i64],.list [.int .i64]]),(.one,[.int .i64])]
def Sq:ak:=[(.one,[.list [.int .i64]])]
def aj3:aN:=[[some .aD]]
def Lh (NN:Nat):(((List Int)×((List Int)×(List Int)))×Int)->(Option Int):=
 (fun(((l0,l1,l2),i3):(((List Int)×((List Int)×(List Int)))×Int))=>
 cd (bN NN (fun((i4,l5,i6,i7):(Int×((List Int)×(Int×Int))))=>
 aC (bO i7 i6)
 ((dK l5 i7).aa (fun i8=>
 aC (cz i8 i4)
 (some (Sum.inr (Sum.inr i7)))
 (some (Sum.inl (i4,l5,i6,bS .i64 i7 1)))))
 (some (Sum.inr (Sum.inl ()))))
 (i3,l0,aI (J l0),(0:Int)))
 (fun _=>
 some ((-1:Int))))
def Lk (NN:Nat):((List Int)×(List Int))->(Option Int):=
 (fun((l0,l1):((List Int)×(List Int)))=>
 cd (bN NN (fun((l2,l3,i4,i5,i6):((List Int)×((List Int)×(Int×(Int×Int)))))=>
 aC (bO i6 i5)
 ((dK l2 i6).aa (fun i7=>
 (dK l3 i6).aa (fun i8=>
 some (Sum.inl (l2,l3,bS .i64 i4 (c7 .i64 i7 i8),i5,bS .i64 i6 1)))))
 (some (Sum.inr (Sum.inl i4))))
 (l0,l1,(0:Int),aI (J l0),(0:Int)))
 (fun i9=>
 some i9))
def Ls (NN:Nat):((Int×(Int×Int))×(((List Int)×((List Int)×(List Int)))×Int))->(Option (List Int)):=
 (fun(((i0,i1,i2),(l3,l4,l5),i6):((Int×(Int×Int))×(((List Int)×((List Int)×(List Int)))×Int)))=>
 (vl (i0,i1,i2)).aa (fun i7=>
 (ib (c7 .i64 i6 i7) (c7 .i64 (bS .i64 i6 1) i7) (J l5)).aa (fun(k8,k9)=>
 some (gu l5 k8 k9))))
theorem aby {f:Nat->Nat} {b:Nat}:∀q,(∀i,i<q->f i<=b)->sN f q<=q*b
 |0,_=>Nat.zero_le _
 |q+1,h=>by
  have h1:=aby (f:=f) (b:=b) q fun i hi=>h i (by omega)
  have h2:=h q (by omega)
  simp only[sN]
  rw[Nat.add_mul,Nat.one_mul]
  omega
theorem S1 {f g:Nat->Nat}:∀q,(∀i,i<q->f i=g i)->sN f q=sN g q
 |0,_=>rfl
 |q+1,h=>by simp only[sN];rw[S1 q fun i hi=>h i (by omega),h q (by omega)]
theorem abA (g:Int->Nat) (l:List Int):∀q,q<=l.length->sN (fun i=>g (l.getD i 0)) q=((l.take q).map g).sum
 |0,_=>by simp[sN]
 |q+1,h=>by
  simp only[sN]
  rw[abA g l q (by omega),List.take_succ_eq_append_getElem (by omega),List.map_append,List.sum_append_nat,List.getD_eq_getElem?_getD,List.getElem?_eq_getElem (by omega)]
  simp
theorem abz (g:Int->Nat) (l:List Int):sN (fun i=>g (l.getD i 0)) l.length=(l.map g).sum:=by
 rw[abA g l _ (Nat.le_refl _),List.take_length]
theorem anZ {S L:List Int} (h:S.Perm L) (g:Int->Nat):sN (fun i=>g (S.getD i 0)) S.length=sN (fun i=>g (L.getD i 0)) L.length:=by
 rw[abz,abz]
 exact(h.map g).sum_nat
theorem JL {l:List Int} {v:Int} (h:v∈l):c8 l v<l.length:=by
 refine Nat.lt_of_le_of_ne (JK l v) fun e=>?_
 obtain⟨i,hi⟩:=List.getElem?_of_mem h
 have hl:=(List.getElem?_eq_some_iff.1 hi).1
 exact EH (by omega) hi
theorem Rk {l:List Int} {v:Int} (h:v∈l):l.getD (c8 l v) 0=v:=by
 rw[List.getD_eq_getElem?_getD,EG (JL h)]
 rfl
theorem jN {l:List Int} {i:Nat} (h:i<l.length):l.getD i 0∈l:=by
 rw[List.getD_eq_getElem?_getD,List.getElem?_eq_getElem h]
 exact List.getElem_mem h
theorem wQ {l:List Int} (hn:l.Nodup) {i:Nat} (h:i<l.length):c8 l (l.getD i 0)=i:=by
 have hm:=jN h
 have h1:=JL hm
 have h2:=EG h1
 rw[List.getElem?_eq_getElem h1] at h2
 have e:l[c8 l (l.getD i 0)]=l[i]:=by
  injection h2 with h2
  rw[h2,List.getD_eq_getElem?_getD,List.getElem?_eq_getElem h]
  rfl
 exact(List.getElem_inj hn).1 e
theorem adF {L D:List Int} (h:nM L D=true):L.Nodup:=by
 obtain⟨h1,h2,h3⟩:=vB h
 rw[List.nodup_iff_pairwise_ne,List.pairwise_iff_getElem]
 intro i j hi hj jw e
 have:=(h3 j hj).2.2
 apply this
 rw[List.getD_eq_getElem?_getD,List.getElem?_eq_getElem hj]
 show L[j]∈L.take j
 rw[<-e,List.mem_take_iff_getElem]
 exact⟨i,by omega,rfl⟩
structure gJ (L D S:List Int):Prop where
 p:S.Perm L
 nL:L.Nodup
 nS:S.Nodup
 len:L.length=D.length
 dz:L.length<=12
 nN:∀x∈D,1<=x/\x<=8
theorem gJ.mk' {L D S:List Int} (h:nM L D=true) (hS:S=fh L L.length):gJ L D S:=by
 have hp:S.Perm L:=by rw[hS];exact aca L _ (Nat.le_refl _)
 obtain⟨h1,h2,h3⟩:=vB h
 have hn:=adF h
 exact⟨hp,hn,hp.nodup_iff.2 hn,h2,h1,CT h⟩
section
variable {L D S:List Int} (I:gJ L D S)
include I
theorem gJ.E4:S.length=L.length:=I.p.length_eq
theorem gJ.inv {q k:Nat} (hq:q<S.length) (hk:k<L.length):c8 L (S.getD q 0)=k↔c8 S (L.getD k 0)=q:=by
 have m1:S.getD q 0∈L:=I.p.mem_iff.1 (jN hq)
 have m2:L.getD k 0∈S:=I.p.mem_iff.2 (jN hk)
 constructor
 ·intro e
  have:=Rk m1
  rw[e] at this
  rw[this,wQ I.nS hq]
 ·intro e
  have:=Rk m2
  rw[e] at this
  rw[this,wQ I.nL hk]
theorem gJ.xG {q:Nat} (hq:q<S.length):c8 L (S.getD q 0)<L.length:=JL (I.p.mem_iff.1 (jN hq))
theorem gJ.aia {k:Nat} (hk:k<L.length):c8 S (L.getD k 0)<S.length:=JL (I.p.mem_iff.2 (jN hk))
theorem gJ.iW:iW D:=⟨by have:=I.len;have:=I.dz;omega,fun x hx=>by have:=I.nN x hx;omega⟩
theorem gJ.Xf:∀x∈dB L D S,1<=x/\x<=8:=by
 intro x hx
 obtain⟨i,hi,rfl⟩:=List.mem_map.1 hx
 have:=I.xG (List.mem_range.1 hi)
 exact I.nN _ (jN (by have:=I.len;omega))
theorem gJ.aeu:Am.iW (dB L D S):=⟨by show(bP _ _).length<=_;rw[fR,I.E4];have:=I.dz;omega,fun x hx=>by have:=I.Xf x hx;omega⟩
omit I in
theorem am6 {h:Int->Int} {S L:List Int} (p:S.Perm L):br (S.map h)=br (L.map h):=by
 induction p with
 |nil=>rfl
 |cons x _ ih=>simp only[List.map_cons,br,ih]
 |swap x y l=>simp only[List.map_cons,br];rw[Nat.mul_left_comm]
 |trans _ _ h1 h2=>exact h1.trans h2
omit I in
theorem abp (h:Int->Int) (l:List Int):bP l.length (fun i=>h (l.getD i 0))=l.map h:=by
 apply List.ext_getElem?
 intro i
 by_cases hi:i<l.length
 ·rw[mT _ hi,List.getElem?_map,List.getElem?_eq_getElem hi,List.getD_eq_getElem?_getD,List.getElem?_eq_getElem hi]
  rfl
 ·rw[List.getElem?_eq_none (by rw[fR];omega),List.getElem?_eq_none (by simp;omega)]
theorem gJ.prod:br (dB L D S)=br D:=by
 have e1:dB L D S=S.map fun v=>D.getD (c8 L v) 0:=abp (fun v=>D.getD (c8 L v) 0) S
 have e2:L.map (fun v=>D.getD (c8 L v) 0)=D:=by
  rw[<-abp (fun v=>D.getD (c8 L v) 0) L]
  apply List.ext_getElem?
  intro i
  by_cases hi:i<L.length
  ·rw[mT _ hi,wQ I.nL hi,List.getD_eq_getElem?_getD,List.getElem?_eq_getElem (by have:=I.len;omega)]
   rfl
  ·rw[List.getElem?_eq_none (by rw[fR];omega),List.getElem?_eq_none (by have:=I.len;omega)]
 rw[e1,am6 I.p,e2]
def uO (L D S:List Int) (n:Nat):List Int:=bP D.length fun k=>dI (dB L D S) n (c8 S (L.getD k 0))
theorem gJ.pd {i:Nat} (hi:i<S.length):(dB L D S).getD i 0=D.getD (c8 L (S.getD i 0)) 0:=by
 unfold dB
 rw[List.getD_eq_getElem?_getD,mT _ hi]
 rfl
theorem gJ.Xe (n:Nat) {i:Nat} (hi:i<S.length):0<=dI (dB L D S) n i/\dI (dB L D S) n i<D.getD (c8 L (S.getD i 0)) 0:=by
 have hd:=I.nN _ (jN (l:=D) (i:=c8 L (S.getD i 0)) (by have:=I.xG hi;have:=I.len;omega))
 unfold dI
 rw[I.pd hi]
 have:=Nat.mod_lt (n/aM (dB L D S) (i+1)) (show 0<(D.getD (c8 L (S.getD i 0)) 0).toNat by omega)
 omega
omit I in
theorem aaB {D ix:List Int} (h:∀k,k<D.length->(ix.getD k 0).toNat<(D.getD k 0).toNat):∀j,j<=D.length->(nq D ix j+1)*aM D j<=br D
 |0,_=>by simp[nq,aM]
 |j+1,hj=>by
  have ih:=aaB h j (by omega)
  have hk:=h j (by omega)
  rw[lY (by omega),<-Nat.mul_assoc] at ih
  refine Nat.le_trans (Nat.mul_le_mul_right _ ?_) ih
  simp only[nq]
  rw[Nat.add_mul,Nat.one_mul]
  omega
omit I in
theorem aaC {D ix:List Int}:∀j,j<=D.length->nq D ix j*aM D j=sN (fun k=>(ix.getD k 0).toNat*aM D (k+1)) j
 |0,_=>by simp[nq,sN]
 |j+1,hj=>by
  simp only[nq,sN]
  rw[<-aaC j (by omega),lY (i:=j) (by omega),Nat.add_mul,Nat.mul_assoc]
theorem gJ.aaG (n:Nat) {k:Nat} (hk:k<D.length):(uO L D S n).getD k 0=dI (dB L D S) n (c8 S (L.getD k 0)):=by
 unfold uO
 rw[List.getD_eq_getElem?_getD,mT _ hk]
 rfl
theorem gJ.alY (n:Nat) {k:Nat} (hk:k<D.length):0<=(uO L D S n).getD k 0/\(uO L D S n).getD k 0<D.getD k 0:=by
 rw[I.aaG n hk]
 have cW:k<L.length:=by have:=I.len;omega
 have h1:=I.aia cW
 have h2:=I.Xe n h1
 rw[(I.inv h1 cW).2 rfl] at h2
 exact h2
theorem gJ.off (n:Nat):nq D (uO L D S n) D.length=jh L D S n:=by
 have h1:=aaC (D:=D) (ix:=uO L D S n) D.length (Nat.le_refl _)
 rw[nA,Nat.mul_one] at h1
 rw[h1]
 unfold jh
 rw[anZ I.p (gP L D S n),I.len]
 refine S1 _ fun k hk=>?_
 rw[I.aaG n hk]
 unfold gP
 rw[wQ I.nL (by have:=I.len;omega)]
theorem gJ.aaF (n:Nat):jh L D S n<br D:=by
 have:=aaB (D:=D) (ix:=uO L D S n) (fun k hk=>by have:=I.alY n hk;omega) D.length (Nat.le_refl _)
 rw[nA,Nat.mul_one,I.off n] at this
 omega
end
theorem Ka {l:List Int} {b:Int} (h:zl l b) {i:Nat} (hi:i<l.length):∃a:Nat,l[i]? =some (a:Int)/\(l.getD i 0).toNat=a/\(a:Int)<=b:=by
 have:=h.2 _ (List.getElem_mem hi)
 refine⟨l[i].toNat,?_,?_,by omega⟩
 ·rw[List.getElem?_eq_getElem hi]
  congr 1
  omega
 ·rw[List.getD_eq_getElem?_getD,List.getElem?_eq_getElem hi]
  rfl
theorem afR (x:List Int×List Int) (y:Int) (h:zH x=some y):Lk ax x=some y:=by
 obtain⟨s,ix⟩:=x
 simp only[zH] at h
 split at h
 ·rename_i hc
  rw[<-h]
  obtain⟨h1,h2,he⟩:=hc
  try dsimp only at h1 h2 he
  simp only[Lk]
  have hb:∀j,j<=s.length->sN (fun i=>(ix.getD i 0).toNat*(s.getD i 0).toNat) j<=j*8388608:=fun j hj=>aby j fun i hi=>by
   obtain⟨a,_,a2,a3⟩:=Ka h1 (i:=i) (by omega)
   obtain⟨b,_,b2,b3⟩:=Ka h2 (i:=i) (by omega)
   rw[a2,b2]
   exact Nat.mul_le_mul (show b<=8 by omega) (show a<=1048576 by omega)
  have hl:=h1.1
  rw[fF (fun j=>(s,ix,((sN (fun i=>(ix.getD i 0).toNat*(s.getD i 0).toNat) j:Nat):Int),(s.length:Int),(j:Int))) s.length ?a1 ?a2 ?a3 (dC (by omega))]
  case a3=>rfl
  case a2=>
   dsimp only
   rw[aR (cZ (by omega))]
  case a1=>
   intro j hj
   obtain⟨a,a1,a2,a3⟩:=Ka h1 (i:=j) (by omega)
   obtain⟨b,b1,b2,b3⟩:=Ka h2 (i:=j) (by omega)
   have DG:=hb j (by omega)
   have e:sN (fun i=>(ix.getD i 0).toNat*(s.getD i 0).toNat) (j+1)=sN (fun i=>(ix.getD i 0).toNat*(s.getD i 0).toNat) j+b*a:=by simp only[sN];rw[a2,b2]
   have hm:=Nat.mul_le_mul (show b<=8 by omega) (show a<=1048576 by omega)
   dsimp only
   rw[aX (dc (by omega)),dY,dY,a1,b1]
   simp only[bI]
   rw[e,Nat.mul_comm b a]
   rw[Nat.mul_comm b a] at hm
   rw[np (by rw[<-Int.natCast_mul];omega) (by rw[<-Int.natCast_mul];omega),<-Int.natCast_mul,fv (by omega) (by omega),fv (by omega) (by omega)]
   rfl
  simp only[cd,Option.bind]
 ·cases h
theorem afN (x:T3×Int) (y:Int) (h:zF x=some y):Lh ax x=some y:=by
 obtain⟨⟨L,D,A⟩,v⟩:=x
 simp only[zF] at h
 split at h
 ·rename_i hc
  rw[<-h]
  try dsimp only at hc
  simp only[Lh]
  unfold x3
  by_cases hp:c8 L v<L.length
  ·rw[if_pos hp]
   rw[fF (r:=Sum.inr ((c8 L v:Nat):Int)) (fun j=>(v,L,(L.length:Int),(j:Int))) (c8 L v) ?a1 ?a2 ?a3 (dC (by omega))]
   case a3=>rfl
   case a2=>
    dsimp only
    rw[aX (dc (by omega)),dY,EG hp]
    simp only[bI]
    rw[aX (by simp[cz])]
   case a1=>
    intro j hj
    dsimp only
    rw[aX (dc (by omega)),dY,List.getElem?_eq_getElem (by omega)]
    simp only[bI]
    rw[aR (by
     have:=EH hj
     rw[List.getElem?_eq_getElem (by omega)] at this
     simp only[cz,beq_eq_false_iff_ne,ne_eq]
     exact fun e=>this (congrArg some e)),fv (by omega) (by omega)]
    rfl
   simp only[cd,Option.bind]
  ·rw[if_neg hp]
   have sL:c8 L v=L.length:=by have:=JK L v;omega
   rw[fF (r:=Sum.inl ()) (fun j=>(v,L,(L.length:Int),(j:Int))) L.length ?a1 ?a2 ?a3 (dC (by omega))]
   case a3=>rfl
   case a2=>
    dsimp only
    rw[aR (cZ (by omega))]
   case a1=>
    intro j hj
    dsimp only
    rw[aX (dc (by omega)),dY,List.getElem?_eq_getElem (by omega)]
    simp only[bI]
    rw[aR (by
     have:=EH (l:=L) (v:=v) (j:=j) (by omega)
     rw[List.getElem?_eq_getElem (by omega)] at this
     simp only[cz,beq_eq_false_iff_ne,ne_eq]
     exact fun e=>this (congrArg some e)),fv (by omega) (by omega)]
    rfl
   simp only[cd,Option.bind]
 ·cases h
theorem af1 (x:Rg×T3×Int) (y:List Int) (h:xv x=some y):Ls ax x=some y:=by
 obtain⟨⟨k,p,m⟩,⟨L,D,A⟩,n⟩:=x
 simp only[xv,VF] at h
 split at h
 ·rename_i hc
  rw[<-h]
  obtain⟨hr,h0,h1,h2⟩:=hc
  dsimp only at hr h0 h1 h2
  obtain⟨n,rfl⟩:=fz h0
  have hw:=Fx hr
  simp only[Int.toNat_natCast] at h1⊢
  have mD:(n+1)*bZ (k,p,m)=n*bZ (k,p,m)+bZ (k,p,m):=by rw[Nat.add_mul,Nat.one_mul]
  have hn:n+1<=1048576:=by have:=Nat.le_mul_of_pos_right (n+1) (show 0<bZ (k,p,m) by omega);omega
  simp only[Ls,vl,bI]
  rw[hw.1,fv (by omega) (by omega),show(n:Int)+1=((n+1:Nat):Int) by push_cast;rfl]
  rw[aat (a:=n) (b:=bZ (k,p,m)) (by omega)]
  rw[aat (a:=n+1) (b:=bZ (k,p,m)) (by omega)]
  rw[show ib ((n*bZ (k,p,m):Nat):Int) (((n+1)*bZ (k,p,m):Nat):Int) (J A)=some (n*bZ (k,p,m),bZ (k,p,m)) by
   unfold ib J
   rw[if_pos ⟨by omega,by omega,by omega⟩]
   congr 2
   omega]
  simp only[bI]
 ·cases h
end Go.Am
end
