/- Mx, M1, M4, M5, M11, M22, M6, M7, M8, M9, M23, M24, M25, M31, Fm, M14, M15, M16, M17, M19, M33, M32, M34, M62, M64, M36, M18, M38, M48, M49, M50, M51, M52, M12, M20, M21, M53, M56, M65: parts of the proof. No condition. -/
import Derived.Test.YtbgmbplglejidaaMT
import Derived.Lib.BitFns
set_option linter.unusedVariables false
set_option linter.unusedSimpArgs false
section
namespace Go.Am
def aB (r c:Nat) (M:Nat->Nat->Int):List Int:=(List.range (r*c)).map fun n=>M (n/c) (n%c)
def fY (c:Nat) (l:List Int):Nat->Nat->Int:=fun i j=>l.getD (i*c+j) 0
def lW (M:Nat->Nat->Int) (i j:Nat) (x:Int):Nat->Nat->Int:=fun a b=>if a=i/\b=j then x else M a b
theorem aaj {r c i j:Nat} (hi:i<r) (hj:j<c):i*c+j<r*c:=by
 have:(i+1)*c<=r*c:=Nat.mul_le_mul_right _ hi
 rw[Nat.add_mul] at this
 omega
theorem aai {c i j:Nat} (hj:j<c):(i*c+j)/c=i:=by
 rw[Nat.mul_comm,Nat.mul_add_div (by omega),Nat.div_eq_of_lt hj,Nat.add_zero]
theorem aak {c i j:Nat} (hj:j<c):(i*c+j)%c=j:=by
 rw[Nat.mul_comm,Nat.mul_add_mod,Nat.mod_eq_of_lt hj]
theorem mz (r c:Nat) (M:Nat->Nat->Int):(aB r c M).length=r*c:=by simp[aB]
theorem ID {r c i j:Nat} (M:Nat->Nat->Int) (hi:i<r) (hj:j<c):(aB r c M)[i*c+j]? =some (M i j):=by
 unfold aB
 rw[List.getElem?_map,List.getElem?_range (aaj hi hj)]
 simp[aai hj,aak hj]
theorem mw {r c:Nat} {M M':Nat->Nat->Int} (h:∀i,i<r->∀j,j<c->M i j=M' i j):aB r c M=aB r c M':=by
 unfold aB
 refine List.map_congr_left fun n hn=>?_
 have hn:=List.mem_range.1 hn
 have hc:0<c:=by
  rcases Nat.eq_zero_or_pos c with h|h
  ·subst h;simp at hn
  ·exact h
 exact h _ ((Nat.div_lt_iff_lt_mul hc).2 hn) _ (Nat.mod_lt _ hc)
theorem ahF {r c i j:Nat} (M:Nat->Nat->Int) (hj:j<c) (x:Int):(aB r c M).set (i*c+j) x=aB r c (lW M i j x):=by
 apply List.ext_getElem?
 intro n
 rw[List.getElem?_set,mz]
 unfold aB
 simp only[List.getElem?_map]
 by_cases hn:n<r*c
 ·rw[List.getElem?_range hn]
  have hc:0<c:=by omega
  by_cases he:i*c+j=n
  ·rw[if_pos he,if_pos (by omega)]
   subst he
   simp[lW,aai hj,aak hj]
  ·rw[if_neg he]
   simp only[Option.map_some,lW]
   rw[if_neg]
   rintro⟨h1,h2⟩
   apply he
   rw[<-h1,<-h2]
   have:=Nat.div_add_mod n c
   rw[Nat.mul_comm] at this
   exact this
 ·rw[List.getElem?_eq_none (by simp;omega)]
  by_cases he:i*c+j=n
  ·rw[if_pos he,if_neg (by omega)];rfl
  ·rw[if_neg he];rfl
theorem AM {r c:Nat} {l:List Int} (h:l.length=r*c):aB r c (fY c l)=l:=by
 apply List.ext_getElem?
 intro n
 unfold aB
 simp only[List.getElem?_map]
 by_cases hn:n<r*c
 ·rw[List.getElem?_range hn,List.getElem?_eq_getElem (by omega)]
  simp only[Option.map_some,fY]
  have:=Nat.div_add_mod n c
  rw[Nat.mul_comm] at this
  rw[this,List.getD_eq_getElem?_getD,List.getElem?_eq_getElem (by omega)]
  rfl
 ·rw[List.getElem?_eq_none (by simp;omega),List.getElem?_eq_none (by omega)]
  rfl
theorem pk {r c i j:Nat} (M:Nat->Nat->Int) (hi:i<r) (hj:j<c):fY c (aB r c M) i j=M i j:=by
 unfold fY
 rw[List.getD_eq_getElem?_getD,ID M hi hj]
 rfl
theorem ahE (r c:Nat) (x:Int):dN (r*c) x=aB r c (fun _ _=>x):=by
 unfold aB dN
 rw[List.map_const',List.length_range]
theorem qp {i c j:Nat} (hi:i<=1048576) (hc:c<=1048576) (hj:j<=1048576):aU .i64 (cu .i64 (i:Int) (c:Int)) (j:Int)=((i*c+j:Nat):Int):=by
 have h1:i*c<=1048576*1048576:=Nat.mul_le_mul hi hc
 have e:(i:Int)*(c:Int)=((i*c:Nat):Int):=by norm_cast
 rw[cu,xy (by omega) (by omega),eK (by omega) (by omega),e]
 omega
theorem Ez {i c:Nat} (hi:i<=1048576) (hc:c<=1048576):cu .i64 (i:Int) (c:Int)=((i*c:Nat):Int):=by
 have h1:i*c<=1048576*1048576:=Nat.mul_le_mul hi hc
 have e:(i:Int)*(c:Int)=((i*c:Nat):Int):=by norm_cast
 rw[cu,xy (by omega) (by omega),e]
theorem Ow {r c i j:Nat} (M:Nat->Nat->Int) (hi:i<r) (hj:j<c):dd (aB r c M) ((i*c+j:Nat):Int)=some (M i j):=by rw[dj,ID M hi hj]
theorem tS {r c i j:Nat} (M:Nat->Nat->Int) (hi:i<r) (hj:j<c):da ((i*c+j:Nat):Int) (J (aB r c M))=some (i*c+j):=pL (by unfold J;rw[mz];exact aaj hi hj)
theorem ug {r c i j:Nat} (M:Nat->Nat->Int) (hi:i<r) (hj:j<c):bY (aB r c M) (i*c+j)=some (M i j):=ID M hi hj
theorem E6 {r c i j:Nat} (M:Nat->Nat->Int) (hj:j<c) (x:Int):bg (aB r c M) (i*c+j) x=aB r c (lW M i j x):=ahF M hj x
theorem wP (r c:Nat) (M:Nat->Nat->Int):J (aB r c M)=r*c:=mz r c M
theorem pY (r c:Nat) (M M':Nat->Nat->Int):ae 0 (J (aB r c M)) (J (aB r c M'))=some ():=by rw[wP,wP];exact bW _
theorem EW (r c:Nat) (M M':Nat->Nat->Int):jF (J (aB r c M)) (J (aB r c M'))=some ():=by rw[wP,wP];exact pA rfl
theorem ER {a p:Int} (ha:0<=a) (hp:0<p):hZ a p=some (a%p):=by
 unfold hZ
 rw[if_neg (by omega),Int.tmod_eq_emod_of_nonneg ha]
theorem jV {i n:Nat} (h:i<n):bd (i:Int) (n:Int)=true:=df (by omega)
theorem jz {i n:Nat} (h:n<=i):bd (i:Int) (n:Int)=false:=cP (by omega)
theorem gT {i:Nat} (h:i<=1048577):aU .i64 (i:Int) 1=((i+1:Nat):Int):=by rw[eK (by omega) (by omega)];omega
def eo (p:Int):Prop:=2<=p/\p<=1000003
instance (p:Int):Decidable (eo p):=inferInstanceAs (Decidable (2<=p/\p<=1000003))
def gw (p x:Int):Prop:=0<=x/\x<p
instance (p x:Int):Decidable (gw p x):=inferInstanceAs (Decidable (0<=x/\x<p))
theorem tY {p:Int} (hp:eo p) (a:Int):gw p (a%p):=⟨Int.emod_nonneg _ (by have:=hp.1;omega),Int.emod_lt_of_pos _ (by have:=hp.1;omega)⟩
theorem gw.le {p x:Int} (h:gw p x):0<=x/\x<=p:=⟨h.1,Int.le_of_lt h.2⟩
theorem gw.s {p x:Int} (hp:eo p) (h:gw p x):0<=x/\x<=1000003000000:=⟨h.1,by have:=h.2;have:=hp.2;omega⟩
theorem Sk {p a b:Int} (hp:eo p) (ha:0<=a/\a<=p) (hb:0<=b/\b<=p):0<=a*b/\a*b<=1000006000009:=by
 refine⟨Int.mul_nonneg ha.1 hb.1,?_⟩
 have h1:=hp.2
 have:=Int.mul_le_mul (show a<=1000003 by omega) (show b<=1000003 by omega) hb.1 (by omega)
 omega
theorem abb {p a b:Int} (hp:eo p) (ha:0<=a/\a<=p) (hb:0<=b/\b<=p):cu .i64 a b=a*b:=by
 have:=Sk hp ha hb
 exact xy (by omega) (by omega)
theorem aa0 {p s a b:Int} (hp:eo p) (hs:0<=s/\s<=1000003000000) (ha:0<=a/\a<=p) (hb:0<=b/\b<=p):hZ (aU .i64 s (cu .i64 a b)) p=some ((s+a*b)%p):=by
 have h:=Sk hp ha hb
 rw[abb hp ha hb,eK (by omega) (by omega),ER (by omega) (by have:=hp.1;omega)]
theorem BG {p a b:Int} (hp:eo p) (ha:0<=a/\a<=p) (hb:0<=b/\b<=p):hZ (cu .i64 a b) p=some (a*b%p):=by
 have h:=Sk hp ha hb
 rw[abb hp ha hb,ER h.1 (by have:=hp.1;omega)]
def fC (p:Int) (r c:Nat) (M:Nat->Nat->Int):Prop:=∀i,i<r->∀j,j<c->gw p (M i j)
def iw (p:Int) (l:List Int):Prop:=∀x∈l,gw p x
instance (p:Int) (l:List Int):Decidable (iw p l):=inferInstanceAs (Decidable (∀x∈l,gw p x))
theorem pH {p:Int} {r c:Nat} {M:Nat->Nat->Int}:iw p (aB r c M)↔fC p r c M:=by
 constructor
 ·intro h i hi j hj
  exact h _ (List.mem_of_getElem? (ID M hi hj))
 ·intro h x hx
  unfold aB at hx
  obtain⟨n,hn,rfl⟩:=List.mem_map.1 hx
  have hn:=List.mem_range.1 hn
  have hc:0<c:=by
   rcases Nat.eq_zero_or_pos c with h|h
   ·subst h;simp at hn
   ·exact h
  exact h _ ((Nat.div_lt_iff_lt_mul hc).2 hn) _ (Nat.mod_lt _ hc)
def nk (x:Int×Int×List Int):Prop:=(0<=x.1/\x.1<=4096)/\(0<=x.2.1/\x.2.1<=4096)/\(x.2.2.length:Int)=x.1*x.2.1/\x.2.2.length<=1048576
instance (x:Int×Int×List Int):Decidable (nk x):=by unfold nk;infer_instance
theorem wR {x:Int×Int×List Int} (h:nk x):∃(r c:Nat) (M:Nat->Nat->Int),x=((r:Int),(c:Int),aB r c M)/\r<=4096/\c<=4096/\r*c<=1048576:=by
 obtain⟨r,c,l⟩:=x
 obtain⟨h1,h2,h3,h4⟩:=h
 simp only at h1 h2 h3 h4
 obtain⟨r,rfl⟩:=jD h1.1
 obtain⟨c,rfl⟩:=jD h2.1
 have e:l.length=r*c:=by
  have:((r:Int)*(c:Int))=((r*c:Nat):Int):=by norm_cast
  rw[this] at h3;exact_mod_cast h3
 exact⟨r,c,fY c l,by rw[AM e],by omega,by omega,by omega⟩
theorem y5 {r c:Nat} (M:Nat->Nat->Int) (hr:r<=4096) (hc:c<=4096) (h:r*c<=1048576):nk ((r:Int),(c:Int),aB r c M):=by
 refine⟨⟨by omega,by show(r:Int)<=4096;omega⟩,⟨by show(0:Int)<=c;omega,by show(c:Int)<=4096;omega⟩,?_,?_⟩
 ·simp only[mz];norm_cast
 ·simp only[mz];exact h
end Go.Am
end
section
namespace Go.Am
def gS:Int×Int×Int->Option Bool:=fun((a,b,c):Int×Int×Int)=>some (decide (b<=a/\a<=c))
def Hf:ai:=[(.one,[.int .i64]),(.one,[.int .i64]),(.one,[.int .i64])]
def TG:ai:=[(.one,[.bool])]
def alz:aN:=[]
def LU (NN:Nat):(Int×(Int×Int))->(Option Bool):=
 (fun((i0,i1,i2):(Int×(Int×Int)))=>
 ak (fM i1 i0)
 (some (fM i0 i2))
 (some false))
theorem ag2 (x:Int×Int×Int) (y:Bool) (h:gS x=some y):LU az x=some y:=by
 obtain⟨a,b,c⟩:=x
 rw[<-h]
 simp only[gS,LU,fM]
 by_cases hc:b<=a<;>simp[hc,ak]
end Go.Am
end
section
namespace Go.Am
def pP (n:Int) (i:Nat):Bool:=decide ((i:Int)*i<=n)&&decide (n%(i:Int)=0)
def eE (n:Int):Bool:=decide (2<=n/\n<=1000003)&& !((List.range' 2 999).any (pP n))
def sf:Int->Option Bool:=fun(n:Int)=>some (eE n)
def r9:Int->Option Bool:=fun(n:Int)=>some (eE n)
def Ed (m:Int) (v:Int):Bool:=decide (0<=v/\v<m)
def nv (m:Int) (l:List Int):Bool:=l.all (Ed m)
def zK:Int×List Int->Option Bool:=fun((m,l):Int×List Int)=>if l.length<=1048576 then some (nv m l) else none
def o9 (m:Int) (x:Int×Int×List Int):Bool:=eE m&&(decide (0<=x.1/\x.1<=64)&&(decide (0<=x.2.1/\x.2.1<=64)&&(decide ((x.2.2.length:Int)=x.1*x.2.1)&&nv m x.2.2)))
def xD:Int×Int×Int×List Int->Option Bool:=fun((m,x):Int×Int×Int×List Int)=>if adE x<=1048576 then some (o9 m x) else none
def G9:ai:=[(.one,[.int .i64])]
def TA:ai:=[(.one,[.bool])]
def alu:aN:=[]
def Ge:ai:=[(.one,[.int .i64])]
def SJ:ai:=[(.one,[.bool])]
def akP:aN:=[]
def Gw:ai:=[(.one,[.int .i64]),(.one,[.list [.int .i64]])]
def S1:ai:=[(.one,[.bool])]
def ak2:aN:=[]
def Gf:ai:=[(.one,[.int .i64]),(.agg,[.int .i64,.int .i64,.list [.int .i64]])]
def SK:ai:=[(.one,[.bool])]
def akQ:aN:=[]
def LO (NN:Nat):Int->(Option Bool):=
 (fun(i0:Int)=>
 bD (bu NN (fun((i1,i2):(Int×Int))=>
 ak (fM (cu .i64 i2 i2) i1)
 (ak (fM i1 (1000003:Int))
 ((hZ i1 i2).U (fun i3=>
 ak (bL i3 (0:Int))
 (some (Sum.inr (Sum.inr false)))
 (some (Sum.inl (i1,aU .i64 i2 1)))))
 (some (Sum.inr (Sum.inl i1))))
 (some (Sum.inr (Sum.inl i1))))
 (i0,(2:Int)))
 (fun i4=>
 (gS (i4,(2:Int),(1000003:Int))).U (fun b5=>
 some b5)))
def K7 (NN:Nat):Int->(Option Bool):=
 (fun(i0:Int)=>
 ak (bd i0 (2:Int))
 (some false)
 (ak (bd (1000003:Int) i0)
 (some false)
 (bD (bu NN (fun((i1,i2):(Int×Int))=>
 ak (fM (cu .i64 i2 i2) i1)
 ((hZ i1 i2).U (fun i3=>
 ak (bL i3 (0:Int))
 (some (Sum.inr (Sum.inr false)))
 (some (Sum.inl (i1,aU .i64 i2 1)))))
 (some (Sum.inr (Sum.inl ()))))
 (i0,(2:Int)))
 (fun _=>
 some true))))
def Li (NN:Nat):(Int×(List Int))->(Option Bool):=
 (fun((i0,l1):(Int×(List Int)))=>
 bD (bu NN (fun((i2,l3,i4,i5):(Int×((List Int)×(Int×Int))))=>
 ak (bd i5 i4)
 ((dd l3 i5).U (fun i6=>
 ak (bd i6 (0:Int))
 (some (Sum.inr (Sum.inr false)))
 (ak (fM i2 i6)
 (some (Sum.inr (Sum.inr false)))
 (some (Sum.inl (i2,l3,i4,aU .i64 i5 1))))))
 (some (Sum.inr (Sum.inl ()))))
 (i0,l1,aI (J l1),(0:Int)))
 (fun _=>
 some true))
def K8 (NN:Nat):(Int×(Int×(Int×(List Int))))->(Option Bool):=
 (fun((i0,i1,i2,l3):(Int×(Int×(Int×(List Int)))))=>
 (r9 i0).U (fun b4=>
 ak (cC b4)
 (some false)
 (ak (bd i1 (0:Int))
 (some false)
 (ak (bd i2 (0:Int))
 (some false)
 (ak (bd (64:Int) i1)
 (some false)
 (ak (bd (64:Int) i2)
 (some false)
 (ak (bL (aI (J l3)) (cu .i64 i1 i2))
 ((zK (i0,l3)).U (fun b5=>
 some b5))
 (some false))))))))
theorem kq {a b:Int} (h1: -9223372036854775808<=a*b) (h2:a*b<=9223372036854775807):cu .i64 a b=a*b:=xy h1 h2
theorem J0 {n:Int} {i:Nat} (hn:0<=n) (hi:0<i):hZ n (i:Int)=some (n%(i:Int)):=by
 unfold hZ
 rw[if_neg (by omega),Int.tmod_eq_emod_of_nonneg hn]
theorem VU {i j:Nat} (h:i<=j):(i:Int)*i<=(j:Int)*j:=by
 have:=Nat.mul_le_mul h h
 exact_mod_cast this
theorem Ye {X Y:Type} {f:X->Option (X⊕(Y⊕Bool))} (n:Int) (mk:Nat->X) (r:Y) (hn:n<=1000003)
  (h1:∀i:Nat,2<=i->i<=1001->(i:Int)*i<=n->n%(i:Int)=0->f (mk i)=some (.inr (.inr false)))
  (h2:∀i:Nat,2<=i->i<=1001->(i:Int)*i<=n->n%(i:Int)≠0->f (mk i)=some (.inl (mk (i+1))))
  (h3:∀i:Nat,2<=i->i<=1001->¬(i:Int)*i<=n->f (mk i)=some (.inr (.inl r))) {x0:X} (hx:x0=mk 2):
  bu az f x0=some (if(List.range' 2 999).any (pP n)=true then .inr false else .inl r):=by
 subst hx
 have cV:∀(d i:Nat),2<=i->i+d=1001->∀N,d<N->bu N f (mk i)=some (if(List.range' i d).any (pP n)=true then .inr false else .inl r):=by
  intro d
  induction d with
  |zero=>
   intro i hi hd N hN
   obtain⟨N,rfl⟩:∃M,N=M+1:=⟨N - 1,by omega⟩
   have:i=1001:=by omega
   subst this
   rw[bu,h3 1001 (by omega) (by omega) (by omega)]
   rfl
  |succ d ih=>
   intro i hi hd N hN
   obtain⟨N,rfl⟩:∃M,N=M+1:=⟨N - 1,by omega⟩
   rw[List.range'_succ,List.any_cons]
   by_cases gI:(i:Int)*i<=n
   ·by_cases hm:n%(i:Int)=0
    ·rw[bu,h1 i hi (by omega) gI hm]
     simp[pP,gI,hm]
    ·rw[bu,h2 i hi (by omega) gI hm]
     simp only
     rw[ih (i+1) (by omega) (by omega) N (by omega),show pP n i=false by simp[pP,hm],Bool.false_or]
   ·rw[bu,h3 i hi (by omega) gI]
    have:(List.range' (i+1) d).any (pP n)=false:=by
     rw[List.any_eq_false]
     intro j hj
     have:=(List.mem_range'_1.1 hj).1
     have:=VU (show i<=j by omega)
     simp only[pP,Bool.and_eq_true,decide_eq_true_eq,not_and]
     intro h;omega
    simp only
    rw[this]
    simp[pP,gI]
 exact cV 999 2 (by omega) (by omega) az (cX (by omega))
theorem Cp {i:Nat} (h:i<=1001):0<=(i:Int)*i/\(i:Int)*i<=1002001:=by
 have h1:=VU h
 have h0:=VU (Nat.zero_le i)
 omega
theorem agX (x:Int) (y:Bool) (h:sf x=some y):LO az x=some y:=by
 rw[<-h]
 simp only[sf,LO]
 by_cases hx:x<=1000003
 ·rw[Ye x (fun i=>(x,(i:Int))) x hx ?_ ?_ ?_ ?_]
  ·by_cases hd:(List.range' 2 999).any (pP x)=true
   ·rw[if_pos hd,Ej,eE,hd]
    simp
   ·rw[if_neg hd,eU,eE]
    simp only[gS,aw]
    simp[hd]
  all_goals try simp only
  ·intro i h2 hi gI hm
   have hs:=Cp hi
   rw[kq (by omega) (by omega),aH (o7 gI),aH (o7 hx),J0 (by omega) (by omega),aw,aH (rj hm)]
  ·intro i h2 hi gI hm
   have hs:=Cp hi
   rw[kq (by omega) (by omega),aH (o7 gI),aH (o7 hx),J0 (by omega) (by omega),aw,aK (rh hm),eK (by omega) (by omega)]
   rfl
  ·intro i h2 hi gI
   have hs:=Cp hi
   rw[kq (by omega) (by omega),aK (Bz (by omega))]
  ·rfl
 ·rw[ef (fun i=>(x,(i:Int)+2)) (r:=Sum.inl x) 0 (fun j hj=>by omega) ?_ ?_ (cX (by omega))]
  ·rw[eU,eE]
   simp only[gS,aw]
   have:¬(2<=x/\x<=1000003):=by omega
   simp[this]
  ·simp only
   rw[aH (o7 (by rw[kq (by omega) (by omega)];omega)),aK (Bz (by omega))]
  ·rfl
theorem aga (x:Int) (y:Bool) (h:r9 x=some y):K7 az x=some y:=by
 rw[<-h]
 simp only[r9,K7]
 by_cases h2:x<2
 ·rw[aH (df h2),eE,decide_eq_false (by omega)];rfl
 rw[aK (cP (by omega))]
 by_cases hx:1000003<x
 ·rw[aH (df hx),eE,decide_eq_false (by omega)];rfl
 rw[aK (cP (by omega))]
 rw[Ye x (fun i=>(x,(i:Int))) () (by omega) ?_ ?_ ?_ ?_]
 ·have hr:(2<=x/\x<=1000003):=by omega
  by_cases hd:(List.range' 2 999).any (pP x)=true
  ·rw[if_pos hd,Ej,eE,hd]
   simp
  ·rw[if_neg hd,eU,eE]
   simp[hd,hr]
 all_goals try simp only
 ·intro i h2 hi gI hm
  have hs:=Cp hi
  rw[kq (by omega) (by omega),aH (o7 gI),J0 (by omega) (by omega),aw,aH (rj hm)]
 ·intro i h2 hi gI hm
  have hs:=Cp hi
  rw[kq (by omega) (by omega),aH (o7 gI),J0 (by omega) (by omega),aw,aK (rh hm),eK (by omega) (by omega)]
  rfl
 ·intro i h2 hi gI
  have hs:=Cp hi
  rw[kq (by omega) (by omega),aK (Bz (by omega))]
 ·rfl
theorem agr (x:Int×List Int) (y:Bool) (h:zK x=some y):Li az x=some y:=by
 obtain⟨m,l⟩:=x
 simp only[zK] at h
 split at h
 ·rename_i hl
  rw[<-h]
  simp only[Li]
  rw[Ev (mk:=fun i=>(m,l,aI (J l),(i:Int))) l (Ed m) (Sum.inr false) (Sum.inl ()) ?_ ?_ ?_ ?_ (cX (by omega))]
  ·unfold nv
   cases l.all (Ed m)<;>rfl
  all_goals try simp only
  ·intro i a ha hp
   have hp:=of_decide_eq_true hp
   rw[aH (mP ha),dj,ha,aw,aK (cP (by omega)),aK (Bz (by omega)),pj ha (by omega)]
  ·intro i a ha hp
   have hp:=of_decide_eq_false hp
   rw[aH (mP ha),dj,ha,aw]
   by_cases h0:a<0
   ·rw[aH (df h0)]
   ·rw[aK (cP (by omega)),aH (o7 (by omega))]
  ·rw[aK (rO l)]
  ·rfl
 ·cases h
theorem jT {m:Int} (h:eE m=true):2<=m/\m<=1000003:=by
 simp only[eE,Bool.and_eq_true,decide_eq_true_eq] at h
 exact h.1
theorem agb (x:Int×Int×Int×List Int) (y:Bool) (h:xD x=some y):K8 az x=some y:=by
 obtain⟨m,r,c,l⟩:=x
 simp only[xD] at h
 split at h
 ·rename_i hl
  rw[<-h]
  have hl:l.length<=1048576:=hl
  simp only[K8,r9,aw,o9]
  cases hp:eE m with
  |false=>rfl
  |true=>
   rw[aK (by rfl),Bool.true_and]
   by_cases h1:r<0
   ·rw[aH (df h1),decide_eq_false (by omega)];rfl
   rw[aK (cP (by omega))]
   by_cases h2:c<0
   ·rw[aH (df h2),decide_eq_false (p:=0<=c/\c<=64) (by omega)];simp
   rw[aK (cP (by omega))]
   by_cases h3:64<r
   ·rw[aH (df h3),decide_eq_false (by omega)];rfl
   rw[aK (cP (by omega))]
   by_cases h4:64<c
   ·rw[aH (df h4),decide_eq_false (p:=0<=c/\c<=64) (by omega)];simp
   rw[aK (cP (by omega)),decide_eq_true (p:=0<=r/\r<=64) (by omega),decide_eq_true (p:=0<=c/\c<=64) (by omega),Bool.true_and,Bool.true_and]
   obtain⟨r,rfl⟩:=jD (z:=r) (by omega)
   obtain⟨c,rfl⟩:=jD (z:=c) (by omega)
   have db:r*c<=64*64:=Nat.mul_le_mul (by omega) (by omega)
   have aqZ:(r:Int)*(c:Int)=((r*c:Nat):Int):=by norm_cast
   rw[kq (by omega) (by omega),show zK (m,l)=some (nv m l) from if_pos hl]
   by_cases h5:(l.length:Int)=(r:Int)*c
   ·rw[aH (show bL (aI (J l)) _=true from rj h5),decide_eq_true h5];rfl
   ·rw[aK (show bL (aI (J l)) _=false from rh h5),decide_eq_false h5];rfl
 ·cases h
end Go.Am
end
section
namespace Go.Am
def c7:List Int->Int
 |[]=>1
 |x::l=>x*c7 l
def xW (fW:Int) (_:Nat) (a x:Int):Int:=min (a*x) (fW+1)
def sB (fW:Int) (l:List Int):Int:=sK (xW fW) 0 1 l
def acX (x:Int):Bool:=decide (0<=x/\x<=1048576)
def oA:List Int×Int->Option Int:=fun((l,fW):List Int×Int)=>if(0<=fW/\fW<=1048576)/\l.length<=1048576/\l.all acX=true then some (sB fW l) else none
def Hq:ai:=[(.one,[.list [.int .i64]]),(.one,[.int .i64])]
def TP:ai:=[(.one,[.int .i64])]
def alI:aN:=[]
def L4 (NN:Nat):((List Int)×Int)->(Option Int):=
 (fun((l0,i1):((List Int)×Int))=>
 bD (bu NN (fun((i2,i3,l4,i5,i6):(Int×(Int×((List Int)×(Int×Int)))))=>
 ak (bd i6 i5)
 ((dd l4 i6).U (fun i7=>
 some (Sum.inl (i2,BC (cu .i64 i3 i7) (aU .i64 i2 1),l4,i5,aU .i64 i6 1))))
 (some (Sum.inr (Sum.inl i3))))
 (i1,(1:Int),l0,aI (J l0),(0:Int)))
 (fun i8=>
 some i8))
theorem EA {a x A B:Int} (h0:0<=a) (h1:a<=A) (h2:0<=x) (h3:x<=B):0<=a*x/\a*x<=A*B:=
 ⟨Int.mul_nonneg h0 h2,Int.mul_le_mul h1 h3 h2 (by omega)⟩
theorem ahb (x:List Int×Int) (y:Int) (h:oA x=some y):L4 az x=some y:=by
 obtain⟨l,fW⟩:=x
 simp only[oA] at h
 split at h
 ·rename_i hc
  obtain⟨I0,hl,hs⟩:=hc
  rw[<-h]
  simp only[L4]
  rw[akw l (fun(a:Int) i=>(fW,a,l,aI (J l),(i:Int))) (fun _ a=>0<=a/\a<=fW+1) (xW fW) (fun a=>Sum.inl a) ?_ ?_ (s:=1) ⟨by omega,by omega⟩ ?_ (cX (by omega))]
  ·rfl
  all_goals try simp only
  ·intro i a x hx ha
   have Bf:=of_decide_eq_true (List.all_eq_true.1 hs x (List.mem_of_getElem? hx))
   obtain⟨b1,b2⟩:=EA ha.1 (show a<=1048577 by omega) Bf.1 Bf.2
   rw[aH (mP hx),dj,hx,aw,kq (by omega) (by omega),eK (a:=fW) (by omega) (by omega),akD,pj hx (by omega)]
   refine⟨rfl,?_⟩
   unfold xW
   omega
  ·intro a _
   rw[aK (rO l)]
  ·rfl
 ·cases h
theorem EO:∀{l:List Int},(∀x∈l,1<=x)->1<=c7 l
 |[],_=>by simp[c7]
 |x::l,h=>by
  have h1:=h x List.mem_cons_self
  have h2:=EO (l:=l) (fun x hx=>h x (List.mem_cons_of_mem _ hx))
  have:=Int.mul_le_mul h1 h2 (by omega) (by omega)
  simpa[c7] using this
theorem CX {fW:Int} (I0:0<=fW):∀(l:List Int) (i:Nat) (a:Int),(∀x∈l,1<=x)->1<=a->a<=fW+1->sK (xW fW) i a l=min (a*c7 l) (fW+1)
 |[],i,a,_,_,h2=>by simp only[sK,c7,Int.mul_one];omega
 |x::l,i,a,h,h1,h2=>by
  have hx:=h x List.mem_cons_self
  have hp:=EO (l:=l) (fun x hx=>h x (List.mem_cons_of_mem _ hx))
  have ym:=Int.mul_le_mul h1 hx (by omega) (by omega)
  rw[sK,CX I0 l (i+1) _ (fun x hx=>h x (List.mem_cons_of_mem _ hx)) (by unfold xW;omega) (by unfold xW;omega),c7,<-Int.mul_assoc]
  unfold xW
  generalize a*x=c at*
  by_cases hc:c<=fW+1
  ·rw[Int.min_eq_left hc]
  ·have e:min c (fW+1)=fW+1:=by omega
   rw[e]
   have k1:=Int.mul_le_mul_of_nonneg_left hp (show 0<=fW+1 by omega)
   have k2:=Int.mul_le_mul_of_nonneg_left hp (show 0<=c by omega)
   omega
theorem aeJ {fW:Int} (I0:0<=fW) {l:List Int} (h:∀x∈l,1<=x):fM (sB fW l) fW=decide (c7 l<=fW):=by
 unfold fM sB
 rw[CX I0 l 0 1 h (by omega) (by omega),Int.one_mul]
 by_cases hp:c7 l<=fW
 ·rw[decide_eq_true hp,decide_eq_true (by omega)]
 ·rw[decide_eq_false hp,decide_eq_false (by omega)]
end Go.Am
end
section
namespace Go.Am
def bQ (l:List Int) (v:Int):Nat:=l.findIdx fun a=>decide (a=v)
def pT (l:List Int) (v:Int):Int:=if bQ l v<l.length then(bQ l v:Int) else -1
def tC:List Int×Int->Option Int:=fun(x:List Int×Int)=>if x.1.length<=1048576 then some (pT x.1 x.2) else none
def xF:List Int×Int->Option Bool:=fun(x:List Int×Int)=>if x.1.length<=1048576 then some (decide (x.2∈x.1)) else none
def Ai (L D:List Int) (j:Nat):Prop:=(0<=L.getD j 0/\L.getD j 0<=99)/\(1<=D.getD j 0/\D.getD j 0<=8)/\L.getD j 0∉L.take j
instance (L D:List Int) (j:Nat):Decidable (Ai L D j):=by unfold Ai;infer_instance
def mY (L D:List Int):Bool:=decide (L.length<=12)&&(decide (L.length=D.length)&&decide (∀j,j<L.length->Ai L D j))
def gR (L D:List Int):Int:=if mY L D=true/\c7 D<=4096 then c7 D else -1
def z8:List Int×List Int->Option Bool:=fun(x:List Int×List Int)=>if x.1.length<=1048576/\x.2.length<=1048576 then some (mY x.1 x.2) else none
def vw:List Int×List Int×List Int->Option Int:=fun(x:List Int×List Int×List Int)=>if x.1.length<=1048576/\x.2.1.length<=1048576 then some (gR x.1 x.2.1) else none
def zG:List Int×List Int×List Int->Option Int:=vw
def Xu (m:Int) (D:List Int) (R:List (List Int)) (j:Nat):Prop:=((R.getD j []).length:Int)=D.getD j 0/\nv m (R.getD j [])=true
instance (m:Int) (D:List Int) (R:List (List Int)) (j:Nat):Decidable (Xu m D R j):=by unfold Xu;infer_instance
def Mv (x:(List Int×List Int×List Int)×Int×List (List Int)):Prop:=(x.1.1.length<=1048576/\x.1.2.1.length<=1048576)/\x.2.2.length<=1048576/\∀l∈x.2.2,l.length<=1048576
instance (x:(List Int×List Int×List Int)×Int×List (List Int)):Decidable (Mv x):=by unfold Mv;infer_instance
def Hk:ai:=[(.one,[.list [.int .i64]]),(.one,[.int .i64])]
def TK:ai:=[(.one,[.int .i64])]
def alD:aN:=[]
def Hj:ai:=[(.one,[.list [.int .i64]]),(.one,[.list [.int .i64]])]
def TJ:ai:=[(.one,[.bool])]
def alC:aN:=[]
def He:ai:=[(.agg,[.list [.int .i64],.list [.int .i64],.list [.int .i64]])]
def TF:ai:=[(.one,[.int .i64])]
def aly:aN:=[]
def Gv:ai:=[(.one,[.list [.int .i64]]),(.one,[.int .i64])]
def S0:ai:=[(.one,[.bool])]
def ak1:aN:=[]
def Gp:ai:=[(.agg,[.list [.int .i64],.list [.int .i64],.list [.int .i64]])]
def SS:ai:=[(.one,[.int .i64])]
def akV:aN:=[]
def LW (NN:Nat):((List Int)×Int)->(Option Int):=
 (fun((l0,i1):((List Int)×Int))=>
 bD (bu NN (fun((i2,l3,i4,i5):(Int×((List Int)×(Int×Int))))=>
 ak (bd i5 i4)
 ((dd l3 i5).U (fun i6=>
 ak (bL i6 i2)
 (some (Sum.inr (Sum.inr i5)))
 (some (Sum.inl (i2,l3,i4,aU .i64 i5 1)))))
 (some (Sum.inr (Sum.inl ()))))
 (i1,l0,aI (J l0),(0:Int)))
 (fun _=>
 some ((-1:Int))))
def LV (NN:Nat):((List Int)×(List Int))->(Option Bool):=
 (fun((l0,l1):((List Int)×(List Int)))=>
 ak (bd (12:Int) (aI (J l0)))
 (some false)
 (ak (dt (aI (J l0)) (aI (J l1)))
 (some false)
 (bD (bu NN (fun((l2,l3,l4,i5,i6):((List Int)×((List Int)×((List Int)×(Int×Int)))))=>
 ak (bd i6 i5)
 ((dd l4 i6).U (fun i7=>
 (gS (i7,(0:Int),(99:Int))).U (fun b8=>
 ak (cC b8)
 (some (Sum.inr (Sum.inr false)))
 ((dd l3 i6).U (fun i9=>
 (gS (i9,(1:Int),(8:Int))).U (fun pJ=>
 ak (cC pJ)
 (some (Sum.inr (Sum.inr false)))
 ((f7 (0:Int) i6 (J l2)).U (fun(td,wJ)=>
 (tC (fe l2 td wJ,i7)).U (fun cU=>
 ak (fM (0:Int) cU)
 (some (Sum.inr (Sum.inr false)))
 (some (Sum.inl (l2,l3,l4,i5,aU .i64 i6 1))))))))))))
 (some (Sum.inr (Sum.inl ()))))
 (l0,l1,l0,aI (J l0),(0:Int)))
 (fun _=>
 some true))))
def LS (NN:Nat):((List Int)×((List Int)×(List Int)))->(Option Int):=
 (fun((l0,l1,l2):((List Int)×((List Int)×(List Int))))=>
 (z8 (l0,l1)).U (fun b3=>
 ak (cC b3)
 (some ((-1:Int)))
 ((oA (l1,(4096:Int))).U (fun i4=>
 ak (bd (4096:Int) i4)
 (some ((-1:Int)))
 (some i4)))))
def Lh (NN:Nat):((List Int)×Int)->(Option Bool):=
 (fun((l0,i1):((List Int)×Int))=>
 bD (bu NN (fun((i2,l3,i4,i5):(Int×((List Int)×(Int×Int))))=>
 ak (bd i5 i4)
 ((dd l3 i5).U (fun i6=>
 ak (bL i2 i6)
 (some (Sum.inr (Sum.inr true)))
 (some (Sum.inl (i2,l3,i4,aU .i64 i5 1)))))
 (some (Sum.inr (Sum.inl ()))))
 (i1,l0,aI (J l0),(0:Int)))
 (fun _=>
 some false))
def Lc (NN:Nat):((List Int)×((List Int)×(List Int)))->(Option Int):=
 (fun((l0,l1,l2):((List Int)×((List Int)×(List Int))))=>
 ak (bd (12:Int) (aI (J l0)))
 (some ((-1:Int)))
 (ak (dt (aI (J l0)) (aI (J l1)))
 (some ((-1:Int)))
 (bD (bu NN (fun(((i3,l4,i5,i6),l7,l8,l9):((Int×((List Int)×(Int×Int)))×((List Int)×((List Int)×(List Int)))))=>
 ak (bd i6 i5)
 ((dd l4 i6).U (fun cr=>
 ak (bd cr (0:Int))
 (some (Sum.inr (Sum.inr ((-1:Int)))))
 (ak (bd (99:Int) cr)
 (some (Sum.inr (Sum.inr ((-1:Int)))))
 ((f7 (0:Int) i6 (J l7)).U (fun(td,wJ)=>
 (xF (fe l7 td wJ,cr)).U (fun sv=>
 ak (sv)
 (some (Sum.inr (Sum.inr ((-1:Int)))))
 ((dd l8 i6).U (fun ca=>
 ak (bd ca (1:Int))
 (some (Sum.inr (Sum.inr ((-1:Int)))))
 (ak (bd (8:Int) ca)
 (some (Sum.inr (Sum.inr ((-1:Int)))))
 (ak (bd (4096:Int) (cu .i64 i3 ca))
 (some (Sum.inr (Sum.inr ((-1:Int)))))
 (some (Sum.inl ((cu .i64 i3 ca,l4,i5,aU .i64 i6 1),l7,l8,l9)))))))))))))
 (some (Sum.inr (Sum.inl i3))))
 (((1:Int),l0,aI (J l0),(0:Int)),l0,l1,l2))
 (fun kH=>
 some kH))))
theorem Ky (P:Nat->Prop) [DecidablePred P]:∀c:Nat,∃n,n<=c/\(∀j,j<n->P j)/\(n=c\/¬P n)
 |0=>⟨0,Nat.le_refl 0,fun j hj=>absurd hj (Nat.not_lt_zero j),.inl rfl⟩
 |c+1=>by
  obtain⟨n,h1,h2,h3⟩:=Ky P c
  by_cases h:P n
  ·rcases h3 with h3|h3
   ·subst h3
    refine⟨n+1,Nat.le_refl _,fun j hj=>?_,.inl rfl⟩
    by_cases jn:j=n
    ·subst jn;exact h
    ·exact h2 j (by omega)
   ·exact absurd h h3
  ·exact⟨n,by omega,h2,.inr h⟩
theorem getD_some {α:Type} {l:List α} {j:Nat} (d:α) (h:j<l.length):l[j]? =some (l.getD j d):=by
 simp[List.getD,h]
theorem wQ {α:Type} {l:List α} {j:Nat} (h:j<l.length):bd (j:Int) (aI (J l))=true:=jV h
theorem BV {l:List Int} {v:Int} {j:Nat} (h:j<bQ l v):l[j]? ≠some v:=by
 intro e
 have hj:j<l.length:=(List.getElem?_eq_some_iff.1 e).1
 have:=List.not_of_lt_findIdx h
 rw[List.getElem?_eq_getElem hj] at e
 simp[Option.some.inj e] at this
theorem BU {l:List Int} {v:Int} (h:bQ l v<l.length):l[bQ l v]? =some v:=by
 have:=List.findIdx_getElem (w:=h)
 rw[List.getElem?_eq_getElem h]
 exact congrArg some (of_decide_eq_true this)
theorem EN (l:List Int) (v:Int):bQ l v<=l.length:=List.findIdx_le_length
theorem Nb (l:List Int) (v:Int):fM 0 (pT l v)=decide (v∈l):=by
 unfold pT fM
 by_cases h:bQ l v<l.length
 ·rw[if_pos h,decide_eq_true (by omega),decide_eq_true]
  exact List.mem_of_getElem? (BU h)
 ·rw[if_neg h,decide_eq_false (by omega),decide_eq_false]
  intro hm
  obtain⟨i,hi,e⟩:=List.mem_iff_getElem.1 hm
  have:=EN l v
  exact BV (show i<bQ l v by omega) (by rw[List.getElem?_eq_getElem hi,e])
theorem ag6 (x:List Int×Int) (y:Int) (h:tC x=some y):LW az x=some y:=by
 obtain⟨l,v⟩:=x
 simp only[tC] at h
 split at h
 ·rename_i hl
  rw[<-h]
  simp only[LW]
  have hp:=EN l v
  rw[ef (fun i=>(v,l,aI (J l),(i:Int))) (r:=if bQ l v<l.length then Sum.inr (bQ l v:Int) else Sum.inl ()) (bQ l v) ?_ ?_ ?_ (cX (by omega))]
  ·unfold pT
   by_cases h:bQ l v<l.length
   ·rw[if_pos h,if_pos h];rfl
   ·rw[if_neg h,if_neg h];rfl
  ·intro j hj
   simp only
   have iB:j<l.length:=by omega
   rw[aH (wQ iB),dj,getD_some 0 iB,aw,aK (rh (fun e=>BV hj (by rw[getD_some 0 iB,e])))]
   simp only[gT (show j<=1048577 by omega)]
  ·simp only
   by_cases h:bQ l v<l.length
   ·rw[if_pos h,aH (wQ h),dj,BU h,aw,aH (rj rfl)]
   ·rw[if_neg h,aK (show bd _ (aI (J l))=false from jz (by show l.length<=_;omega))]
  ·rfl
 ·cases h
theorem agq (x:List Int×Int) (y:Bool) (h:xF x=some y):Lh az x=some y:=by
 obtain⟨l,v⟩:=x
 simp only[xF] at h
 split at h
 ·rename_i hl
  rw[<-h]
  simp only[Lh]
  have hp:=EN l v
  rw[ef (fun i=>(v,l,aI (J l),(i:Int))) (r:=if bQ l v<l.length then Sum.inr true else Sum.inl ()) (bQ l v) ?_ ?_ ?_ (cX (by omega))]
  ·rw[<-Nb l v]
   unfold pT fM
   by_cases h:bQ l v<l.length
   ·rw[if_pos h,if_pos h,decide_eq_true (by omega)];rfl
   ·rw[if_neg h,if_neg h];rfl
  ·intro j hj
   simp only
   have iB:j<l.length:=by omega
   rw[aH (wQ iB),dj,getD_some 0 iB,aw,aK (rh (fun e=>BV hj (by rw[getD_some 0 iB,e])))]
   simp only[gT (show j<=1048577 by omega)]
  ·simp only
   by_cases h:bQ l v<l.length
   ·rw[if_pos h,aH (wQ h),dj,BU h,aw,aH (rj rfl)]
   ·rw[if_neg h,aK (show bd _ (aI (J l))=false from jz (by show l.length<=_;omega))]
  ·rfl
 ·cases h
theorem Km {n m:Nat} (h:n<=m):f7 0 (n:Int) m=some (0,n):=by
 unfold f7
 rw[if_pos ⟨by omega,by omega,by omega⟩]
 simp
theorem Kl (l:List Int) (n:Nat):fe l 0 n=l.take n:=rfl
theorem ag5 (x:List Int×List Int) (y:Bool) (h:z8 x=some y):LV az x=some y:=by
 obtain⟨L,D⟩:=x
 simp only[z8] at h
 split at h
 ·rename_i hl
  rw[<-h]
  simp only[LV,mY]
  by_cases h1:L.length<=12
  rotate_left
  ·rw[aH (df (by rw[nl];omega)),decide_eq_false h1];rfl
  rw[aK (cP (by rw[nl];omega)),decide_eq_true h1,Bool.true_and]
  by_cases h2:L.length=D.length
  rotate_left
  ·rw[aH (n9 (by rw[nl,nl];omega)),decide_eq_false h2];rfl
  rw[aK (np (by rw[nl,nl];omega)),decide_eq_true h2,Bool.true_and]
  obtain⟨n,hn,bB,v5⟩:=Ky (Ai L D) L.length
  rw[ef (fun i=>(L,D,L,aI (J L),(i:Int))) (r:=if n<L.length then Sum.inr false else Sum.inl ()) n ?_ ?_ ?_ (cX (by omega))]
  ·by_cases h:n<L.length
   ·rw[if_pos h,decide_eq_false (fun q=>(v5.resolve_left (by omega)) (q n h))];rfl
   ·rw[if_neg h,decide_eq_true (fun j hj=>bB j (by omega))];rfl
  ·intro j hj
   simp only
   obtain⟨a1,a2,a3⟩:=bB j hj
   have iB:j<L.length:=by omega
   rw[aH (wQ iB),dj,getD_some 0 iB,aw]
   simp only[gS,aw]
   rw[aK (wW a1),dj,getD_some 0 (show j<D.length by omega),aw]
   rw[aK (wW a2),Km (show j<=J L by show j<=L.length;omega),aw]
   simp only[Kl]
   rw[show tC (L.take j,L.getD j 0)=some (pT (L.take j) (L.getD j 0)) from if_pos (by rw[List.length_take];omega),aw,Nb,aK (decide_eq_false a3)]
   simp only[gT (show j<=1048577 by omega)]
  ·simp only
   by_cases h:n<L.length
   ·have bS:=v5.resolve_left (by omega)
    rw[if_pos h,aH (wQ h),dj,getD_some 0 h,aw]
    simp only[gS,aw]
    by_cases a1:0<=L.getD n 0/\L.getD n 0<=99
    rotate_left
    ·rw[aH (BM a1)]
    rw[aK (wW a1),dj,getD_some 0 (show n<D.length by omega),aw]
    by_cases a2:1<=D.getD n 0/\D.getD n 0<=8
    rotate_left
    ·rw[aH (BM a2)]
    rw[aK (wW a2),Km (show n<=J L by show n<=L.length;omega),aw]
    simp only[Kl]
    rw[show tC (L.take n,L.getD n 0)=some (pT (L.take n) (L.getD n 0)) from if_pos (by rw[List.length_take];omega),aw,Nb]
    by_cases a3:L.getD n 0∈L.take n
    ·rw[aH (decide_eq_true a3)]
    ·exact absurd ⟨a1,a2,a3⟩ bS
   ·rw[if_neg h,aK (show bd _ (aI (J L))=false from jz (by show L.length<=_;omega))]
  ·rfl
 ·cases h
theorem tN {L D:List Int} (h:mY L D=true):L.length<=12/\L.length=D.length/\∀j,j<L.length->Ai L D j:=by
 simp only[mY,Bool.and_eq_true,decide_eq_true_eq] at h
 exact h
theorem CU {L D:List Int} (h:mY L D=true):∀x∈D,1<=x/\x<=8:=by
 obtain⟨_,h2,h3⟩:=tN h
 intro x hx
 obtain⟨i,hi,e⟩:=List.mem_iff_getElem.1 hx
 have:=(h3 i (by omega)).2.1
 have e2:=getD_some 0 hi
 rw[List.getElem?_eq_getElem hi,e] at e2
 rw[<-Option.some.inj e2] at this
 exact this
theorem ag1 (x:List Int×List Int×List Int) (y:Int) (h:vw x=some y):LS az x=some y:=by
 obtain⟨L,D,T⟩:=x
 simp only[vw] at h
 split at h
 ·rename_i hl
  rw[<-h]
  simp only[LS,gR]
  rw[show z8 (L,D)=some (mY L D) from if_pos hl,aw]
  cases hx:mY L D with
  |false=>simp[ak,cC]
  |true=>
   have hd:=CU hx
   have h1:∀x∈D,1<=x:=fun x hx=>(hd x hx).1
   rw[aK (by rfl),show oA (D,4096)=some (sB 4096 D) from if_pos ⟨by omega,hl.2,List.all_eq_true.2 fun x hx=>decide_eq_true (by have:=hd x hx;omega)⟩,aw]
   unfold sB
   rw[CX (by omega) D 0 1 h1 (by omega) (by omega),Int.one_mul]
   by_cases hp:c7 D<=4096
   ·rw[aK (cP (by omega)),if_pos ⟨rfl,hp⟩,show min (c7 D) (4096+1)=c7 D by omega]
   ·rw[aH (df (by omega)),if_neg (fun q=>hp q.2)]
 ·cases h
theorem abM:∀(l:List Int) (x:Int),c7 (l++[x])=c7 l*x
 |[],x=>by simp[c7]
 |a::l,x=>by simp[c7,abM l x,Int.mul_assoc]
theorem abL:∀(l m:List Int),c7 (l++m)=c7 l*c7 m
 |[],m=>by simp[c7]
 |a::l,m=>by simp[c7,abL l m,Int.mul_assoc]
theorem aqq {D:List Int} {j:Nat} (h:j<D.length):D.take (j+1)=D.take j++[D.getD j 0]:=by
 rw[List.take_add_one,getD_some 0 h]
 rfl
theorem BX {D:List Int} {j:Nat} (h:j<D.length):c7 (D.take (j+1))=c7 (D.take j)*D.getD j 0:=by rw[aqq h,abM]
theorem aoH {D:List Int} (h:∀x∈D,1<=x) (j:Nat):c7 (D.take j)<=c7 D:=by
 have e:c7 D=c7 (D.take j)*c7 (D.drop j):=by rw[<-abL,List.take_append_drop]
 have h1:=EO (l:=D.take j) fun x hx=>h x (List.mem_of_mem_take hx)
 have h2:=EO (l:=D.drop j) fun x hx=>h x (List.mem_of_mem_drop hx)
 have:=Int.mul_le_mul_of_nonneg_left h2 (show 0<=c7 (D.take j) by omega)
 rw[e]
 omega
def Mh (L D:List Int) (j:Nat):Prop:=Ai L D j/\c7 (D.take (j+1))<=4096
instance (L D:List Int) (j:Nat):Decidable (Mh L D j):=by unfold Mh;infer_instance
theorem agk (x:List Int×List Int×List Int) (y:Int) (h:zG x=some y):Lc az x=some y:=by
 obtain⟨L,D,T⟩:=x
 simp only[zG,vw] at h
 split at h
 ·rename_i hl
  rw[<-h]
  simp only[Lc,gR]
  by_cases h1:L.length<=12
  rotate_left
  ·rw[aH (df (by rw[nl];omega)),if_neg (fun q=>h1 (tN q.1).1)]
  rw[aK (cP (by rw[nl];omega))]
  by_cases h2:L.length=D.length
  rotate_left
  ·rw[aH (n9 (by rw[nl,nl];omega)),if_neg (fun q=>h2 (tN q.1).2.1)]
  rw[aK (np (by rw[nl,nl];omega))]
  obtain⟨n,hn,bB,v5⟩:=Ky (Mh L D) L.length
  have Pq:∀j,j<=n->1<=c7 (D.take j)/\c7 (D.take j)<=4096:=by
   intro j hj
   constructor
   ·apply EO
    intro x hx
    obtain⟨i,hi,e⟩:=List.mem_iff_getElem.1 hx
    rw[List.length_take] at hi
    have hp:=(bB i (by omega)).1.2.1
    have e2:=getD_some 0 (show i<D.length by omega)
    rw[List.getElem_take] at e
    rw[List.getElem?_eq_getElem (by omega),e] at e2
    rw[<-Option.some.inj e2] at hp
    exact hp.1
   ·cases j with
    |zero=>simp[c7]
    |succ j=>exact(bB j (by omega)).2
  rw[ef (fun i=>((c7 (D.take i),L,aI (J L),(i:Int)),L,D,T)) (r:=if n<L.length then Sum.inr (-1) else Sum.inl (c7 D)) n ?_ ?_ ?_ (cX (by omega))]
  ·by_cases h:n<L.length
   ·rw[if_pos h,if_neg]
    ·rfl
    ·intro q
     refine v5.resolve_left (by omega) ⟨(tN q.1).2.2 n h,?_⟩
     have:=aoH (fun x hx=>(CU q.1 x hx).1) (n+1)
     have:=q.2
     omega
   ·have e:n=L.length:=by omega
    have hp:=(Pq n (Nat.le_refl n)).2
    rw[e,h2,List.take_length] at hp
    rw[if_neg h,if_pos]
    ·rfl
    ·refine⟨?_,hp⟩
     simp only[mY,Bool.and_eq_true,decide_eq_true_eq]
     exact⟨h1,h2,fun j hj=>(bB j (by omega)).1⟩
  ·intro j hj
   simp only
   obtain⟨⟨a1,a2,a3⟩,a4⟩:=bB j hj
   have iB:j<L.length:=by omega
   rw[aH (wQ iB),dj,getD_some 0 iB,aw,aK (cP (by omega)),aK (cP (by omega)),Km (show j<=J L by show j<=L.length;omega),aw]
   simp only[Kl]
   rw[show xF (L.take j,L.getD j 0)=some (decide (L.getD j 0∈L.take j)) from if_pos (by rw[List.length_take];omega),aw,aK (decide_eq_false a3),dj,getD_some 0 (show j<D.length by omega),aw,aK (cP (by omega)),aK (cP (by omega))]
   have hb:=Pq j (by omega)
   obtain⟨b1,b2⟩:=EA (a:=c7 (D.take j)) (x:=D.getD j 0) (A:=4096) (B:=8) (by omega) hb.2 (by omega) a2.2
   rw[BX (by omega)] at a4
   rw[kq (by omega) (by omega),aK (cP a4),<-BX (by omega)]
   simp only[gT (show j<=1048577 by omega)]
  ·simp only
   by_cases h:n<L.length
   ·have bS:=v5.resolve_left (by omega)
    rw[if_pos h,aH (wQ h),dj,getD_some 0 h,aw]
    by_cases c1:L.getD n 0<0
    ·rw[aH (df c1)]
    rw[aK (cP (by omega))]
    by_cases c2:99<L.getD n 0
    ·rw[aH (df c2)]
    rw[aK (cP (by omega)),Km (show n<=J L by show n<=L.length;omega),aw]
    simp only[Kl]
    rw[show xF (L.take n,L.getD n 0)=some (decide (L.getD n 0∈L.take n)) from if_pos (by rw[List.length_take];omega),aw]
    by_cases a3:L.getD n 0∈L.take n
    ·rw[aH (decide_eq_true a3)]
    rw[aK (decide_eq_false a3),dj,getD_some 0 (show n<D.length by omega),aw]
    by_cases c3:D.getD n 0<1
    ·rw[aH (df c3)]
    rw[aK (cP (by omega))]
    by_cases c4:8<D.getD n 0
    ·rw[aH (df c4)]
    rw[aK (cP (by omega))]
    have hb:=Pq n (Nat.le_refl n)
    obtain⟨b1,b2⟩:=EA (a:=c7 (D.take n)) (x:=D.getD n 0) (A:=4096) (B:=8) (by omega) hb.2 (by omega) (by omega)
    rw[kq (by omega) (by omega)]
    by_cases c5:4096<c7 (D.take n)*D.getD n 0
    ·rw[aH (df c5)]
    ·exact absurd ⟨⟨⟨by omega,by omega⟩,⟨by omega,by omega⟩,a3⟩,by rw[BX (by omega)];omega⟩ bS
   ·have e:n=L.length:=by omega
    rw[if_neg h,aK (show bd _ (aI (J L))=false from jz (by show L.length<=_;omega)),e,h2,List.take_length]
  ·rfl
 ·cases h
end Go.Am
end
section
namespace Go.Am
def rW (m:Int) (s:Int×Int×Int×List Int):Bool:=decide (0<=s.1/\s.1<=32)&&(decide (0<=s.2.2.1/\s.2.2.1<=32)&&(decide (1<=s.2.1/\s.2.1<=8)&&(decide ((s.2.2.2.length:Int)=s.1*s.2.1*s.2.2.1)&&nv m s.2.2.2)))
def j5 (m:Int) (_:Nat) (b:Int) (s:Int×Int×Int×List Int):Option Int:=if rW m s=true/\s.1=b then some s.2.2.1 else none
def iU (l:List (Int×Int×Int×List Int)):List Int:=l.map fun s=>s.2.1
def tR (x:Int×List (Int×Int×Int×List Int)):Bool:=match x with
 |(m,l)=>eE m&&(decide (1<=l.length/\l.length<=8)&&(match dZ (j5 m) 0 1 l with
  |some b=>decide (b=1)&&decide (c7 (iU l)<=4096)
  |none=>false))
def Ac:Int×List (Int×Int×Int×List Int)->Option (List Int):=fun((m,l):Int×List (Int×Int×Int×List Int))=>if l.length<=1048576 then some (iU l) else none
def z6:Int×List (Int×Int×Int×List Int)->Option Bool:=fun x=>if iN x<=1048576 then some (tR x) else none
def HA:ai:=[(.agg,[.int .i64,.list [.int .i64,.int .i64,.int .i64,.list [.int .i64]]])]
def TZ:ai:=[(.one,[.list [.int .i64]])]
def alQ:aN:=[]
def G8:ai:=[(.agg,[.int .i64,.list [.int .i64,.int .i64,.int .i64,.list [.int .i64]]])]
def Tz:ai:=[(.one,[.bool])]
def alt:aN:=[]
def L8 (NN:Nat):(Int×(List (Int×(Int×(Int×(List Int))))))->(Option (List Int)):=
 (fun((i0,l1):(Int×(List (Int×(Int×(Int×(List Int)))))))=>
 bD ((ae 0 0 (J (([]:List Int)))).U (fun _=>
 bu NN (fun(((l2,i3,i4),l5):(((List (Int×(Int×(Int×(List Int)))))×(Int×Int))×(List Int)))=>
 ak (bd i4 i3)
 ((dd l2 i4).U (fun(i6,i7,i8,l9)=>
 (ae 0 (J l5) (J l5)).U (fun _=>
 (cd ((i7::([]:List Int))) 0 1).U (fun eW=>
 (jL (aC (J l5) (J eW)) 8).U (fun _=>
 (ae 0 (aC (J l5) (J eW)) (J (dP l5 eW))).U (fun _=>
 some (Sum.inl ((l2,i3,aU .i64 i4 1),dP l5 eW))))))))
 (((ae 0 (J l5) (J l5)).U (fun _=>
 some (Sum.inl l5))).U (fun dz=>
 some (Sum.inr dz))))
 ((l1,aI (J l1),(0:Int)),([]:List Int))))
 (fun dk=>
 (c9 dk (J dk)).U (fun iF=>
 some iF)))
def LN (NN:Nat):(Int×(List (Int×(Int×(Int×(List Int))))))->(Option Bool):=
 (fun((i0,l1):(Int×(List (Int×(Int×(Int×(List Int)))))))=>
 (sf i0).U (fun b2=>
 ak (cC b2)
 (some false)
 ((gS (aI (J l1),(1:Int),(8:Int))).U (fun b3=>
 ak (cC b3)
 (some false)
 (bD (bu NN (fun(((i4,l5,i6,i7),i8,l9):((Int×((List (Int×(Int×(Int×(List Int)))))×(Int×Int)))×(Int×(List (Int×(Int×(Int×(List Int))))))))=>
 ak (bd i7 i6)
 (bD ((dd l5 i7).U (fun(cr,cT,cZ,iF)=>
 ak (dt cr i4)
 (some (Sum.inr (Sum.inr (Sum.inr false))))
 ((gS (cT,(1:Int),(8:Int))).U (fun b14=>
 ak (cC b14)
 (some (Sum.inr (Sum.inr (Sum.inr false))))
 ((gS (cZ,(0:Int),(32:Int))).U (fun b15=>
 ak (cC b15)
 (some (Sum.inr (Sum.inr (Sum.inr false))))
 (ak (dt (aI (J iF)) (cu .i64 (cu .i64 cr cT) cZ))
 (some (Sum.inr (Sum.inr (Sum.inr false))))
 (bD (bu NN (fun(((dS,gn,gp,d7,g8,jR),(g9,mK),gu,qh,yI,gL):(((List (Int×(Int×(Int×(List Int)))))×(Int×(Int×((List Int)×(Int×Int)))))×((Int×(List (Int×(Int×(Int×(List Int))))))×(Int×(Int×(Int×(List Int)))))))=>
 ak (bd jR g8)
 ((dd d7 jR).U (fun wC=>
 (gS (wC,(0:Int),dV .i64 g9 1)).U (fun b29=>
 ak (cC b29)
 (some (Sum.inr (Sum.inr (Sum.inr (Sum.inr (Sum.inr false))))))
 (some (Sum.inl ((dS,gn,gp,d7,g8,aU .i64 jR 1),(g9,mK),gu,qh,yI,gL))))))
 (some (Sum.inr (Sum.inl ((gp,dS,gn),(g9,mK),gu,qh,yI,gL)))))
 ((l5,i6,i7,iF,aI (J iF),(0:Int)),(i8,l9),cr,cT,cZ,iF))
 (fun((mG,n3,gv),(gK,kl),mH,uJ,kI,hJ)=>
 some (Sum.inl ((mG,kI,n3,gv),gK,kl)))))))))))
 (fun((uK,qk,kL,mJ),nf,km)=>
 some (Sum.inl ((qk,kL,mJ,aU .i64 uK 1),nf,km))))
 (some (Sum.inr (Sum.inl (i4,i8,l9)))))
 (((1:Int),l1,aI (J l1),(0:Int)),i0,l1))
 (fun(s0,nV,gM)=>
 ak (bL s0 (1:Int))
 ((Ac (nV,gM)).U (fun kM=>
 (cd kM 0 (J kM)).U (fun gN=>
 (oA (gN,(4096:Int))).U (fun ql=>
 some (fM ql (4096:Int))))))
 (some false)))))))
theorem ahk (x:Int×List (Int×Int×Int×List Int)) (y:List Int) (h:Ac x=some y):L8 az x=some y:=by
 obtain⟨m,l⟩:=x
 simp only[Ac] at h
 split at h
 ·rename_i hl
  rw[<-h]
  simp only[L8]
  rw[show ae 0 0 (J ([]:List Int))=some () from rfl,aw]
  rw[ef (fun i=>((l,aI (J l),(i:Int)),iU (l.take i))) (r:=Sum.inl (iU l)) l.length ?_ ?_ ?_ (cX (by omega))]
  ·rw[eU,gO];rfl
  all_goals try simp only
  ·intro j hj
   obtain⟨⟨a,p,c,d⟩,hs⟩:∃e,l[j]? =some e:=⟨_,List.getElem?_eq_getElem hj⟩
   have e1:J (iU (l.take j))=j:=by simp[J,iU];omega
   have e2:dP (iU (l.take j)) [p]=iU (l.take (j+1)):=by simp[dP,iU,List.take_add_one,hs]
   have e3:jL (aC j 1) 8=some ():=nO (by simp only[aC,dA];omega)
   rw[aH (mP hs),dj,hs,aw]
   simp only[e1,bW,aw,aqI,Ql,show J [p]=1 from rfl,e3,pj hs (by omega),e2]
  ·rw[aK (rO l),List.take_length]
   simp only[bW,aw]
  ·rfl
 ·cases h
theorem Cf {m a p c:Int} {l:List Int} (h:rW m (a,p,c,l)=true):(0<=a/\a<=32)/\(0<=c/\c<=32)/\(1<=p/\p<=8)/\(l.length:Int)=a*p*c/\nv m l=true:=by
 simp only[rW,Bool.and_eq_true,decide_eq_true_eq] at h
 exact⟨h.1,h.2.1,h.2.2.1,h.2.2.2.1,h.2.2.2.2⟩
theorem Xv {m:Int}:∀{l:List (Int×Int×Int×List Int)} {i:Nat} {b c:Int},dZ (j5 m) i b l=some c->∀x∈iU l,1<=x/\x<=8
 |[],_,_,_,_,x,hx=>by cases hx
 |(a,p,r,d)::l,i,b,c,h,x,hx=>by
  rw[dZ] at h
  cases hs:j5 m i b (a,p,r,d) with
  |none=>rw[hs] at h;cases h
  |some b'=>
   rw[hs] at h
   simp only[j5] at hs
   split at hs
   ·rename_i hc
    have hp:=(Cf hc.1).2.2.1
    rcases List.mem_cons.1 hx with rfl|hx
    ·exact hp
    ·exact Xv h x hx
   ·cases hs
theorem aqe {m:Int} {l:List (Int×Int×Int×List Int)} (h:iN (m,l)<=1048576):l.length<=1048576/\∀e∈l,j0 e<=1048576:=adF h
theorem Qt {X Y α S:Type} {f:X->Option (X⊕Y)} (es:List α) (mk:S->Nat->X) (I:Nat->S->Prop) (step:Nat->S->α->Option S) (qZ:Y) (dH:S->Y)
  (h1:∀i s a,es[i]? =some a->I i s->f (mk s i)=some (match step i s a with|some s'=>.inl (mk s' (i+1))|none=>.inr qZ))
  (hI:∀i s a s',es[i]? =some a->I i s->step i s a=some s'->I (i+1) s')
  (h3:∀s,I es.length s->f (mk s es.length)=some (.inr (dH s))) {s:S} (h0:I 0 s) {x0:X} (hx:x0=mk s 0) {N:Nat} (hN:es.length<N):
  bu N f x0=some (match dZ step 0 s es with|some s'=>dH s'|none=>qZ):=
 aaX es mk I step qZ dH (fun i s a s' ha hi hs=>⟨by rw[h1 i s a ha hi,hs],hI i s a s' ha hi hs⟩) (fun i s a ha hi hs=>by rw[h1 i s a ha hi,hs]) h3 h0 hx hN
theorem aeQ {m b a p c:Int} {l:List Int} {i:Nat} (h:rW m (a,p,c,l)=true) (e:a=b):j5 m i b (a,p,c,l)=some c:=if_pos ⟨h,e⟩
theorem CZ {m b a p c:Int} {l:List Int} {i:Nat} (h:¬(rW m (a,p,c,l)=true/\a=b)):j5 m i b (a,p,c,l)=none:=if_neg h
theorem agW (x:Int×List (Int×Int×Int×List Int)) (y:Bool) (h:z6 x=some y):LN az x=some y:=by
 obtain⟨m,l⟩:=x
 simp only[z6] at h
 split at h
 ·rename_i hl
  rw[<-h]
  obtain⟨hlen,dg⟩:=aqe hl
  simp only[LN,sf,gS,aw,tR]
  cases hp:eE m with
  |false=>rfl
  |true=>
   have hm:=jT hp
   rw[aK (by rfl),Bool.true_and]
   by_cases h2:1<=l.length/\l.length<=8
   rotate_left
   ·rw[aH (BM (by have:=nl l;omega)),decide_eq_false h2];rfl
   rw[aK (wW (by have:=nl l;omega)),decide_eq_true h2,Bool.true_and]
   rw[Qt l (fun(b:Int) i=>((b,l,aI (J l),(i:Int)),m,l)) (fun i b=>0<=b/\b<=32) (j5 m) (Sum.inr false) (fun b=>Sum.inl (b,m,l)) ?_ ?_ ?_ (s:=1) ⟨by decide,by decide⟩ ?_ (cX (by omega))]
   ·cases hf:dZ (j5 m) 0 1 l with
    |none=>rfl
    |some c=>
     have hd:=Xv hf
     rw[eU]
     simp only
     by_cases hc:c=1
     ·rw[aH (rj hc),decide_eq_true hc,Bool.true_and]
      rw[show Ac (m,l)=some (iU l) from if_pos hlen,aw,ky,aw]
      have hsm:(iU l).all acX=true:=List.all_eq_true.2 fun x hx=>decide_eq_true ⟨by have:=hd x hx;omega,by have:=hd x hx;omega⟩
      rw[show oA (iU l,4096)=some (sB 4096 (iU l)) from if_pos ⟨by decide,by simp[iU];omega,hsm⟩,aw,aeJ (by decide) fun x hx=>(hd x hx).1]
     ·rw[aK (rh hc),decide_eq_false hc];rfl
   all_goals try simp only
   ·rintro i b ⟨a,p,c,d⟩ hi hb
    have IP:d.length<=1048576:=dg _ (List.mem_of_getElem? hi)
    rw[aH (mP hi),dj,hi,aw]
    simp only
    by_cases q1:a=b
    rotate_left
    ·rw[aH (n9 q1),CZ (fun h=>q1 h.2)];rfl
    rw[aK (np q1)]
    by_cases q2:1<=p/\p<=8
    rotate_left
    ·rw[aH (BM q2),CZ (fun h=>q2 (Cf h.1).2.2.1)];rfl
    rw[aK (wW q2)]
    by_cases q3:0<=c/\c<=32
    rotate_left
    ·rw[aH (BM q3),CZ (fun h=>q3 (Cf h.1).2.1)];rfl
    rw[aK (wW q3)]
    obtain⟨b1,b2⟩:=EA (a:=a) (x:=p) (A:=32) (B:=8) (by omega) (by omega) (by omega) (by omega)
    obtain⟨b3,b4⟩:=EA (a:=a*p) (x:=c) (A:=32*8) (B:=32) (by omega) (by omega) (by omega) (by omega)
    rw[kq (a:=a) (by omega) (by omega),kq (by omega) (by omega)]
    by_cases q4:(d.length:Int)=a*p*c
    rotate_left
    ·rw[aH (show dt (aI (J d)) _=true from n9 q4),CZ (fun h=>q4 (Cf h.1).2.2.2.1)];rfl
    rw[aK (show dt (aI (J d)) _=false from np q4)]
    rw[Ev (mk:=fun(j:Nat)=>((l,aI (J l),(i:Int),d,aI (J d),(j:Int)),(m,l),a,p,c,d)) d (Ed m) (Sum.inr (Sum.inr (Sum.inr (Sum.inr false)))) (Sum.inl (((i:Int),l,aI (J l)),(m,l),a,p,c,d)) ?_ ?_ ?_ ?_ (cX (by omega))]
    ·cases hr:d.all (Ed m) with
     |false=>rw[CZ (fun h=>by have:=(Cf h.1).2.2.2.2;rw[nv,hr] at this;cases this)];rfl
     |true=>
      rw[aeQ (by simp only[rW,nv,hr,Bool.and_true,Bool.and_eq_true,decide_eq_true_eq];exact⟨by omega,q3,q2,q4⟩) q1]
      simp only[if_true,eU]
      rw[pj hi (by omega)]
    all_goals try simp only
    ·intro j x hx hp
     have hp:=of_decide_eq_true hp
     rw[aH (mP hx),dj,hx,aw,kV (by omega) (by omega),aK (wW (by omega)),pj hx (by omega)]
    ·intro j x hx hp
     have hp:=of_decide_eq_false hp
     rw[aH (mP hx),dj,hx,aw,kV (by omega) (by omega),aH (BM (by omega))]
    ·rw[aK (rO d)]
    ·rfl
   ·rintro i b ⟨a,p,c,d⟩ s' hi hb hs
    simp only[j5] at hs
    split at hs
    ·rename_i hc
     injection hs with hs
     subst hs
     exact(Cf hc.1).2.1
    ·cases hs
   ·intro b _
    rw[aK (rO l)]
   ·rfl
 ·cases h
end Go.Am
end
section
namespace Go.Am
def BJ (x:Int×Int):Prop:=(0<=x.1/\x.1<=4096)/\(0<=x.2/\x.2<=4096)/\x.1*x.2<=1048576
instance (x:Int×Int):Decidable (BJ x):=by unfold BJ;infer_instance
def xK:Int×Int->Option (Int×Int×List Int):=fun(x:Int×Int)=>if BJ x then some (x.1,x.2,aB x.1.toNat x.2.toNat fun _ _=>0) else none
def CF:Int×Int->Option (Int×Int×List Int):=fun(x:Int×Int)=>if BJ x then some (x.1,x.2,aB x.1.toNat x.2.toNat fun _ _=>0) else none
def lY:(Int×Int×List Int)×Int×Int->Option Int:=fun(x:(Int×Int×List Int)×Int×Int)=>
 if nk x.1/\(0<=x.2.1/\x.2.1<x.1.1)/\(0<=x.2.2/\x.2.2<x.1.2.1) then some (fY x.1.2.1.toNat x.1.2.2 x.2.1.toNat x.2.2.toNat) else none
def qW:(Int×Int×List Int)×Int×Int×Int->Option (List Int):=fun(x:(Int×Int×List Int)×Int×Int×Int)=>
 if nk x.1/\(0<=x.2.1/\x.2.1<x.1.1)/\(0<=x.2.2.1/\x.2.2.1<x.1.2.1) then some (aB x.1.1.toNat x.1.2.1.toNat (lW (fY x.1.2.1.toNat x.1.2.2) x.2.1.toNat x.2.2.1.toNat x.2.2.2)) else none
def ff (M:Nat->Nat->Int) (a b:Nat):Nat->Nat->Int:=fun i j=>if i=a then M b j else if i=b then M a j else M i j
def sk:(Int×Int×List Int)×Int×Int->Option (List Int):=fun(x:(Int×Int×List Int)×Int×Int)=>
 if nk x.1/\(0<=x.2.1/\x.2.1<x.1.1)/\(0<=x.2.2/\x.2.2<x.1.1) then some (aB x.1.1.toNat x.1.2.1.toNat (ff (fY x.1.2.1.toNat x.1.2.2) x.2.1.toNat x.2.2.toNat)) else none
def zD:(Int×Int×List Int)×Int×Int->Option (List Int):=sk
def oH (p:Int) (M:Nat->Nat->Int) (i k:Nat) (f:Int):Nat->Nat->Int:=fun a j=>if a=i then(M i j+f*M k j)%p else M a j
def xE:(Int×Int×List Int)×Int×Int×Int×Int->Option (List Int):=fun(x:(Int×Int×List Int)×Int×Int×Int×Int)=>
 if nk x.1/\eo x.2.1/\(0<=x.2.2.1/\x.2.2.1<x.1.1)/\(0<=x.2.2.2.1/\x.2.2.2.1<x.1.1)/\(0<=x.2.2.2.2/\x.2.2.2.2<=x.2.1)/\iw x.2.1 x.1.2.2 then
  some (aB x.1.1.toNat x.1.2.1.toNat (oH x.2.1 (fY x.1.2.1.toNat x.1.2.2) x.2.2.1.toNat x.2.2.2.1.toNat x.2.2.2.2)) else none
def xJ:Int×(Int×Int×List Int)×Int×Int×Int->Option (List Int):=fun(x:Int×(Int×Int×List Int)×Int×Int×Int)=>
 if nk x.2.1/\eo x.1/\(0<=x.2.2.1/\x.2.2.1<x.2.1.1)/\(0<=x.2.2.2.1/\x.2.2.2.1<x.2.1.1)/\(0<=x.2.2.2.2/\x.2.2.2.2<=x.1)/\iw x.1 x.2.1.2.2 then
  some (aB x.2.1.1.toNat x.2.1.2.1.toNat (oH x.1 (fY x.2.1.2.1.toNat x.2.1.2.2) x.2.2.1.toNat x.2.2.2.1.toNat (x.1 - x.2.2.2.2))) else none
def iM (M:Nat->Nat->Int) (j:Nat):Nat->Nat->Option Nat
 |0,_=>none
 |d+1,k=>if M k j=0 then iM M j d (k+1) else some k
def uZ (o:Option Nat):Int:=match o with|some k=>(k:Int)|none=> -1
def xL:(Int×Int×List Int)×Int×Int->Option Int:=fun(x:(Int×Int×List Int)×Int×Int)=>
 if nk x.1/\(0<=x.2.1/\x.2.1<=x.1.1)/\(0<=x.2.2/\x.2.2<x.1.2.1) then some (uZ (iM (fY x.1.2.1.toNat x.1.2.2) x.2.2.toNat (x.1.1 - x.2.1).toNat x.2.1.toNat)) else none
def io (p out x:Int) (n:Nat):Int:=if h:n=0 then out else io p (if n%2=1 then out*x%p else out) (x*x%p) (n/2)
termination_by n
decreasing_by omega
def vA:Int×Int->Option Int:=fun(x:Int×Int)=>if eo x.1/\gw x.1 x.2 then some (io x.1 1 x.2 (x.1 - 2).toNat) else none
def zN:Int×Int->Option Int:=vA
def nG:List Int->Option (List Int):=fun(l:List Int)=>if l.length<=1099511627776 then some l else none
def nF:List Int->Option (List Int):=fun(l:List Int)=>if l.length<=1099511627776 then some l else none
def zI:Int×Int×List Int->Option (Int×Int×List Int):=fun(x:Int×Int×List Int)=>if x.2.2.length<=1099511627776 then some x else none
def abc (x:Int×(Int×Int×List Int)×(Int×Int×List Int)):Prop:=eo x.1/\nk x.2.1/\nk x.2.2/\x.2.1.2.1=x.2.2.1/\x.2.1.1*x.2.2.2.1<=1048576/\iw x.1 x.2.1.2.2/\iw x.1 x.2.2.2.2
instance (x:Int×(Int×Int×List Int)×(Int×Int×List Int)):Decidable (abc x):=by unfold abc;infer_instance
def Hw:ai:=[(.one,[.int .i64]),(.one,[.int .i64])]
def TV:ai:=[(.agg,[.int .i64,.int .i64,.list [.int .i64]])]
def alN:aN:=[]
def Gu:ai:=[(.one,[.int .i64]),(.one,[.int .i64])]
def SZ:ai:=[(.agg,[.int .i64,.int .i64,.list [.int .i64]])]
def ak0:aN:=[]
def Ho:ai:=[(.one,[.list [.int .i64]])]
def TN:ai:=[(.one,[.list [.int .i64]])]
def alG:aN:=[]
def Gr:ai:=[(.one,[.list [.int .i64]])]
def SW:ai:=[(.one,[.list [.int .i64]])]
def akX:aN:=[]
def Gs:ai:=[(.agg,[.int .i64,.int .i64,.list [.int .i64]])]
def SX:ai:=[(.agg,[.int .i64,.int .i64,.list [.int .i64]])]
def akY:aN:=[]
def Gi:ai:=[(.agg,[.int .i64,.int .i64,.list [.int .i64]]),(.one,[.int .i64]),(.one,[.int .i64])]
def SM:ai:=[(.one,[.int .i64])]
def akR:aN:=[]
def Gj:ai:=[(.agg,[.int .i64,.int .i64,.list [.int .i64]]),(.one,[.int .i64]),(.one,[.int .i64]),(.one,[.int .i64])]
def SN:ai:=[(.one,[.list [.int .i64]])]
def Jy:aN:=[[none,none,some .ab]]
def Hz:ai:=[(.agg,[.int .i64,.int .i64,.list [.int .i64]]),(.one,[.int .i64]),(.one,[.int .i64])]
def TY:ai:=[(.one,[.list [.int .i64]])]
def JJ:aN:=[[none,none,some .ab]]
def Gk:ai:=[(.agg,[.int .i64,.int .i64,.list [.int .i64]]),(.one,[.int .i64]),(.one,[.int .i64])]
def SO:ai:=[(.one,[.list [.int .i64]])]
def Jz:aN:=[[none,none,some .ab]]
def Gg:ai:=[(.agg,[.int .i64,.int .i64,.list [.int .i64]]),(.one,[.int .i64]),(.one,[.int .i64]),(.one,[.int .i64]),(.one,[.int .i64])]
def SL:ai:=[(.one,[.list [.int .i64]])]
def Jx:aN:=[[none,none,some .ab]]
def Ht:ai:=[(.one,[.int .i64]),(.agg,[.int .i64,.int .i64,.list [.int .i64]]),(.one,[.int .i64]),(.one,[.int .i64]),(.one,[.int .i64])]
def TS:ai:=[(.one,[.list [.int .i64]])]
def JI:aN:=[[],[none,none,some .ab]]
def Hx:ai:=[(.agg,[.int .i64,.int .i64,.list [.int .i64]]),(.one,[.int .i64]),(.one,[.int .i64])]
def TW:ai:=[(.one,[.int .i64])]
def alO:aN:=[]
def Hv:ai:=[(.one,[.int .i64]),(.one,[.int .i64])]
def TU:ai:=[(.one,[.int .i64])]
def alM:aN:=[]
def GC:ai:=[(.one,[.int .i64]),(.one,[.int .i64])]
def S6:ai:=[(.one,[.int .i64])]
def ak6:aN:=[]
def FZ (NN:Nat):(Int×Int)->(Option (Int×(Int×(List Int)))):=
 (fun((i0,i1):(Int×Int))=>
 (qB (cu .i64 i0 i1) (cu .i64 i0 i1) 8).U (fun k2=>
 (c9 (dN k2 (0:Int)) k2).U (fun l3=>
 some (i0,i1,l3))))
def WL (NN:Nat):(Int×Int)->(Option (Int×(Int×(List Int)))):=
 (fun((i0,i1):(Int×Int))=>
 (qB (cu .i64 i0 i1) (cu .i64 i0 i1) 8).U (fun k2=>
 (c9 (dN k2 (0:Int)) k2).U (fun l3=>
 some (i0,i1,l3))))
def LZ (NN:Nat):(List Int)->(Option (List Int)):=
 (fun(l0:(List Int))=>
 (ae 0 0 (J (([]:List Int)))).U (fun _=>
 (jL (aC (J (([]:List Int))) (J l0)) 8).U (fun _=>
 (c9 (dP (([]:List Int)) l0) (aC (J (([]:List Int))) (J l0))).U (fun l1=>
 some l1))))
def Le (NN:Nat):(List Int)->(Option (List Int)):=
 (fun(l0:(List Int))=>
 (jL (aC (J (([]:List Int))) (J l0)) 8).U (fun _=>
 (c9 (dP (([]:List Int)) l0) (aC (J (([]:List Int))) (J l0))).U (fun l1=>
 some l1)))
def Lf (NN:Nat):(Int×(Int×(List Int)))->(Option (Int×(Int×(List Int)))):=
 (fun((i0,i1,l2):(Int×(Int×(List Int))))=>
 (nF l2).U (fun l3=>
 (c9 l3 (J l3)).U (fun l4=>
 some (i0,i1,l4))))
def FT (NN:Nat):((Int×(Int×(List Int)))×(Int×Int))->(Option Int):=
 (fun(((i0,i1,l2),i3,i4):((Int×(Int×(List Int)))×(Int×Int)))=>
 (dd l2 (aU .i64 (cu .i64 i3 i1) i4)).U (fun i5=>
 some i5))
def FU (NN:Nat):((Int×(Int×(List Int)))×(Int×(Int×Int)))->(Option (List Int)):=
 (fun(((i0,i1,l2),i3,i4,i5):((Int×(Int×(List Int)))×(Int×(Int×Int))))=>
 (da (aU .i64 (cu .i64 i3 i1) i4) (J l2)).U (fun k6=>
 (bY l2 (aC 0 k6)).U (fun i7=>
 (jF (J (bg l2 (aC 0 k6) i5)) (J l2)).U (fun _=>
 some (bg l2 (aC 0 k6) i5)))))
def F4 (NN:Nat):((Int×(Int×(List Int)))×(Int×Int))->(Option (List Int)):=
 (fun(((i0,i1,l2),i3,i4):((Int×(Int×(List Int)))×(Int×Int)))=>
 (ae 0 (J l2) (J l2)).U (fun _=>
 bu NN (fun(((i5,i6,i7),l8,i9,cr):((Int×(Int×Int))×((List Int)×(Int×Int))))=>
 ak (bd i7 cr)
 ((da (aU .i64 (cu .i64 i5 cr) i7) (J l8)).U (fun td=>
 (bY l8 (aC 0 td)).U (fun cZ=>
 (da (aU .i64 (cu .i64 i6 cr) i7) (J l8)).U (fun P5=>
 (bY l8 (aC 0 P5)).U (fun ca=>
 (da (aU .i64 (cu .i64 i5 cr) i7) (J l8)).U (fun kj=>
 (bY l8 (aC 0 kj)).U (fun eO=>
 (da (aU .i64 (cu .i64 i6 cr) i7) (J l8)).U (fun qu=>
 (bY (bg l8 (aC 0 kj) ca) (aC 0 qu)).U (fun gp=>
 (ae 0 (J l8) (J (bg (bg l8 (aC 0 kj) ca) (aC 0 qu) cZ))).U (fun _=>
 some (Sum.inl ((i5,i6,aU .i64 i7 1),bg (bg l8 (aC 0 kj) ca) (aC 0 qu) cZ,i9,cr))))))))))))
 (((jF (J l8) (J l2)).U (fun _=>
 some l8)).U (fun d7=>
 some (Sum.inr d7))))
 ((i3,i4,(0:Int)),l2,i0,i1)))
def FV (NN:Nat):((Int×(Int×(List Int)))×(Int×Int))->(Option (List Int)):=
 (fun(((i0,i1,l2),i3,i4):((Int×(Int×(List Int)))×(Int×Int)))=>
 (ae 0 (J l2) (J l2)).U (fun _=>
 bu NN (fun(((i5,i6,i7),l8,i9,cr):((Int×(Int×Int))×((List Int)×(Int×Int))))=>
 ak (bd i7 cr)
 ((cd l8 0 (J l8)).U (fun dz=>
 (lY ((i9,cr,dz),i5,i7)).U (fun cZ=>
 (cd l8 0 (J l8)).U (fun iF=>
 (lY ((i9,cr,iF),i6,i7)).U (fun ca=>
 (ae 0 (J l8) (J l8)).U (fun _=>
 (qW ((i9,cr,l8),i5,i7,ca)).U (fun de=>
 (ae 0 (J l8) (J de)).U (fun _=>
 (qW ((i9,cr,de),i6,i7,cZ)).U (fun dS=>
 (ae 0 (J l8) (J dS)).U (fun _=>
 some (Sum.inl ((i5,i6,aU .i64 i7 1),dS,i9,cr))))))))))))
 (((jF (J l8) (J l2)).U (fun _=>
 some l8)).U (fun c8=>
 some (Sum.inr c8))))
 ((i3,i4,(0:Int)),l2,i0,i1)))
def FR (NN:Nat):((Int×(Int×(List Int)))×(Int×(Int×(Int×Int))))->(Option (List Int)):=
 (fun(((i0,i1,l2),i3,i4,i5,i6):((Int×(Int×(List Int)))×(Int×(Int×(Int×Int)))))=>
 (ae 0 (J l2) (J l2)).U (fun _=>
 bu NN (fun(((i7,i8,i9,cr,cT),dk,cU,ca):((Int×(Int×(Int×(Int×Int))))×((List Int)×(Int×Int))))=>
 ak (bd cT ca)
 ((cd dk 0 (J dk)).U (fun de=>
 (lY ((cU,ca,de),i8,cT)).U (fun eO=>
 (cd dk 0 (J dk)).U (fun c8=>
 (lY ((cU,ca,c8),i9,cT)).U (fun gp=>
 (hZ (aU .i64 eO (cu .i64 cr gp)) i7).U (fun gJ=>
 (ae 0 (J dk) (J dk)).U (fun _=>
 (qW ((cU,ca,dk),i8,cT,gJ)).U (fun fx=>
 (ae 0 (J dk) (J fx)).U (fun _=>
 some (Sum.inl ((i7,i8,i9,cr,aU .i64 cT 1),fx,cU,ca)))))))))))
 (((jF (J dk) (J l2)).U (fun _=>
 some dk)).U (fun cM=>
 some (Sum.inr cM))))
 ((i3,i4,i5,i6,(0:Int)),l2,i0,i1)))
def FX (NN:Nat):(Int×((Int×(Int×(List Int)))×(Int×(Int×Int))))->(Option (List Int)):=
 (fun((i0,(i1,i2,l3),i4,i5,i6):(Int×((Int×(Int×(List Int)))×(Int×(Int×Int)))))=>
 (ae 0 (J l3) (J l3)).U (fun _=>
 bu NN (fun(((i7,i8,i9,cr,cT),dk,cU,ca):((Int×(Int×(Int×(Int×Int))))×((List Int)×(Int×Int))))=>
 ak (bd cT ca)
 ((da (aU .i64 (cu .i64 i8 ca) cT) (J dk)).U (fun kj=>
 (bY dk (aC 0 kj)).U (fun eO=>
 (da (aU .i64 (cu .i64 i9 ca) cT) (J dk)).U (fun qu=>
 (bY dk (aC 0 qu)).U (fun gp=>
 (hZ (aU .i64 eO (cu .i64 (dV .i64 i7 cr) gp)) i7).U (fun gJ=>
 (da (aU .i64 (cu .i64 i8 ca) cT) (J dk)).U (fun uT=>
 (bY dk (aC 0 uT)).U (fun jR=>
 (ae 0 (J dk) (J (bg dk (aC 0 uT) gJ))).U (fun _=>
 some (Sum.inl ((i7,i8,i9,cr,aU .i64 cT 1),bg dk (aC 0 uT) gJ,cU,ca)))))))))))
 (((jF (J dk) (J l3)).U (fun _=>
 some dk)).U (fun ju=>
 some (Sum.inr ju))))
 ((i0,i4,i5,i6,(0:Int)),l3,i1,i2)))
def F0 (NN:Nat):((Int×(Int×(List Int)))×(Int×Int))->(Option Int):=
 (fun(((i0,i1,l2),i3,i4):((Int×(Int×(List Int)))×(Int×Int)))=>
 bD (bu NN (fun(((i5,i6),i7,i8,l9):((Int×Int)×(Int×(Int×(List Int)))))=>
 ak (bd i6 i7)
 ((dd l9 (aU .i64 (cu .i64 i6 i8) i5)).U (fun cr=>
 ak (dt cr (0:Int))
 (some (Sum.inr (Sum.inr i6)))
 (some (Sum.inl ((i5,aU .i64 i6 1),i7,i8,l9)))))
 (some (Sum.inr (Sum.inl ()))))
 ((i4,i3),i0,i1,l2))
 (fun _=>
 some ((-1:Int))))
def L7 (NN:Nat):(Int×Int)->(Option Int):=
 (fun((i0,i1):(Int×Int))=>
 bD (bu NN (fun((i2,i3,i4,i5):(Int×(Int×(Int×Int))))=>
 ak (bd (0:Int) i5)
 ((hZ i5 (2:Int)).U (fun i6=>
 bD (ak (bL i6 (1:Int))
 ((hZ (cu .i64 i4 i3) i2).U (fun i7=>
 some (Sum.inl (i3,i5,i2,i7))))
 (some (Sum.inl (i3,i5,i2,i4))))
 (fun(i8,i9,cr,cT)=>
 (hZ (cu .i64 i8 i8) cr).U (fun cZ=>
 (w7 .i64 i9 (2:Int)).U (fun cU=>
 some (Sum.inl (cr,cZ,cT,cU)))))))
 (some (Sum.inr (Sum.inl i4))))
 (i0,i1,(1:Int),dV .i64 i0 2))
 (fun ca=>
 some ca))
def Ln (NN:Nat):(Int×Int)->(Option Int):=
 (fun((i0,i1):(Int×Int))=>
 bD (bu NN (fun((i2,i3,i4,i5):(Int×(Int×(Int×Int))))=>
 ak (bd (0:Int) i5)
 (bD (ak (bL (HC .i64 i5 (1:Int)) (1:Int))
 ((hZ (cu .i64 i4 i3) i2).U (fun i6=>
 some (Sum.inl (i3,i5,i2,i6))))
 (some (Sum.inl (i3,i5,i2,i4))))
 (fun(i7,i8,i9,cr)=>
 (hZ (cu .i64 i7 i7) i9).U (fun cT=>
 (Cd .i64 i8 (1:Int)).U (fun cZ=>
 some (Sum.inl (i9,cT,cr,cZ))))))
 (some (Sum.inr (Sum.inl i4))))
 (i0,i1,(1:Int),dV .i64 i0 2))
 (fun cU=>
 some cU))
theorem anh {r c:Nat} (hr:r<=4096) (hc:c<=4096) (h:r*c<=1048576):BJ ((r:Int),(c:Int)):=by
 refine⟨⟨by omega,by show(r:Int)<=4096;omega⟩,⟨by show(0:Int)<=c;omega,by show(c:Int)<=4096;omega⟩,?_⟩
 show(r:Int)*(c:Int)<=1048576
 have e:(r:Int)*(c:Int)=((r*c:Nat):Int):=by norm_cast
 omega
theorem ang {x:Int×Int} (h:BJ x):∃r c:Nat,x=((r:Int),(c:Int))/\r<=4096/\c<=4096/\r*c<=1048576:=by
 obtain⟨r,c⟩:=x
 obtain⟨h1,h2,h3⟩:=h
 simp only at h1 h2 h3
 obtain⟨r,rfl⟩:=jD h1.1
 obtain⟨c,rfl⟩:=jD h2.1
 have e:(r:Int)*(c:Int)=((r*c:Nat):Int):=by norm_cast
 exact⟨r,c,rfl,by omega,by omega,by omega⟩
theorem abl {r c:Nat} (hr:r<=4096) (hc:c<=4096) (h:r*c<=1048576):xK ((r:Int),(c:Int))=some ((r:Int),(c:Int),aB r c fun _ _=>0):=by
 simp only[xK,Int.toNat_natCast]
 rw[if_pos (anh hr hc h)]
theorem anf {r c:Nat} (hr:r<=4096) (hc:c<=4096) (h:r*c<=1048576):CF ((r:Int),(c:Int))=some ((r:Int),(c:Int),aB r c fun _ _=>0):=abl hr hc h
theorem ahx {r c:Nat} (hr:r<=4096) (hc:c<=4096) (h:r*c<=1048576):FZ az ((r:Int),(c:Int))=some ((r:Int),(c:Int),aB r c fun _ _=>0):=by
 simp only[FZ]
 rw[Ez (by omega) (by omega)]
 have:=y6 (n:=r*c) (by_:=8) (by unfold dA;omega)
 rw[show((r*c:Nat):Int)=aI (r*c) from rfl,this,aw,ahE]
 rw[show c9 (aB r c fun _ _=>0) (r*c)=some (aB r c fun _ _=>0) by
  have:=gO (aB r c fun _ _=>(0:Int))
  rwa[wP] at this]
 rfl
theorem YM (x:Int×Int) (y:Int×Int×List Int) (h:xK x=some y):FZ az x=some y:=by
 simp only[xK] at h
 split at h
 ·rename_i hc
  obtain⟨r,c,rfl,h1,h2,h3⟩:=ang hc
  rw[<-h,ahx h1 h2 h3];rfl
 ·cases h
theorem agp (x:Int×Int) (y:Int×Int×List Int) (h:CF x=some y):WL az x=some y:=YM x y h
theorem ag9 (x y:List Int) (h:nG x=some y):LZ az x=some y:=by
 simp only[nG] at h
 split at h
 ·rename_i hl
  rw[<-h]
  simp only[LZ]
  rw[show ae 0 0 (J ([]:List Int))=some () from rfl,aw,nO (by simp only[aC,J,List.length_nil,dA];omega),aw]
  have:dP [] x=x:=rfl
  rw[this,show aC (J ([]:List Int)) (J x)=J x by simp[aC,J],gO]
  rfl
 ·cases h
theorem agm (x y:List Int) (h:nF x=some y):Le az x=some y:=by
 simp only[nF] at h
 split at h
 ·rename_i hl
  rw[<-h]
  simp only[Le]
  rw[nO (by simp only[aC,J,List.length_nil,dA];omega),aw]
  have:dP [] x=x:=rfl
  rw[this,show aC (J ([]:List Int)) (J x)=J x by simp[aC,J],gO]
  rfl
 ·cases h
theorem agn (x y:Int×Int×List Int) (h:zI x=some y):Lf az x=some y:=by
 obtain⟨r,c,l⟩:=x
 simp only[zI] at h
 split at h
 ·rename_i hl
  rw[<-h]
  simp only[Lf,nF,if_pos hl,aw,gO]
 ·cases h
theorem ph {a b:Int} (h:0<=a/\a<b):∃n:Nat,a=(n:Int)/\∀m:Nat,b=(m:Int)->n<m:=⟨a.toNat,by omega,fun m hm=>by omega⟩
theorem am9 {a b:Int} (h:0<=a/\a<=b):∃n:Nat,a=(n:Int)/\∀m:Nat,b=(m:Int)->n<=m:=⟨a.toNat,by omega,fun m hm=>by omega⟩
theorem ahv {r c i j:Nat} {M:Nat->Nat->Int} (hr:r<=4096) (hc:c<=4096) (hi:i<r) (hj:j<c):FT az (((r:Int),(c:Int),aB r c M),(i:Int),(j:Int))=some (M i j):=by
 simp only[FT]
 rw[qp (by omega) (by omega) (by omega),Ow M hi hj];rfl
theorem qY {r c i j:Nat} {M:Nat->Nat->Int} (hr:r<=4096) (hc:c<=4096) (h:r*c<=1048576) (hi:i<r) (hj:j<c):lY (((r:Int),(c:Int),aB r c M),(i:Int),(j:Int))=some (M i j):=by
 simp only[lY,Int.toNat_natCast]
 rw[if_pos ⟨y5 M hr hc h,by omega,by omega⟩]
 rw[pk M hi hj]
theorem agd (x:(Int×Int×List Int)×Int×Int) (y:Int) (h:lY x=some y):FT az x=some y:=by
 obtain⟨m,i,j⟩:=x
 simp only[lY] at h
 split at h
 ·rename_i hc
  obtain⟨h1,h2,h3⟩:=hc
  obtain⟨r,c,M,rfl,hr,hc,db⟩:=wR h1
  obtain⟨i,rfl,hi⟩:=ph h2
  obtain⟨j,rfl,hj⟩:=ph h3
  have hi:=hi r rfl;have hj:=hj c rfl
  rw[<-h,ahv hr hc hi hj]
  exact congrArg some (pk M hi hj).symm
 ·cases h
theorem ahB {r c i j:Nat} {M:Nat->Nat->Int} {x:Int} (hr:r<=4096) (hc:c<=4096) (hi:i<r) (hj:j<c):FU az (((r:Int),(c:Int),aB r c M),(i:Int),(j:Int),x)=some (aB r c (lW M i j x)):=by
 simp only[FU]
 rw[qp (by omega) (by omega) (by omega),tS M hi hj,aw,eZ,ug M hi hj,aw,E6 M hj,EW,aw]
theorem Ca {r c i j:Nat} {M:Nat->Nat->Int} {x:Int} (hr:r<=4096) (hc:c<=4096) (h:r*c<=1048576) (hi:i<r) (hj:j<c):qW (((r:Int),(c:Int),aB r c M),(i:Int),(j:Int),x)=some (aB r c (lW M i j x)):=by
 simp only[qW,Int.toNat_natCast]
 rw[if_pos ⟨y5 M hr hc h,by omega,by omega⟩]
 refine(congrArg some (mw fun a ha b hb=>?_))
 unfold lW
 rw[pk M ha hb]
theorem age (x:(Int×Int×List Int)×Int×Int×Int) (y:List Int) (h:qW x=some y):FU az x=some y:=by
 obtain⟨m,i,j,v⟩:=x
 have h0:=h
 simp only[qW] at h
 split at h
 ·rename_i hc
  obtain⟨h1,h2,h3⟩:=hc
  obtain⟨r,c,M,rfl,hr,hc,db⟩:=wR h1
  obtain⟨i,rfl,hi⟩:=ph h2
  obtain⟨j,rfl,hj⟩:=ph h3
  have hi:=hi r rfl;have hj:=hj c rfl
  rw[<-h0,ahB hr hc hi hj,Ca hr hc db hi hj]
 ·cases h
def xt (M:Nat->Nat->Int) (a b k:Nat):Nat->Nat->Int:=fun i j=>if j<k then ff M a b i j else M i j
theorem adz (M:Nat->Nat->Int) (a b:Nat):xt M a b 0=M:=by funext i j;exact if_neg (by omega)
theorem adC {r c:Nat} (M:Nat->Nat->Int) (a b k:Nat):aB r c (lW (lW (xt M a b k) a k (M b k)) b k (M a k))=aB r c (xt M a b (k+1)):=by
 refine mw fun i _ j _=>?_
 unfold lW xt ff
 by_cases hj:j=k
 ·subst hj
  by_cases hb:i=b
  ·by_cases ha:i=a
   ·subst hb;subst ha;simp
   ·have:b≠a:=fun e=>ha (hb.trans e)
    simp[hb,this]
  ·by_cases ha:i=a
   ·have:a≠b:=fun e=>hb (ha.trans e)
    simp[ha,this]
   ·simp[ha,hb]
 ·have h1:¬(i=b/\j=k):=fun h=>hj h.2
  have h2:¬(i=a/\j=k):=fun h=>hj h.2
  rw[if_neg h1,if_neg h2]
  by_cases hk:j<k
  ·simp only[if_pos hk,if_pos (show j<k+1 by omega)]
  ·simp only[if_neg hk,if_neg (show¬j<k+1 by omega)]
theorem adA {r c:Nat} (M:Nat->Nat->Int) (a b:Nat):aB r c (xt M a b c)=aB r c (ff M a b):=mw fun i _ j hj=>if_pos hj
theorem adB (M:Nat->Nat->Int) (a b k i:Nat):xt M a b k i k=M i k:=if_neg (by omega)
theorem ahD {r c a b:Nat} {M:Nat->Nat->Int} (hr:r<=4096) (hc:c<=4096) (ha:a<r) (hb:b<r):F4 az (((r:Int),(c:Int),aB r c M),(a:Int),(b:Int))=some (aB r c (ff M a b)):=by
 simp only[F4,bW,aw]
 refine ef (fun k=>(((a:Int),(b:Int),(k:Int)),aB r c (xt M a b k),(r:Int),(c:Int))) c ?_ ?_ ?_ (cX (by omega))
 ·intro k hk
  simp only
  rw[aH (jV hk),qp (by omega) (by omega) (by omega),qp (by omega) (by omega) (by omega)]
  simp only[tS _ ha hk,tS _ hb hk,aw,eZ,ug _ ha hk,ug _ hb hk,E6 _ hk,pY,adB,gT (show k<=1048577 by omega),adC]
 ·simp only
  rw[aK (jz (Nat.le_refl c)),EW,aw,aw,adA]
 ·rw[adz];rfl
theorem KC {r c a b:Nat} {M:Nat->Nat->Int} (hr:r<=4096) (hc:c<=4096) (h:r*c<=1048576) (ha:a<r) (hb:b<r):sk (((r:Int),(c:Int),aB r c M),(a:Int),(b:Int))=some (aB r c (ff M a b)):=by
 simp only[sk,Int.toNat_natCast]
 rw[if_pos ⟨y5 M hr hc h,by omega,by omega⟩]
 refine(congrArg some (mw fun i hi j hj=>?_))
 unfold ff
 rw[pk M hb hj,pk M ha hj,pk M hi hj]
theorem ahj (x:(Int×Int×List Int)×Int×Int) (y:List Int) (h:sk x=some y):F4 az x=some y:=by
 obtain⟨m,i,j⟩:=x
 have h0:=h
 simp only[sk] at h
 split at h
 ·rename_i hc
  obtain⟨h1,h2,h3⟩:=hc
  obtain⟨r,c,M,rfl,hr,hc,db⟩:=wR h1
  obtain⟨i,rfl,hi⟩:=ph h2
  obtain⟨j,rfl,hj⟩:=ph h3
  have hi:=hi r rfl;have hj:=hj r rfl
  rw[<-h0,ahD hr hc hi hj,KC hr hc db hi hj]
 ·cases h
theorem ahC {r c a b:Nat} {M:Nat->Nat->Int} (hr:r<=4096) (hc:c<=4096) (h:r*c<=1048576) (ha:a<r) (hb:b<r):FV az (((r:Int),(c:Int),aB r c M),(a:Int),(b:Int))=some (aB r c (ff M a b)):=by
 simp only[FV,bW,aw,ky]
 refine ef (fun k=>(((a:Int),(b:Int),(k:Int)),aB r c (xt M a b k),(r:Int),(c:Int))) c ?_ ?_ ?_ (cX (by omega))
 ·intro k hk
  simp only
  rw[aH (jV hk)]
  simp only[qY hr hc h ha hk,qY hr hc h hb hk,Ca hr hc h ha hk,Ca hr hc h hb hk,aw,pY,adB,gT (show k<=1048577 by omega),adC]
 ·simp only
  rw[aK (jz (Nat.le_refl c)),EW,aw,aw,adA]
 ·rw[adz];rfl
theorem agf (x:(Int×Int×List Int)×Int×Int) (y:List Int) (h:zD x=some y):FV az x=some y:=by
 obtain⟨m,i,j⟩:=x
 have h0:sk (m,i,j)=some y:=h
 simp only[zD,sk] at h
 split at h
 ·rename_i hc
  obtain⟨h1,h2,h3⟩:=hc
  obtain⟨r,c,M,rfl,hr,hc,db⟩:=wR h1
  obtain⟨i,rfl,hi⟩:=ph h2
  obtain⟨j,rfl,hj⟩:=ph h3
  have hi:=hi r rfl;have hj:=hj r rfl
  rw[<-h0,ahC hr hc db hi hj,KC hr hc db hi hj]
 ·cases h
def vM (p:Int) (M:Nat->Nat->Int) (i k:Nat) (f:Int) (n:Nat):Nat->Nat->Int:=fun a j=>if j<n then oH p M i k f a j else M a j
theorem XI (p:Int) (M:Nat->Nat->Int) (i k:Nat) (f:Int):vM p M i k f 0=M:=by funext a j;exact if_neg (by omega)
theorem XM {r c:Nat} (p:Int) (M:Nat->Nat->Int) (i k:Nat) (f:Int) (n:Nat):aB r c (lW (vM p M i k f n) i n ((M i n+f*M k n)%p))=aB r c (vM p M i k f (n+1)):=by
 refine mw fun a _ j _=>?_
 unfold lW vM oH
 by_cases hj:j=n
 ·subst hj
  by_cases ha:a=i
  ·subst ha;simp
  ·simp[ha]
 ·rw[if_neg (fun h=>hj h.2)]
  by_cases hk:j<n
  ·simp only[if_pos hk,if_pos (show j<n+1 by omega)]
  ·simp only[if_neg hk,if_neg (show¬j<n+1 by omega)]
theorem XJ {r c:Nat} (p:Int) (M:Nat->Nat->Int) (i k:Nat) (f:Int):aB r c (vM p M i k f c)=aB r c (oH p M i k f):=mw fun a _ j hj=>if_pos hj
theorem XK (p:Int) (M:Nat->Nat->Int) (i k:Nat) (f:Int) (n a:Nat):vM p M i k f n a n=M a n:=if_neg (by omega)
theorem ahu {p f:Int} {r c i k:Nat} {M:Nat->Nat->Int} (hp:eo p) (hr:r<=4096) (hc:c<=4096) (h:r*c<=1048576) (hi:i<r) (hk:k<r) (hf:0<=f/\f<=p) (hM:fC p r c M):
  FR az (((r:Int),(c:Int),aB r c M),p,(i:Int),(k:Int),f)=some (aB r c (oH p M i k f)):=by
 simp only[FR,bW,aw,ky]
 refine ef (fun n=>((p,(i:Int),(k:Int),f,(n:Int)),aB r c (vM p M i k f n),(r:Int),(c:Int))) c ?_ ?_ ?_ (cX (by omega))
 ·intro n hn
  simp only
  rw[aH (jV hn)]
  have h1:=hM i hi n hn
  simp only[qY hr hc h hi hn,qY hr hc h hk hn,aw,XK,aa0 hp (h1.s hp) hf (hM k hk n hn).le,Ca hr hc h hi hn,pY,gT (show n<=1048577 by omega),XM]
 ·simp only
  rw[aK (jz (Nat.le_refl c)),EW,aw,aw,XJ]
 ·rw[XI];rfl
theorem WZ {p f:Int} {r c i k:Nat} {M:Nat->Nat->Int} (hp:eo p) (hr:r<=4096) (hc:c<=4096) (h:r*c<=1048576) (hi:i<r) (hk:k<r) (hf:0<=f/\f<=p) (hM:fC p r c M):
  xE (((r:Int),(c:Int),aB r c M),p,(i:Int),(k:Int),f)=some (aB r c (oH p M i k f)):=by
 simp only[xE,Int.toNat_natCast]
 rw[if_pos ⟨y5 M hr hc h,hp,by omega,by omega,hf,pH.2 hM⟩]
 refine(congrArg some (mw fun a ha j hj=>?_))
 unfold oH
 rw[pk M hi hj,pk M hk hj,pk M ha hj]
theorem agc (x:(Int×Int×List Int)×Int×Int×Int×Int) (y:List Int) (h:xE x=some y):FR az x=some y:=by
 obtain⟨m,p,i,k,f⟩:=x
 have h0:=h
 simp only[xE] at h
 split at h
 ·rename_i hc
  obtain⟨h1,hp,h2,h3,hf,hM⟩:=hc
  obtain⟨r,c,M,rfl,hr,hc,db⟩:=wR h1
  obtain⟨i,rfl,hi⟩:=ph h2
  obtain⟨k,rfl,hk⟩:=ph h3
  have hi:=hi r rfl;have hk:=hk r rfl
  have hM:=pH.1 hM
  rw[<-h0,ahu hp hr hc db hi hk hf hM,WZ hp hr hc db hi hk hf hM]
 ·cases h
theorem ahw {p x:Int} {r c i k:Nat} {M:Nat->Nat->Int} (hp:eo p) (hr:r<=4096) (hc:c<=4096) (hi:i<r) (hk:k<r) (hf:0<=x/\x<=p) (hM:fC p r c M):
  FX az (p,((r:Int),(c:Int),aB r c M),(i:Int),(k:Int),x)=some (aB r c (oH p M i k (p - x))):=by
 simp only[FX,bW,aw]
 have jo:=hp.2
 refine ef (fun n=>((p,(i:Int),(k:Int),x,(n:Int)),aB r c (vM p M i k (p - x) n),(r:Int),(c:Int))) c ?_ ?_ ?_ (cX (by omega))
 ·intro n hn
  simp only
  rw[aH (jV hn),qp (by omega) (by omega) (by omega),qp (by omega) (by omega) (by omega),kV (by omega) (by omega)]
  have h1:=hM i hi n hn
  simp only[tS _ hi hn,tS _ hk hn,aw,eZ,ug _ hi hn,ug _ hk hn,XK,aa0 hp (h1.s hp) (show 0<=p - x/\p - x<=p by omega) (hM k hk n hn).le,E6 _ hn,pY,gT (show n<=1048577 by omega),XM]
 ·simp only
  rw[aK (jz (Nat.le_refl c)),EW,aw,aw,XJ]
 ·rw[XI];rfl
theorem XL {p x:Int} {r c i k:Nat} {M:Nat->Nat->Int} (hp:eo p) (hr:r<=4096) (hc:c<=4096) (h:r*c<=1048576) (hi:i<r) (hk:k<r) (hf:0<=x/\x<=p) (hM:fC p r c M):
  xJ (p,((r:Int),(c:Int),aB r c M),(i:Int),(k:Int),x)=some (aB r c (oH p M i k (p - x))):=by
 simp only[xJ,Int.toNat_natCast]
 rw[if_pos ⟨y5 M hr hc h,hp,by omega,by omega,hf,pH.2 hM⟩]
 refine(congrArg some (mw fun a ha j hj=>?_))
 unfold oH
 rw[pk M hi hj,pk M hk hj,pk M ha hj]
theorem ahe (x:Int×(Int×Int×List Int)×Int×Int×Int) (y:List Int) (h:xJ x=some y):FX az x=some y:=by
 obtain⟨p,m,i,k,f⟩:=x
 have h0:=h
 simp only[xJ] at h
 split at h
 ·rename_i hc
  obtain⟨h1,hp,h2,h3,hf,hM⟩:=hc
  obtain⟨r,c,M,rfl,hr,hc,db⟩:=wR h1
  obtain⟨i,rfl,hi⟩:=ph h2
  obtain⟨k,rfl,hk⟩:=ph h3
  have hi:=hi r rfl;have hk:=hk r rfl
  have hM:=pH.1 hM
  rw[<-h0,ahw hp hr hc hi hk hf hM,XL hp hr hc db hi hk hf hM]
 ·cases h
theorem aoF {r c i j:Nat} {M:Nat->Nat->Int} {f:((Int×Int)×Int×Int×List Int)->Option (((Int×Int)×Int×Int×List Int)⊕(Unit⊕Int))}
  (h1:∀k,k<r->f (((j:Int),(k:Int)),(r:Int),(c:Int),aB r c M)=if M k j=0 then some (.inl (((j:Int),((k+1:Nat):Int)),(r:Int),(c:Int),aB r c M)) else some (.inr (.inr (k:Int))))
  (h2:f (((j:Int),(r:Int)),(r:Int),(c:Int),aB r c M)=some (.inr (.inl ()))):
  ∀(d k:Nat),k+d=r->∀N,d<N->bu N f (((j:Int),(k:Int)),(r:Int),(c:Int),aB r c M)=some (match iM M j d k with|some q=>.inr (q:Int)|none=>.inl ()):=by
 intro d
 induction d with
 |zero=>
  intro k hk N hN
  obtain⟨N,rfl⟩:∃m,N=m+1:=⟨N - 1,by omega⟩
  have:k=r:=by omega
  subst this
  simp only[bu,h2,iM]
 |succ d ih=>
  intro k hk N hN
  obtain⟨N,rfl⟩:∃m,N=m+1:=⟨N - 1,by omega⟩
  simp only[bu,h1 k (by omega),iM]
  by_cases h0:M k j=0
  ·rw[if_pos h0,if_pos h0]
   exact ih (k+1) (by omega) N (by omega)
  ·rw[if_neg h0,if_neg h0]
theorem abH {M M':Nat->Nat->Int} {j:Nat}:∀(d k:Nat),(∀i,k<=i->i<k+d->M i j=M' i j)->iM M j d k=iM M' j d k
 |0,k,_=>rfl
 |d+1,k,h=>by
  simp only[iM]
  rw[h k (by omega) (by omega),abH d (k+1) fun i h1 h2=>h i (by omega) (by omega)]
theorem EM {M:Nat->Nat->Int} {j q:Nat}:∀{d k:Nat},iM M j d k=some q->k<=q/\q<k+d/\M q j≠0
 |0,k,h=>by cases h
 |d+1,k,h=>by
  simp only[iM] at h
  split at h
  ·have:=EM h
   exact⟨by omega,by omega,this.2.2⟩
  ·rename_i h0
   injection h with h
   subst h
   exact⟨by omega,by omega,h0⟩
theorem ahy {r c i j:Nat} {M:Nat->Nat->Int} (hr:r<=4096) (hc:c<=4096) (hi:i<=r) (hj:j<c):F0 az (((r:Int),(c:Int),aB r c M),(i:Int),(j:Int))=some (uZ (iM M j (r - i) i)):=by
 simp only[F0]
 rw[aoF (M:=M) (r:=r) (c:=c) (i:=i) (j:=j) ?_ ?_ (r - i) i (by omega) az (cX (by omega))]
 ·cases iM M j (r - i) i with
  |none=>rfl
  |some q=>rfl
 ·intro k hk
  simp only
  rw[aH (jV hk),qp (by omega) (by omega) (by omega),Ow M hk hj,aw,gT (by omega)]
  by_cases h0:M k j=0
  ·rw[if_pos h0,aK (np h0)]
  ·rw[if_neg h0,aH (n9 h0)]
 ·simp only
  rw[aK (jz (Nat.le_refl r))]
theorem abI {r c i j:Nat} {M:Nat->Nat->Int} (hr:r<=4096) (hc:c<=4096) (h:r*c<=1048576) (hi:i<=r) (hj:j<c):xL (((r:Int),(c:Int),aB r c M),(i:Int),(j:Int))=some (uZ (iM M j (r - i) i)):=by
 simp only[xL,Int.toNat_natCast]
 rw[if_pos ⟨y5 M hr hc h,by omega,by omega⟩]
 rw[show((r:Int) - (i:Int)).toNat=r - i by omega]
 rw[abH (M':=M) (r - i) i fun a h1 h2=>pk M (by omega) hj]
theorem ahh (x:(Int×Int×List Int)×Int×Int) (y:Int) (h:xL x=some y):F0 az x=some y:=by
 obtain⟨m,i,j⟩:=x
 have h0:=h
 simp only[xL] at h
 split at h
 ·rename_i hc
  obtain⟨h1,h2,h3⟩:=hc
  obtain⟨r,c,M,rfl,hr,hc,db⟩:=wR h1
  obtain⟨i,rfl,hi⟩:=am9 h2
  obtain⟨j,rfl,hj⟩:=ph h3
  have hi:=hi r rfl;have hj:=hj c rfl
  rw[<-h0,ahy hr hc hi hj,abI hr hc db hi hj]
 ·cases h
theorem Jg (p out x:Int):io p out x 0=out:=by rw[io];rfl
theorem Jh {n:Nat} (h:n≠0) (p out x:Int):io p out x n=io p (if n%2=1 then out*x%p else out) (x*x%p) (n/2):=by
 rw[io,dif_neg h]
theorem aar {p:Int} (hp:eo p):∀(n:Nat) (out x:Int),gw p out->gw p (io p out x n):=by
 intro n
 induction n using Nat.strongRecOn with
 |ind n ih=>
  intro out x ho
  by_cases h:n=0
  ·subst h;rw[Jg];exact ho
  ·rw[Jh h]
   refine ih (n/2) (by omega) _ _ ?_
   split
   ·exact tY hp _
   ·exact ho
theorem aat {p out x:Int} {n:Nat} {Y:Type} {o:Option (Int×Int×Int×Int⊕Y)} (k:Int×Int×Int×Int->Option Y) (b:Bool) (hb:b=decide (n%2=1)) (hp:eo p) (ho:gw p out) (hx:gw p x):
  bD (ak b ((hZ (cu .i64 out x) p).U fun i=>some (Sum.inl (x,(n:Int),p,i))) (some (Sum.inl (x,(n:Int),p,out)))) k=k (x,(n:Int),p,if n%2=1 then out*x%p else out):=by
 subst hb
 by_cases h:n%2=1
 ·rw[aH (decide_eq_true h),BG hp ho.le hx.le,aw,eU,if_pos h]
 ·rw[aK (decide_eq_false h),eU,if_neg h]
theorem ahg (x:Int×Int) (y:Int) (h:vA x=some y):L7 az x=some y:=by
 obtain⟨p,x⟩:=x
 simp only[vA] at h
 split at h
 ·rename_i hc
  obtain⟨hp,hx⟩:=hc
  have uB:=hp.1;have jo:=hp.2
  obtain⟨n,hn⟩:=jD (show 0<=p - 2 by omega)
  rw[<-h]
  simp only[L7]
  rw[kV (by omega) (by omega),hn,Int.toNat_natCast]
  rw[Js (r:=Sum.inl (io p 1 x n)) (fun m s=>∃out x':Int,s=(p,x',out,(m:Int))/\m<=n/\gw p out/\gw p x'/\io p out x' m=io p 1 x n) ?_ n _ ⟨1,x,rfl,by omega,⟨by omega,by omega⟩,hx,rfl⟩ az (cX (by omega))]
  ·rw[eU]
  ·rintro m s ⟨out,x',rfl,hm,ho,fm,he⟩
   simp only
   by_cases h0:m=0
   ·subst h0
    left
    rw[aK (cP (by omega)),<-he,Jg]
   ·right
    refine⟨m/2,_,by omega,?_,if m%2=1 then out*x'%p else out,x'*x'%p,rfl,by omega,?_,tY hp _,by rw[<-he,Jh h0]⟩
    ·rw[aH (df (by omega)),ER (by omega) (by omega),aw]
     have hb:bL ((m:Int)%2) 1=decide (m%2=1):=by
      by_cases h1:m%2=1
      ·rw[rj (by omega),decide_eq_true h1]
      ·rw[rh (by omega),decide_eq_false h1]
     rw[aat (o:=none) _ _ hb hp ho fm]
     simp only
     rw[BG hp fm.le fm.le,aw]
     have hq:w7 .i64 (m:Int) 2=some ((m/2:Nat):Int):=by
      unfold w7
      rw[if_neg (by omega),Int.tdiv_eq_ediv_of_nonneg (by omega),xy (by omega) (by omega)]
      congr 1
     rw[hq,aw]
    ·split
     ·exact tY hp _
     ·exact ho
 ·cases h
theorem agw (x:Int×Int) (y:Int) (h:zN x=some y):Ln az x=some y:=by
 obtain⟨p,x⟩:=x
 simp only[zN,vA] at h
 split at h
 ·rename_i hc
  obtain⟨hp,hx⟩:=hc
  have uB:=hp.1;have jo:=hp.2
  obtain⟨n,hn⟩:=jD (show 0<=p - 2 by omega)
  rw[<-h]
  simp only[Ln]
  rw[kV (by omega) (by omega),hn,Int.toNat_natCast]
  rw[Js (r:=Sum.inl (io p 1 x n)) (fun m s=>∃out x':Int,s=(p,x',out,(m:Int))/\m<=n/\gw p out/\gw p x'/\io p out x' m=io p 1 x n) ?_ n _ ⟨1,x,rfl,by omega,⟨by omega,by omega⟩,hx,rfl⟩ az (cX (by omega))]
  ·rw[eU]
  ·rintro m s ⟨out,x',rfl,hm,ho,fm,he⟩
   simp only
   by_cases h0:m=0
   ·subst h0
    left
    rw[aK (cP (by omega)),<-he,Jg]
   ·right
    refine⟨m/2,_,by omega,?_,if m%2=1 then out*x'%p else out,x'*x'%p,rfl,by omega,?_,tY hp _,by rw[<-he,Jh h0]⟩
    ·rw[aH (df (by omega))]
     have hb:bL (HC .i64 (m:Int) 1) 1=decide (m%2=1):=by
      rw[show(1:Int)=((1:Nat):Int) from rfl,aek (by omega) (by omega),Nat.and_one_is_mod]
      by_cases h1:m%2=1
      ·rw[rj (by omega),decide_eq_true h1]
      ·rw[rh (by omega),decide_eq_false h1]
     rw[aat (o:=none) _ _ hb hp ho fm]
     simp only
     rw[BG hp fm.le fm.le,aw]
     have hq:Cd .i64 (m:Int) 1=some ((m/2:Nat):Int):=by
      rw[show(1:Int)=((1:Nat):Int) from rfl,apH (by omega),Nat.shiftRight_eq_div_pow]
     rw[hq,aw]
    ·split
     ·exact tY hp _
     ·exact ho
 ·cases h
def n8 (W:Nat->Nat->Int) (i j:Nat):Nat->Nat->Int:=fun a b=>if a<i\/a=i/\b<j then W a b else 0
theorem abg {r c:Nat} (W:Nat->Nat->Int) (i j:Nat):aB r c (lW (n8 W i j) i j (W i j))=aB r c (n8 W i (j+1)):=by
 refine mw fun a _ b _=>?_
 unfold lW n8
 by_cases h:a=i/\b=j
 ·obtain⟨rfl,rfl⟩:=h
  simp
 ·rw[if_neg h]
  by_cases h1:a<i\/a=i/\b<j
  ·simp only[if_pos h1,if_pos (show a<i\/a=i/\b<j+1 by omega)]
  ·simp only[if_neg h1,if_neg (show¬(a<i\/a=i/\b<j+1) by omega)]
theorem abf {r c:Nat} (W:Nat->Nat->Int) (i:Nat):aB r c (n8 W i c)=aB r c (n8 W (i+1) 0):=by
 refine mw fun a _ b hb=>?_
 unfold n8
 by_cases h1:a<i\/a=i/\b<c
 ·simp only[if_pos h1,if_pos (show a<i+1\/a=i+1/\b<0 by omega)]
 ·simp only[if_neg h1,if_neg (show¬(a<i+1\/a=i+1/\b<0) by omega)]
theorem abe {r c:Nat} (W:Nat->Nat->Int):aB r c (n8 W r 0)=aB r c W:=mw fun a ha b hb=>if_pos (.inl ha)
theorem abd {r c:Nat} (W:Nat->Nat->Int):aB r c (n8 W 0 0)=aB r c fun _ _=>0:=mw fun a ha b hb=>if_neg (by omega)
end Go.Am
end
section
namespace Go.Am
def ac3 (x:Int×Int×Int):Prop:=eE x.1=true/\(1<=x.2.1/\x.2.1<=8)/\(1<=x.2.2/\x.2.2<=8)
instance (x:Int×Int×Int):Decidable (ac3 x):=by unfold ac3;infer_instance
theorem aiP {p:Int} {r c:Nat} {l:List Int} (h:l.length=r*c) (hr:nv p l=true):fC p r c (fY c l):=by
 apply pH.1
 rw[AM h]
 intro x hx
 have:=List.all_eq_true.1 hr x hx
 exact of_decide_eq_true this
theorem akA {m:Int} {x:Int×Int×List Int} (h:o9 m x=true):∃(r c:Nat) (M:Nat->Nat->Int),x=((r:Int),(c:Int),aB r c M)/\eo m/\r<=64/\c<=64/\r*c<=4096/\fC m r c M:=by
 obtain⟨r,c,l⟩:=x
 simp only[o9,Bool.and_eq_true,decide_eq_true_eq] at h
 obtain⟨h1,h2,h3,h4,h5⟩:=h
 obtain⟨r,rfl⟩:=jD (z:=r) (by omega)
 obtain⟨c,rfl⟩:=jD (z:=c) (by omega)
 have hl:l.length=r*c:=by
  have e:(r:Int)*(c:Int)=((r*c:Nat):Int):=by norm_cast
  omega
 have db:r*c<=64*64:=Nat.mul_le_mul (by omega) (by omega)
 exact⟨r,c,fY c l,by rw[AM hl],jT h1,by omega,by omega,by omega,aiP hl h5⟩
end Go.Am
end
section
namespace Go.Am
abbrev bR:=Nat->Nat->Int
def vb (p inv:Int) (M:bR) (t n:Nat):bR:=fun a b=>if a=t/\b<n then M t b*inv%p else M a b
def u9 (p inv:Int) (M:bR) (t:Nat):bR:=fun a b=>if a=t then M t b*inv%p else M a b
def fj (p:Int) (M:bR) (t j n:Nat):bR:=fun a b=>if a<n/\a≠t then(M a b+(p - M a j)*M t b)%p else M a b
def qE (p:Int) (M:bR) (t j k:Nat):bR:=u9 p (io p 1 (ff M t k t j) (p - 2).toNat) (ff M t k) t
def B1 (p:Int) (M:bR) (t j k:Nat) (d:Int):Int:=(if k=t then d else(p - d)%p)*ff M t k t j%p
def mS (p:Int) (r:Nat) (s:bR×List Int×Int) (j:Nat):bR×List Int×Int:=
 if s.2.1.length<r then
  match iM s.1 j (r - s.2.1.length) s.2.1.length with
  |none=>s
  |some k=>(fj p (qE p s.1 s.2.1.length j k) s.2.1.length j r,s.2.1++[(j:Int)],B1 p s.1 s.2.1.length j k s.2.2)
 else s
def dM (p:Int) (r:Nat) (M:bR):Nat->bR×List Int×Int
 |0=>(M,[],1)
 |j+1=>mS p r (dM p r M j) j
def zh (x:Int×Int×Int×List Int):Prop:=eo x.1/\nk x.2/\iw x.1 x.2.2.2
instance (x:Int×Int×Int×List Int):Decidable (zh x):=by unfold zh;infer_instance
def nt (x:Int×Int×Int×List Int):bR×List Int×Int:=dM x.1 x.2.1.toNat (fY x.2.2.1.toNat x.2.2.2) x.2.2.1.toNat
def xM:Int×Int×Int×List Int->Option ((Int×Int×List Int)×List Int×Int):=fun(x:Int×Int×Int×List Int)=>
 if zh x then some ((x.2.1,x.2.2.1,aB x.2.1.toNat x.2.2.1.toNat (nt x).1),(nt x).2) else none
def xH:Int×Int×Int×List Int->Option ((Int×Int×List Int)×List Int):=fun(x:Int×Int×Int×List Int)=>
 if zh x then some ((x.2.1,x.2.2.1,aB x.2.1.toNat x.2.2.1.toNat (nt x).1),(nt x).2.1) else none
def Hy:ai:=[(.one,[.int .i64]),(.agg,[.int .i64,.int .i64,.list [.int .i64]])]
def TX:ai:=[(.agg,[.int .i64,.int .i64,.list [.int .i64]]),(.one,[.list [.int .i64]]),(.one,[.int .i64])]
def alP:aN:=[]
def GF:ai:=[(.one,[.int .i64]),(.agg,[.int .i64,.int .i64,.list [.int .i64]])]
def S8:ai:=[(.agg,[.int .i64,.int .i64,.list [.int .i64]]),(.one,[.list [.int .i64]])]
def ak8:aN:=[]
def F3 (NN:Nat):(Int×(Int×(Int×(List Int))))->(Option ((Int×(Int×(List Int)))×((List Int)×Int))):=
 (fun((i0,i1,i2,l3):(Int×(Int×(Int×(List Int)))))=>
 (nG l3).U (fun l4=>
 bD ((ae 0 0 (J (([]:List Int)))).U (fun _=>
 (ae 0 0 (J (([]:List Int)))).U (fun _=>
 (ae 0 (J l4) (J l4)).U (fun _=>
 bu NN (fun(((i5,i6,i7),(i8,i9,eW),(cT,cZ),(cU,ca),de,dS,c8):((Int×(Int×Int))×((Int×(Int×(List Int)))×((Int×Int)×((Int×Int)×((List Int)×((List Int)×(List Int))))))))=>
 ak (bd i7 i9)
 (ak (bd (aI (J c8)) i8)
 (bD ((cd dS 0 (J dS)).U (fun iq=>
 (xL ((cU,ca,iq),aI (J c8),i7)).U (fun gJ=>
 ak (bd gJ (0:Int))
 ((ae 0 (J c8) (J c8)).U (fun _=>
 (ae 0 (J de) (J de)).U (fun _=>
 (ae 0 (J dS) (J dS)).U (fun _=>
 some (Sum.inl ((i7,i5,i6),(i8,i9,eW),(cT,cZ),(cU,ca),de,dS,c8))))))
 (bD (ak (dt gJ (aI (J c8)))
 ((ae 0 (J dS) (J dS)).U (fun _=>
 (sk ((cU,ca,dS),aI (J c8),gJ)).U (fun fx=>
 (hZ (dV .i64 i5 i6) i5).U (fun jR=>
 (ae 0 (J c8) (J c8)).U (fun _=>
 (ae 0 (J de) (J de)).U (fun _=>
 (ae 0 (J dS) (J fx)).U (fun _=>
 some (Sum.inl ((jR,aI (J c8),i7,i5),(i8,i9,eW),(cT,cZ),(cU,ca),de,fx,c8)))))))))
 ((ae 0 (J c8) (J c8)).U (fun _=>
 (ae 0 (J de) (J de)).U (fun _=>
 (ae 0 (J dS) (J dS)).U (fun _=>
 some (Sum.inl ((i6,aI (J c8),i7,i5),(i8,i9,eW),(cT,cZ),(cU,ca),de,dS,c8)))))))
 (fun((g9,jq,gu,qh),(yI,lM,gy),(oW,mG),(jS,gv),n4,kl,tf)=>
 (da (aU .i64 (cu .i64 jq lM) gu) (J kl)).U (fun k36=>
 (bY kl (aC 0 k36)).U (fun kI=>
 (hZ (cu .i64 g9 kI) qh).U (fun qj=>
 (vA (qh,kI)).U (fun uK=>
 bD ((ae 0 (J tf) (J tf)).U (fun _=>
 (ae 0 (J n4) (J n4)).U (fun _=>
 (ae 0 (J kl) (J kl)).U (fun _=>
 bu NN (fun(((qk,mI,mJ,nf,rH,s0),(nV,rI,kM),(yJ,ql),(qm,wD),fo,gd,iH):((Int×(Int×(Int×(Int×(Int×Int)))))×((Int×(Int×(List Int)))×((Int×Int)×((Int×Int)×((List Int)×((List Int)×(List Int))))))))=>
 ak (bd s0 rI)
 ((da (aU .i64 (cu .i64 nf rI) s0) (J gd)).U (fun k56=>
 (bY gd (aC 0 k56)).U (fun PO=>
 (hZ (cu .i64 PO rH) qk).U (fun wE=>
 (da (aU .i64 (cu .i64 nf rI) s0) (J gd)).U (fun Qa=>
 (bY gd (aC 0 Qa)).U (fun uM=>
 (ae 0 (J iH) (J iH)).U (fun _=>
 (ae 0 (J fo) (J fo)).U (fun _=>
 (ae 0 (J gd) (J (bg gd (aC 0 Qa) wE))).U (fun _=>
 some (Sum.inl ((qk,mI,mJ,nf,rH,aU .i64 s0 1),(nV,rI,kM),(yJ,ql),(qm,wD),fo,bg gd (aC 0 Qa) wE,iH)))))))))))
 (((ae 0 (J iH) (J iH)).U (fun _=>
 (ae 0 (J fo) (J fo)).U (fun _=>
 (ae 0 (J gd) (J gd)).U (fun _=>
 some (Sum.inl ((mI,qk,mJ,nf),(nV,rI,kM),(yJ,ql),(qm,wD),fo,gd,iH)))))).U (fun Bt=>
 some (Sum.inr Bt))))
 ((qh,qj,gu,jq,uK,(0:Int)),(yI,lM,gy),(oW,mG),(jS,gv),n4,kl,tf)))))
 (fun((s6,qn,i64,s7),(wF,Ec,n5),(PQ,i70),(i71,i72),qx,ni,th)=>
 bD ((ae 0 (J th) (J th)).U (fun _=>
 (ae 0 (J qx) (J qx)).U (fun _=>
 (ae 0 (J ni) (J ni)).U (fun _=>
 bu NN (fun(((lN,uP,rJ,ng,ki),(yM,uQ,lS),(Bj,yN),(Bk,uR),nj,lT,n6):((Int×(Int×(Int×(Int×Int))))×((Int×(Int×(List Int)))×((Int×Int)×((Int×Int)×((List Int)×((List Int)×(List Int))))))))=>
 ak (bd ki yM)
 (ak (dt ki ng)
 ((da (aU .i64 (cu .i64 ki uQ) rJ) (J lT)).U (fun Qc=>
 (bY lT (aC 0 Qc)).U (fun PR=>
 (ae 0 (J lT) (J lT)).U (fun _=>
 (xJ (lN,(Bk,uR,lT),ki,ng,PR)).U (fun rN=>
 (ae 0 (J n6) (J n6)).U (fun _=>
 (ae 0 (J nj) (J nj)).U (fun _=>
 (ae 0 (J lT) (J rN)).U (fun _=>
 some (Sum.inl ((lN,uP,rJ,ng,aU .i64 ki 1),(yM,uQ,lS),(Bj,yN),(Bk,uR),nj,rN,n6))))))))))
 ((ae 0 (J n6) (J n6)).U (fun _=>
 (ae 0 (J nj) (J nj)).U (fun _=>
 (ae 0 (J lT) (J lT)).U (fun _=>
 some (Sum.inl ((lN,uP,rJ,ng,aU .i64 ki 1),(yM,uQ,lS),(Bj,yN),(Bk,uR),nj,lT,n6)))))))
 (((ae 0 (J n6) (J n6)).U (fun _=>
 (ae 0 (J nj) (J nj)).U (fun _=>
 (ae 0 (J lT) (J lT)).U (fun _=>
 some (Sum.inl ((rJ,lN,uP),(yM,uQ,lS),(Bj,yN),(Bk,uR),nj,lT,n6)))))).U (fun yZ=>
 some (Sum.inr yZ))))
 ((qn,s6,i64,s7,(0:Int)),(wF,Ec,n5),(PQ,i70),(i71,i72),qx,ni,th)))))
 (fun((Jd,i96,i97),(i98,i99,yV),(PG,Eb),(PH,PI),Qf,yW,te)=>
 (ae 0 (J te) (J te)).U (fun _=>
 (cd ((Jd::([]:List Int))) 0 1).U (fun wK=>
 (jL (aC (J te) (J wK)) 8).U (fun _=>
 (ae 0 (aC (J te) (J wK)) (J (dP te wK))).U (fun _=>
 (ae 0 (J Qf) (J Qf)).U (fun _=>
 (ae 0 (J yW) (J yW)).U (fun _=>
 some (Sum.inl ((Jd,i96,i97),(i98,i99,yV),(PG,Eb),(PH,PI),Qf,yW,dP te wK)))))))))))))))))))
 (fun((aiC,aaf,aag),(PK,PL,Bp),(aiD,aiE),(aiF,aiG),yX,Eo,Jo)=>
 (ae 0 (J Jo) (J Jo)).U (fun _=>
 (ae 0 (J yX) (J yX)).U (fun _=>
 (ae 0 (J Eo) (J Eo)).U (fun _=>
 some (Sum.inl ((aaf,aag,aU .i64 aiC 1),(PK,PL,Bp),(aiD,aiE),(aiF,aiG),yX,Eo,Jo)))))))
 (((ae 0 (J c8) (J c8)).U (fun _=>
 (ae 0 (J de) (J de)).U (fun _=>
 (ae 0 (J dS) (J dS)).U (fun _=>
 some (Sum.inl (i6,(cT,cZ),(cU,ca),de,dS,c8)))))).U (fun aaF=>
 some (Sum.inr aaF))))
 (((ae 0 (J c8) (J c8)).U (fun _=>
 (ae 0 (J de) (J de)).U (fun _=>
 (ae 0 (J dS) (J dS)).U (fun _=>
 some (Sum.inl (i6,(cT,cZ),(cU,ca),de,dS,c8)))))).U (fun aaG=>
 some (Sum.inr aaG))))
 ((i0,(1:Int),(0:Int)),(i1,i2,l3),((0:Int),(0:Int)),(i1,i2),([]:List Int),l4,([]:List Int))))))
 (fun(aiH,(aq4,aq5),(aiI,aiJ),aaK,aaL,aaM)=>
 (c9 aaL (J aaL)).U (fun akp=>
 (c9 aaM (J aaM)).U (fun akq=>
 some ((aiI,aiJ,akp),akq,aiH))))))
def FW (NN:Nat):(Int×(Int×(Int×(List Int))))->(Option ((Int×(Int×(List Int)))×(List Int))):=
 (fun((i0,i1,i2,l3):(Int×(Int×(Int×(List Int)))))=>
 (zI (i1,i2,l3)).U (fun(i4,i5,l6)=>
 bD ((ae 0 0 (J (([]:List Int)))).U (fun _=>
 (ae 0 0 (J (([]:List Int)))).U (fun _=>
 (ae 0 (J l6) (J l6)).U (fun _=>
 bu NN (fun(((i7,i8),(i9,cr),(cT,cZ),iF,e9,de):((Int×Int)×((Int×Int)×((Int×Int)×((List Int)×((List Int)×(List Int)))))))=>
 ak (bd i8 cZ)
 (bD (bD ((ae 0 (J de) (J de)).U (fun _=>
 (ae 0 (J iF) (J iF)).U (fun _=>
 (ae 0 (J e9) (J e9)).U (fun _=>
 bu NN (fun(((eO,gn,gp,gJ),(g8,jR),(g9,jq),fE,dL,dr):((Int×(Int×(Int×Int)))×((Int×Int)×((Int×Int)×((List Int)×((List Int)×(List Int)))))))=>
 ak (bd gJ g9)
 ((cd dL 0 (J dL)).U (fun gL=>
 (lY ((g9,jq,gL),gJ,gn)).U (fun wC=>
 ak (bL wC (0:Int))
 ((ae 0 (J dr) (J dr)).U (fun _=>
 (ae 0 (J fE) (J fE)).U (fun _=>
 (ae 0 (J dL) (J dL)).U (fun _=>
 some (Sum.inl ((eO,gn,gp,aU .i64 gJ 1),(g8,jR),(g9,jq),fE,dL,dr))))))
 (((ae 0 (J dr) (J dr)).U (fun _=>
 (ae 0 (J fE) (J fE)).U (fun _=>
 (ae 0 (J dL) (J dL)).U (fun _=>
 some (Sum.inl ((gJ,gp,gn,eO),(g8,jR),(g9,jq),fE,dL,dr)))))).U (fun nY=>
 some (Sum.inr nY))))))
 (((ae 0 (J dr) (J dr)).U (fun _=>
 (ae 0 (J fE) (J fE)).U (fun _=>
 (ae 0 (J dL) (J dL)).U (fun _=>
 some (Sum.inl ((gJ,gp,gn,eO),(g8,jR),(g9,jq),fE,dL,dr)))))).U (fun nZ=>
 some (Sum.inr nZ))))
 ((i7,i8,aI (J de),aI (J de)),(i9,cr),(cT,cZ),iF,e9,de)))))
 (fun((jS,gv,gK,qi),(mH,uJ),(kI,qj),iG,iZ,kL)=>
 ak (bL jS kI)
 ((ae 0 (J kL) (J kL)).U (fun _=>
 (ae 0 (J iG) (J iG)).U (fun _=>
 (ae 0 (J iZ) (J iZ)).U (fun _=>
 some (Sum.inl ((gK,qi),(mH,uJ),(kI,qj),iG,iZ,kL))))))
 ((ae 0 (J iZ) (J iZ)).U (fun _=>
 (zD ((kI,qj,iZ),gv,jS)).U (fun tg=>
 (cd tg 0 (J iZ)).U (fun ja=>
 (lY ((kI,qj,ja),gv,gK)).U (fun rH=>
 (zN (qi,rH)).U (fun s0=>
 bD ((ae 0 (J kL) (J kL)).U (fun _=>
 (ae 0 (J iG) (J iG)).U (fun _=>
 (ae 0 (J iZ) (J tg)).U (fun _=>
 bu NN (fun(((nV,rI,uL,yJ,ql),(qm,wD),(Bh,yK),iH,iI,jw):((Int×(Int×(Int×(Int×Int))))×((Int×Int)×((Int×Int)×((List Int)×((List Int)×(List Int)))))))=>
 ak (bd ql yK)
 ((cd iI 0 (J iI)).U (fun yY=>
 (lY ((Bh,yK,yY),uL,ql)).U (fun PP=>
 (hZ (cu .i64 PP yJ) nV).U (fun uM=>
 (ae 0 (J iI) (J iI)).U (fun _=>
 (qW ((Bh,yK,iI),uL,ql,uM)).U (fun Bt=>
 (ae 0 (J jw) (J jw)).U (fun _=>
 (ae 0 (J iH) (J iH)).U (fun _=>
 (ae 0 (J iI) (J Bt)).U (fun _=>
 some (Sum.inl ((nV,rI,uL,yJ,aU .i64 ql 1),(qm,wD),(Bh,yK),iH,Bt,jw)))))))))))
 (((ae 0 (J jw) (J jw)).U (fun _=>
 (ae 0 (J iH) (J iH)).U (fun _=>
 (ae 0 (J iI) (J iI)).U (fun _=>
 some (Sum.inl ((nV,rI,uL),(qm,wD),(Bh,yK),iH,iI,jw)))))).U (fun l62=>
 some (Sum.inr l62))))
 ((qi,gK,gv,s0,(0:Int)),(mH,uJ),(kI,qj),iG,tg,kL)))))
 (fun((qn,i64,s7),(wF,Ec),(i68,PQ),jU,kN,mM)=>
 bD ((ae 0 (J mM) (J mM)).U (fun _=>
 (ae 0 (J jU) (J jU)).U (fun _=>
 (ae 0 (J kN) (J kN)).U (fun _=>
 bu NN (fun(((uN,uO,yL,lN),(uP,rJ),(ng,ki),qy,lR,lS):((Int×(Int×(Int×Int)))×((Int×Int)×((Int×Int)×((List Int)×((List Int)×(List Int)))))))=>
 ak (bd lN ng)
 (ak (dt lN yL)
 ((cd lR 0 (J lR)).U (fun l84=>
 (lY ((ng,ki,l84),lN,uO)).U (fun yN=>
 ak (dt yN (0:Int))
 ((cd lR 0 (J lR)).U (fun Es=>
 (lY ((ng,ki,Es),lN,uO)).U (fun uR=>
 (ae 0 (J lR) (J lR)).U (fun _=>
 (xE ((ng,ki,lR),uN,lN,yL,dV .i64 uN uR)).U (fun nj=>
 (ae 0 (J lS) (J lS)).U (fun _=>
 (ae 0 (J qy) (J qy)).U (fun _=>
 (ae 0 (J lR) (J nj)).U (fun _=>
 some (Sum.inl ((uN,uO,yL,aU .i64 lN 1),(uP,rJ),(ng,ki),qy,nj,lS))))))))))
 ((ae 0 (J lS) (J lS)).U (fun _=>
 (ae 0 (J qy) (J qy)).U (fun _=>
 (ae 0 (J lR) (J lR)).U (fun _=>
 some (Sum.inl ((uN,uO,yL,aU .i64 lN 1),(uP,rJ),(ng,ki),qy,lR,lS)))))))))
 ((ae 0 (J lS) (J lS)).U (fun _=>
 (ae 0 (J qy) (J qy)).U (fun _=>
 (ae 0 (J lR) (J lR)).U (fun _=>
 some (Sum.inl ((uN,uO,yL,aU .i64 lN 1),(uP,rJ),(ng,ki),qy,lR,lS)))))))
 (((ae 0 (J lS) (J lS)).U (fun _=>
 (ae 0 (J qy) (J qy)).U (fun _=>
 (ae 0 (J lR) (J lR)).U (fun _=>
 some (Sum.inl ((uO,uN),(uP,rJ),(ng,ki),qy,lR,lS)))))).U (fun lT=>
 some (Sum.inr lT))))
 ((qn,i64,s7,(0:Int)),(wF,Ec),(i68,PQ),jU,kN,mM)))))
 (fun((i90,i91),(PR,i93),(i94,Jd),y3,uV,oZ)=>
 (ae 0 (J oZ) (J oZ)).U (fun _=>
 (cd ((i90::([]:List Int))) 0 1).U (fun wO=>
 (jL (aC (J oZ) (J wO)) 8).U (fun _=>
 (ae 0 (aC (J oZ) (J wO)) (J (dP oZ wO))).U (fun _=>
 (ae 0 (J y3) (J y3)).U (fun _=>
 (ae 0 (J uV) (J uV)).U (fun _=>
 some (Sum.inl ((i90,i91),(PR,i93),(i94,Jd),y3,uV,dP oZ wO))))))))))))))))))
 (fun((aiy,PG),(Eb,PH),(PI,PJ),yW,te,wK)=>
 (ae 0 (J wK) (J wK)).U (fun _=>
 (ae 0 (J yW) (J yW)).U (fun _=>
 (ae 0 (J te) (J te)).U (fun _=>
 some (Sum.inl ((PG,aU .i64 aiy 1),(Eb,PH),(PI,PJ),yW,te,wK)))))))
 (((ae 0 (J de) (J de)).U (fun _=>
 (ae 0 (J iF) (J iF)).U (fun _=>
 (ae 0 (J e9) (J e9)).U (fun _=>
 some (Sum.inl ((i9,cr),(cT,cZ),iF,e9,de)))))).U (fun Qg=>
 some (Sum.inr Qg))))
 ((i0,(0:Int)),((0:Int),(0:Int)),(i4,i5),([]:List Int),l6,([]:List Int))))))
 (fun((aaf,aag),(PK,PL),Bp,Bq,wL)=>
 (c9 Bq (J Bq)).U (fun Em=>
 (c9 wL (J wL)).U (fun En=>
 some ((PK,PL,Em),En))))))
theorem adt (P:Nat->Prop) [DecidablePred P]:∀c:Nat,∃n,n<=c/\(∀j,j<n->P j)/\(n=c\/¬P n)
 |0=>⟨0,Nat.le_refl 0,fun j hj=>absurd hj (Nat.not_lt_zero j),.inl rfl⟩
 |c+1=>by
  obtain⟨n,h1,h2,h3⟩:=adt P c
  by_cases h:P n
  ·rcases h3 with h3|h3
   ·subst h3
    refine⟨n+1,Nat.le_refl _,fun j hj=>?_,.inl rfl⟩
    by_cases jn:j=n
    ·subst jn;exact h
    ·exact h2 j (by omega)
   ·exact absurd h h3
  ·exact⟨n,by omega,h2,.inr h⟩
theorem KB {p:Int} {r c:Nat} {M:bR} (hM:fC p r c M) {a b:Nat} (ha:a<r) (hb:b<r):fC p r c (ff M a b):=by
 intro i hi j hj
 unfold ff
 split
 ·exact hM b hb j hj
 ·split
  ·exact hM a ha j hj
  ·exact hM i hi j hj
theorem aqc (M:bR) (a:Nat):ff M a a=M:=by
 funext i j
 unfold ff
 split
 ·rename_i h;rw[h]
 ·rfl
theorem acx {p inv:Int} {r c:Nat} {M:bR} (hp:eo p) (hM:fC p r c M) (t:Nat):fC p r c (u9 p inv M t):=by
 intro i hi j hj
 unfold u9
 split
 ·exact tY hp _
 ·exact hM i hi j hj
theorem MJ {p:Int} {r c:Nat} {M:bR} (hp:eo p) (hM:fC p r c M) (t k n:Nat):fC p r c (fj p M t k n):=by
 intro i hi j hj
 unfold fj
 split
 ·exact tY hp _
 ·exact hM i hi j hj
theorem Sc {p:Int} (hp:eo p):gw p 1:=⟨by omega,by have:=hp.1;omega⟩
theorem Si {p:Int} {r c:Nat} {M:bR} (hp:eo p) (hM:fC p r c M) {t k:Nat} (ht:t<r) (hk:k<r) (j:Nat):fC p r c (qE p M t j k):=acx hp (KB hM ht hk) t
structure RI (p:Int) (r c:Nat) (s:bR×List Int×Int) (j:Nat):Prop where
 m:fC p r c s.1
 l:s.2.1.length<=r
 lj:s.2.1.length<=j
 d:gw p s.2.2
 e:∀x∈s.2.1,0<=x/\x<(j:Int)
theorem RI.step {p:Int} {r c:Nat} {s:bR×List Int×Int} {j:Nat} (hp:eo p) (h:RI p r c s j):RI p r c (mS p r s j) (j+1):=by
 have eV:RI p r c s (j+1):=⟨h.m,h.l,by have:=h.lj;omega,h.d,fun x hx=>by have:=h.e x hx;omega⟩
 unfold mS
 split
 ·rename_i hl
  split
  ·exact eV
  ·rename_i k hk
   have hq:=EM hk
   refine⟨MJ hp (Si hp h.m hl (by omega) j) _ _ _,?_,?_,tY hp _,?_⟩
   ·simp only[List.length_append,List.length_cons,List.length_nil];omega
   ·have:=h.lj
    simp only[List.length_append,List.length_cons,List.length_nil];omega
   ·intro x hx
    simp only[List.mem_append,List.mem_singleton] at hx
    rcases hx with hx|rfl
    ·have:=h.e x hx;omega
    ·omega
 ·exact eV
theorem B2 {p:Int} {r c:Nat} {M:bR} (hp:eo p) (hM:fC p r c M):∀j,RI p r c (dM p r M j) j
 |0=>⟨hM,Nat.zero_le _,Nat.le_refl 0,Sc hp,fun x hx=>absurd hx (List.not_mem_nil)⟩
 |j+1=>(B2 hp hM j).step hp
theorem ab3 {p:Int} {r:Nat} {M:bR} {n:Nat} (h:¬(dM p r M n).2.1.length<r):∀d,dM p r M (n+d)=dM p r M n
 |0=>rfl
 |d+1=>by
  have ih:=ab3 h d
  show mS p r (dM p r M (n+d)) (n+d)=_
  rw[ih,mS,if_neg h]
theorem acB {r c:Nat} {p inv:Int} (M:bR) (t n:Nat):aB r c (lW (vb p inv M t n) t n (M t n*inv%p))=aB r c (vb p inv M t (n+1)):=by
 refine mw fun a _ b _=>?_
 unfold lW vb
 by_cases h:a=t/\b=n
 ·obtain⟨rfl,rfl⟩:=h
  simp
 ·rw[if_neg h]
  by_cases h1:a=t/\b<n
  ·rw[if_pos h1,if_pos ⟨h1.1,by omega⟩]
  ·rw[if_neg h1,if_neg (by omega)]
theorem acy {p inv:Int} (M:bR) (t:Nat):vb p inv M t 0=M:=by funext a b;exact if_neg (by omega)
theorem acA {p inv:Int} (M:bR) (t n:Nat):vb p inv M t n t n=M t n:=if_neg (by omega)
theorem acz {r c:Nat} {p inv:Int} (M:bR) (t:Nat):aB r c (vb p inv M t c)=aB r c (u9 p inv M t):=by
 refine mw fun a _ b hb=>?_
 unfold vb u9
 by_cases h:a=t
 ·rw[if_pos ⟨h,hb⟩,if_pos h]
 ·rw[if_neg (fun q=>h q.1),if_neg h]
theorem MI {p:Int} (M:bR) (t j:Nat):fj p M t j 0=M:=by funext a b;exact if_neg (by omega)
theorem C2 {p:Int} (M:bR) (t j n b:Nat):fj p M t j n n b=M n b:=if_neg (by omega)
theorem XN {p:Int} (M:bR) (t j n b:Nat):fj p M t j n t b=M t b:=if_neg (by omega)
theorem MK {p:Int} (M:bR) (t j:Nat):fj p M t j (t+1)=fj p M t j t:=by
 funext a b
 unfold fj
 by_cases h:a<t
 ·rw[if_pos (by omega),if_pos (by omega)]
 ·rw[if_neg (by omega),if_neg (by omega)]
theorem XO {r c:Nat} {p:Int} (M:bR) (t j n:Nat) (hn:n≠t):aB r c (oH p (fj p M t j n) n t (p - M n j))=aB r c (fj p M t j (n+1)):=by
 refine mw fun a _ b _=>?_
 unfold oH
 by_cases h:a=n
 ·subst h
  rw[if_pos rfl,C2,XN]
  exact(if_pos ⟨by omega,hn⟩).symm
 ·rw[if_neg h]
  unfold fj
  by_cases h1:a<n/\a≠t
  ·rw[if_pos h1,if_pos ⟨by omega,h1.2⟩]
  ·rw[if_neg h1,if_neg (by omega)]
theorem aeW {r c:Nat} {p:Int} (M:bR) (t j n:Nat) (hM:fC p r c M) (h0:M n j=0):aB r c (fj p M t j n)=aB r c (fj p M t j (n+1)):=by
 refine mw fun a ha b hb=>?_
 unfold fj
 by_cases h:a=n
 ·subst h
  rw[if_neg (by omega)]
  by_cases ht:a=t
  ·rw[if_neg (by omega)]
  ·rw[if_pos ⟨by omega,ht⟩,h0,Int.sub_zero,Int.add_mul_emod_self_left]
   exact(Int.emod_eq_of_lt (hM a ha b hb).1 (hM a ha b hb).2).symm
 ·by_cases h1:a<n/\a≠t
  ·rw[if_pos h1,if_pos ⟨by omega,h1.2⟩]
  ·rw[if_neg h1,if_neg (by omega)]
theorem Sh {M:bR} {j:Nat}:∀{d k:Nat},iM M j d k=none->∀i,k<=i->i<k+d->M i j=0
 |0,k,_,i,h1,h2=>by omega
 |d+1,k,h,i,h1,h2=>by
  simp only[iM] at h
  split at h
  ·rename_i h0
   by_cases hi:i=k
   ·rw[hi];exact h0
   ·exact Sh h i (by omega) (by omega)
  ·cases h
theorem abG {M:bR} {j q:Nat}:∀{d k:Nat},iM M j d k=some q->∀i,k<=i->i<q->M i j=0
 |0,k,h,i,h1,h2=>by cases h
 |d+1,k,h,i,h1,h2=>by
  simp only[iM] at h
  split at h
  ·rename_i h0
   by_cases hi:i=k
   ·rw[hi];exact h0
   ·exact abG h i (by omega) h2
  ·have:=Option.some.inj h;omega
theorem ap9 {p d:Int} (hp:eo p) (hd:gw p d):hZ (dV .i64 p d) p=some ((p - d)%p):=by
 have h1:=hp.1;have h2:=hp.2;have h3:=hd.1;have h4:=hd.2
 rw[kV (by omega) (by omega),ER (by omega) (by omega)]
theorem Sp {p:Int} {r:Nat} {s:bR×List Int×Int} {j:Nat} (hl:s.2.1.length<r) (h:iM s.1 j (r - s.2.1.length) s.2.1.length=none):mS p r s j=s:=by
 unfold mS
 rw[if_pos hl,h]
theorem Sq {p:Int} {r:Nat} {s:bR×List Int×Int} {j k:Nat} (hl:s.2.1.length<r) (h:iM s.1 j (r - s.2.1.length) s.2.1.length=some k):
  mS p r s j=(fj p (qE p s.1 s.2.1.length j k) s.2.1.length j r,s.2.1++[(j:Int)],B1 p s.1 s.2.1.length j k s.2.2):=by
 unfold mS
 rw[if_pos hl,h]
theorem aiW {p x:Int} (hp:eo p) (hx:gw p x):vA (p,x)=some (io p 1 x (p - 2).toNat):=if_pos ⟨hp,hx⟩
theorem aiU {p x:Int} (hp:eo p) (hx:gw p x):zN (p,x)=some (io p 1 x (p - 2).toNat):=if_pos ⟨hp,hx⟩
theorem WD {r c:Nat} (M M':bR):cd (aB r c M) 0 (J (aB r c M'))=some (aB r c M):=KS (by rw[wP];exact(mz r c M))
theorem aeY {α:Type} {b:Bool} {u v x:α} (h1:b=true->u=x) (h2:b=false->v=x):ak b u v=x:=by
 cases b
 ·exact h2 rfl
 ·exact h1 rfl
section
variable {p:Int} {r c:Nat} {M0:bR}
abbrev V7 (p:Int) (r c:Nat) (L0:List Int) (s:bR×List Int×Int) (j:Nat):(Int×Int×Int)×(Int×Int×List Int)×(Int×Int)×(Int×Int)×List Int×List Int×List Int:=
 ((p,s.2.2,(j:Int)),((r:Int),(c:Int),L0),((0:Int),(0:Int)),((r:Int),(c:Int)),([]:List Int),aB r c s.1,s.2.1)
theorem ahA (hp:eo p) (hr:r<=4096) (hc:c<=4096) (db:r*c<=1048576) (hM:fC p r c M0):
  F3 az (p,(r:Int),(c:Int),aB r c M0)=some (((r:Int),(c:Int),aB r c (dM p r M0 c).1),(dM p r M0 c).2.1,(dM p r M0 c).2.2):=by
 obtain⟨n,hn,bB,v5⟩:=adt (fun j=>(dM p r M0 j).2.1.length<r) c
 have ahV:dM p r M0 c=dM p r M0 n:=by
  rcases v5 with e|e
  ·rw[e]
  ·obtain⟨d,rfl⟩:∃d,c=n+d:=⟨c - n,by omega⟩
   exact ab3 e d
 rw[ahV]
 have hlen:(aB r c M0).length<=1099511627776:=by rw[mz];omega
 simp only[F3,nG,if_pos hlen,aw,bW]
 rw[ef (r:=Sum.inl ((dM p r M0 n).2.2,((0:Int),(0:Int)),((r:Int),(c:Int)),([]:List Int),aB r c (dM p r M0 n).1,(dM p r M0 n).2.1)) (fun j=>V7 p r c (aB r c M0) (dM p r M0 j) j) n ?_ ?_ ?_ (cX (by omega))]
 ·rw[show ae 0 0 (J ([]:List Int))=some () from rfl];simp only[aw];rw[eU];simp only[gO,aw]
 ·intro j hj
  have hI:=B2 hp hM (r:=r) (c:=c) j
  have hl:=bB j hj
  generalize hs:dM p r M0 j=s at hI hl⊢
  have hS:dM p r M0 (j+1)=mS p r s j:=by rw[<-hs];rfl
  obtain⟨M,L,d⟩:=s
  simp only at hl
  have oP:fC p r c M:=hI.m
  have Zm:gw p d:=hI.d
  simp only[V7]
  rw[aH (jV (show j<c by omega)),aH (show bd (aI (J L)) (r:Int)=true from jV hl)]
  simp only[ky,aw]
  rw[show aI (J L)=((L.length:Nat):Int) from rfl,abI hr hc db (show L.length<=r by omega) (show j<c by omega),aw]
  cases hk:iM M j (r - L.length) L.length with
  |none=>
   rw[hS,Sp (s:=(M,L,d)) hl hk,aH (show bd (uZ none) 0=true from rfl),eU]
   simp only[gT (show j<=1048577 by omega)]
  |some k=>
   obtain⟨sV,jp,hq3⟩:=EM hk
   have ry:k<r:=by omega
   rw[hS,Sq (s:=(M,L,d)) hl hk,aK (show bd (uZ (some k)) 0=false from cP (by show(0:Int)<=(k:Int);omega))]
   have sP:=KB oP hl ry
   have hx:=sP L.length hl j (by omega)
   have wa:=aar hp (p - 2).toNat 1 (ff M L.length k L.length j) (Sc hp)
   have hd':gw p (if k=L.length then d else(p - d)%p):=by split;exact Zm;exact tY hp _
   rw[aeY (b:=dt (uZ (some k)) ((L.length:Nat):Int)) (x:=some (Sum.inl (((if k=L.length then d else(p - d)%p),((L.length:Nat):Int),(j:Int),p),((r:Int),(c:Int),aB r c M0),((0:Int),(0:Int)),((r:Int),(c:Int)),([]:List Int),aB r c (ff M L.length k),L))) ?_ ?_]
   ·rw[eU]
    simp only[qp (show L.length<=1048576 by omega) (show c<=1048576 by omega) (show j<=1048576 by omega),tS _ hl (show j<c by omega),aw,eZ,ug _ hl (show j<c by omega)]
    rw[BG hp hd'.le hx.le,aw,aiW hp hx,aw]
    rw[ef (r:=Sum.inl ((B1 p M L.length j k d,p,(j:Int),((L.length:Nat):Int)),((r:Int),(c:Int),aB r c M0),((0:Int),(0:Int)),((r:Int),(c:Int)),([]:List Int),aB r c (qE p M L.length j k),L)) (fun b=>((p,B1 p M L.length j k d,(j:Int),((L.length:Nat):Int),io p 1 (ff M L.length k L.length j) (p - 2).toNat,(b:Int)),((r:Int),(c:Int),aB r c M0),((0:Int),(0:Int)),((r:Int),(c:Int)),([]:List Int),aB r c (vb p (io p 1 (ff M L.length k L.length j) (p - 2).toNat) (ff M L.length k) L.length b),L)) c ?_ ?_ ?_ (cX (by omega))]
    ·rw[eU]
     simp only
     have hP:fC p r c (qE p M L.length j k):=Si hp oP hl ry j
     generalize qE p M L.length j k=P at hP⊢
     generalize hD:B1 p M L.length j k d=D
     rw[ef (r:=Sum.inl (((j:Int),p,D),((r:Int),(c:Int),aB r c M0),((0:Int),(0:Int)),((r:Int),(c:Int)),([]:List Int),aB r c (fj p P L.length j r),L)) (fun a=>((p,D,(j:Int),((L.length:Nat):Int),(a:Int)),((r:Int),(c:Int),aB r c M0),((0:Int),(0:Int)),((r:Int),(c:Int)),([]:List Int),aB r c (fj p P L.length j a),L)) r ?_ ?_ ?_ (cX (by omega))]
     ·rw[eU]
      simp only
      rw[KS (xs:=[(j:Int)]) (n:=1) rfl,aw,nO (by simp only[aC,J,dA,List.length_cons,List.length_nil];omega),aw,Ql,bW,aw,eU]
      simp only[gT (show j<=1048577 by omega),<-hD]
      rfl
     ·intro a ha
      simp only
      rw[aH (jV ha)]
      by_cases cg:a=L.length
      ·rw[aK (np (by omega))]
       simp only[gT (show a<=1048577 by omega)]
       rw[cg,MK]
      ·rw[aH (n9 (by omega))]
       simp only[qp (show a<=1048576 by omega) (show c<=1048576 by omega) (show j<=1048576 by omega),tS _ ha (show j<c by omega),aw,eZ,ug _ ha (show j<c by omega),C2]
       rw[XL hp hr hc db ha hl (hP a ha j (by omega)).le (MJ hp hP _ _ _)]
       simp only[aw,pY,gT (show a<=1048577 by omega)]
       rw[XO P L.length j a cg]
     ·simp only
      rw[aK (jz (Nat.le_refl r))]
     ·rw[MI]
      rfl
    ·intro b hb
     simp only
     rw[aH (jV hb)]
     simp only[qp (show L.length<=1048576 by omega) (show c<=1048576 by omega) (show b<=1048576 by omega),tS _ hl hb,aw,eZ,ug _ hl hb,acA]
     rw[BG hp (sP L.length hl b hb).le wa.le]
     simp only[aw,E6 _ hb,pY,acB,gT (show b<=1048577 by omega)]
    ·simp only
     rw[aK (jz (Nat.le_refl c)),acz]
     rfl
    ·rw[acy]
     rfl
   ·intro aE
    have ah9:k≠L.length:=by
     intro q;subst q;rw[show dt (uZ (some L.length)) ((L.length:Nat):Int)=false from np rfl] at aE;cases aE
    rw[if_neg ah9,show uZ (some k)=(k:Int) from rfl,KC hr hc db hl ry,aw,ap9 hp Zm]
    simp only[aw,pY]
   ·intro dI
    have ZC:k=L.length:=by
     by_cases q:k=L.length
     ·exact q
     ·rw[show dt (uZ (some k)) ((L.length:Nat):Int)=true from n9 (by show((k:Nat):Int)≠_;omega)] at dI;cases dI
    rw[if_pos ZC,ZC,aqc]
 ·simp only[V7]
  by_cases qd:n=c
  ·subst qd
   rw[aK (jz (Nat.le_refl n))]
  ·have he:r<=(dM p r M0 n).2.1.length:=by
    rcases v5 with e|e
    ·exact absurd e qd
    ·exact Nat.le_of_not_lt e
   rw[aH (jV (show n<c by omega)),aK (show bd (aI (J (dM p r M0 n).2.1)) (r:Int)=false from jz he)]
 ·rfl
end
section
variable {p:Int} {r c:Nat} {M0:bR}
abbrev V6 (p:Int) (r c:Nat) (s:bR×List Int×Int) (j:Nat):(Int×Int)×(Int×Int)×(Int×Int)×List Int×List Int×List Int:=
 ((p,(j:Int)),((0:Int),(0:Int)),((r:Int),(c:Int)),([]:List Int),aB r c s.1,s.2.1)
theorem ahz (hp:eo p) (hr:r<=4096) (hc:c<=4096) (db:r*c<=1048576) (hM:fC p r c M0):
  FW az (p,(r:Int),(c:Int),aB r c M0)=some (((r:Int),(c:Int),aB r c (dM p r M0 c).1),(dM p r M0 c).2.1):=by
 have hlen:(aB r c M0).length<=1099511627776:=by rw[mz];omega
 simp only[FW,zI,if_pos hlen,aw,bW]
 rw[ef (r:=Sum.inl (((0:Int),(0:Int)),((r:Int),(c:Int)),([]:List Int),aB r c (dM p r M0 c).1,(dM p r M0 c).2.1)) (fun j=>V6 p r c (dM p r M0 j) j) c ?_ ?_ ?_ (cX (by omega))]
 ·rw[show ae 0 0 (J ([]:List Int))=some () from rfl];simp only[aw];rw[eU];simp only[gO,aw]
 ·intro j hj
  have hI:=B2 hp hM (r:=r) (c:=c) j
  generalize hs:dM p r M0 j=s at hI⊢
  have hS:dM p r M0 (j+1)=mS p r s j:=by rw[<-hs];rfl
  obtain⟨M,L,d⟩:=s
  have oP:fC p r c M:=hI.m
  have kF:L.length<=r:=hI.l
  have hlj:L.length<=j:=hI.lj
  simp only[V6]
  rw[aH (jV hj)]
  have apA:∃k:Nat,L.length<=k/\k<=r/\(∀i,L.length<=i->i<k->M i j=0)/\((k=r/\mS p r (M,L,d) j=(M,L,d))\/(k<r/\M k j≠0/\L.length<r/\mS p r (M,L,d) j=(fj p (qE p M L.length j k) L.length j r,L++[(j:Int)],B1 p M L.length j k d))):=by
   by_cases hl:L.length<r
   ·cases hk:iM M j (r - L.length) L.length with
    |none=>exact⟨r,kF,Nat.le_refl r,fun i h1 h2=>Sh hk i h1 (by omega),.inl ⟨rfl,Sp (s:=(M,L,d)) hl hk⟩⟩
    |some k=>
     obtain⟨q1,q2,q3⟩:=EM hk
     exact⟨k,q1,by omega,fun i h1 h2=>abG hk i h1 h2,.inr ⟨by omega,q3,hl,Sq (s:=(M,L,d)) hl hk⟩⟩
   ·refine⟨r,kF,Nat.le_refl r,fun i h1 h2=>by omega,.inl ⟨rfl,?_⟩⟩
    unfold mS
    exact if_neg hl
  obtain⟨k,IX,ZL,hk3,ZM⟩:=apA
  rw[ef (r:=Sum.inl (((k:Int),((L.length:Nat):Int),(j:Int),p),((0:Int),(0:Int)),((r:Int),(c:Int)),([]:List Int),aB r c M,L)) (fun e=>((p,(j:Int),((L.length:Nat):Int),((L.length+e:Nat):Int)),((0:Int),(0:Int)),((r:Int),(c:Int)),([]:List Int),aB r c M,L)) (k - L.length) ?_ ?_ ?_ (cX (by omega))]
  ·rw[eU]
   simp only
   rcases ZM with⟨ry,OA⟩|⟨ry,aE,hl,OA⟩
   ·rw[hS,OA,aH (rj (by omega)),eU]
    simp only[gT (show j<=1048577 by omega)]
   ·rw[hS,OA,aK (rh (by omega))]
    have sP:=KB oP hl ry
    have hx:=sP L.length hl j hj
    have wa:=aar hp (p - 2).toNat 1 (ff M L.length k L.length j) (Sc hp)
    rw[show zD (((r:Int),(c:Int),aB r c M),((L.length:Nat):Int),(k:Int))=some (aB r c (ff M L.length k)) from KC hr hc db hl ry,aw,WD,aw,qY hr hc db hl hj,aw,aiU hp hx,aw]
    simp only[pY,aw]
    rw[ef (r:=Sum.inl ((p,(j:Int),((L.length:Nat):Int)),((0:Int),(0:Int)),((r:Int),(c:Int)),([]:List Int),aB r c (qE p M L.length j k),L)) (fun b=>((p,(j:Int),((L.length:Nat):Int),io p 1 (ff M L.length k L.length j) (p - 2).toNat,(b:Int)),((0:Int),(0:Int)),((r:Int),(c:Int)),([]:List Int),aB r c (vb p (io p 1 (ff M L.length k L.length j) (p - 2).toNat) (ff M L.length k) L.length b),L)) c ?_ ?_ ?_ (cX (by omega))]
    ·rw[eU]
     simp only
     have hP:fC p r c (qE p M L.length j k):=Si hp oP hl ry j
     generalize qE p M L.length j k=P at hP⊢
     rw[ef (r:=Sum.inl (((j:Int),p),((0:Int),(0:Int)),((r:Int),(c:Int)),([]:List Int),aB r c (fj p P L.length j r),L)) (fun a=>((p,(j:Int),((L.length:Nat):Int),(a:Int)),((0:Int),(0:Int)),((r:Int),(c:Int)),([]:List Int),aB r c (fj p P L.length j a),L)) r ?_ ?_ ?_ (cX (by omega))]
     ·rw[eU]
      simp only
      rw[KS (xs:=[(j:Int)]) (n:=1) rfl,aw,nO (by simp only[aC,J,dA,List.length_cons,List.length_nil];omega),aw,Ql,bW,aw,eU]
      simp only[gT (show j<=1048577 by omega)]
      rfl
     ·intro a ha
      simp only
      rw[aH (jV ha)]
      by_cases cg:a=L.length
      ·rw[aK (np (by omega))]
       simp only[gT (show a<=1048577 by omega)]
       rw[cg,MK]
      ·rw[aH (n9 (by omega)),WD,aw,qY hr hc db ha hj,aw,C2]
       have II:=hP a ha j hj
       by_cases h0:P a j=0
       ·rw[aK (np h0)]
        simp only[gT (show a<=1048577 by omega)]
        rw[aeW P L.length j a hP h0]
       ·rw[aH (n9 h0),aw,qY hr hc db ha hj,aw,C2]
        have hs:dV .i64 p (P a j)=p - P a j:=by
         have h1:=hp.1;have h2:=hp.2;have h3:=II.1;have h4:=II.2
         exact kV (by omega) (by omega)
        rw[hs,WZ hp hr hc db ha hl (by have h3:=II.1;have h4:=II.2;omega) (MJ hp hP _ _ _)]
        simp only[aw,pY,gT (show a<=1048577 by omega)]
        rw[XO P L.length j a cg]
     ·simp only
      rw[aK (jz (Nat.le_refl r))]
     ·rw[MI]
      rfl
    ·intro b hb
     simp only
     rw[aH (jV hb),WD,aw,qY hr hc db hl hb,aw,acA,BG hp (sP L.length hl b hb).le wa.le,aw,Ca hr hc db hl hb]
     simp only[aw,pY,acB,gT (show b<=1048577 by omega)]
    ·simp only
     rw[aK (jz (Nat.le_refl c)),acz]
     rfl
    ·rw[acy]
     rfl
  ·intro e he
   simp only
   rw[aH (jV (show L.length+e<r by omega)),ky,aw,qY hr hc db (show L.length+e<r by omega) hj,aw,aH (rj (hk3 _ (by omega) (by omega)))]
   simp only[gT (show L.length+e<=1048577 by omega)]
   rfl
  ·have e1:L.length+(k - L.length)=k:=by omega
   simp only[e1]
   by_cases ry:k<r
   ·have aE:M k j≠0:=by
     rcases ZM with⟨h1,_⟩|⟨_,h1,_⟩
     ·omega
     ·exact h1
    rw[aH (jV ry),ky,aw,qY hr hc db ry hj,aw,aK (rh aE)]
   ·rw[aK (jz (by omega))]
  ·rfl
 ·simp only[V6]
  rw[aK (jz (Nat.le_refl c))]
 ·rfl
end
theorem So {x:Int×Int×Int×List Int} (h:zh x):∃(p:Int) (r c:Nat) (M:bR),x=(p,(r:Int),(c:Int),aB r c M)/\eo p/\r<=4096/\c<=4096/\r*c<=1048576/\fC p r c M/\M=fY c (aB r c M):=by
 obtain⟨p,x⟩:=x
 obtain⟨hp,hm,ha⟩:=h
 obtain⟨r,c,M,rfl,h1,h2,h3⟩:=wR hm
 simp only at hp ha
 have e:aB r c (fY c (aB r c M))=aB r c M:=AM (mz r c M)
 exact⟨p,r,c,fY c (aB r c M),by rw[e],hp,h1,h2,h3,pH.1 (by rw[e];exact ha),by rw[e]⟩
theorem ahi (x:Int×Int×Int×List Int) (y:(Int×Int×List Int)×List Int×Int) (h:xM x=some y):F3 az x=some y:=by
 simp only[xM] at h
 split at h
 ·rename_i hc
  obtain⟨p,r,c,M,rfl,hp,h1,h2,h3,hM,e⟩:=So hc
  rw[<-h,ahA hp h1 h2 h3 hM]
  simp only[nt,Int.toNat_natCast,<-e]
 ·cases h
theorem agy (x:Int×Int×Int×List Int) (y:(Int×Int×List Int)×List Int) (h:xH x=some y):FW az x=some y:=by
 simp only[xH] at h
 split at h
 ·rename_i hc
  obtain⟨p,r,c,M,rfl,hp,h1,h2,h3,hM,e⟩:=So hc
  rw[<-h,ahz hp h1 h2 h3 hM]
  simp only[nt,Int.toNat_natCast,<-e]
 ·cases h
end Go.Am
end
section
namespace Go.Am
def nq (M:bR) (L:List Int):bR:=fun i t=>M i (L.getD t 0).toNat
def yg (x:Int×Int×Int×List Int):(Int×Int×List Int)×(Int×Int×List Int):=
  ((x.2.1,((nt x).2.1.length:Int),aB x.2.1.toNat (nt x).2.1.length (nq (fY x.2.2.1.toNat x.2.2.2) (nt x).2.1)),
   (((nt x).2.1.length:Int),x.2.2.1,(aB x.2.1.toNat x.2.2.1.toNat (nt x).1).take ((nt x).2.1.length*x.2.2.1.toNat)))
def Ab:Int×Int×Int×List Int->Option ((Int×Int×List Int)×(Int×Int×List Int)):=fun(x:Int×Int×Int×List Int)=>if zh x then some (yg x) else none
def K3:Int×Int×Int×List Int->Option ((Int×Int×List Int)×(Int×Int×List Int)×Bool):=fun(x:Int×Int×Int×List Int)=>
 if adE x.2<=1048576 then some (if o9 x.1 x.2=true then((yg x).1,(yg x).2,true) else((0,0,[]),(0,0,[]),false)) else none
def tA:Int×Int×Int×List Int->Option ((Int×Int×List Int)×(Int×Int×List Int)×Bool):=K3
def Hu:ai:=[(.one,[.int .i64]),(.agg,[.int .i64,.int .i64,.list [.int .i64]])]
def TT:ai:=[(.agg,[.int .i64,.int .i64,.list [.int .i64]]),(.agg,[.int .i64,.int .i64,.list [.int .i64]])]
def alL:aN:=[]
def Gd:ai:=[(.one,[.int .i64]),(.agg,[.int .i64,.int .i64,.list [.int .i64]])]
def SI:ai:=[(.agg,[.int .i64,.int .i64,.list [.int .i64]]),(.agg,[.int .i64,.int .i64,.list [.int .i64]]),(.one,[.bool])]
def akO:aN:=[]
def FY (NN:Nat):(Int×(Int×(Int×(List Int))))->(Option ((Int×(Int×(List Int)))×(Int×(Int×(List Int))))):=
 (fun((i0,i1,i2,l3):(Int×(Int×(Int×(List Int)))))=>
 (xM (i0,i1,i2,l3)).U (fun((i4,i5,l6),l7,i8)=>
 (xK (i1,aI (J l7))).U (fun(i9,cr,dz)=>
 bD ((ae 0 (J l7) (J l7)).U (fun _=>
 (ae 0 0 (J (([]:List Int)))).U (fun _=>
 (ae 0 0 (J (([]:List Int)))).U (fun _=>
 (ae 0 (J l6) (J l6)).U (fun _=>
 (ae 0 (J dz) (J dz)).U (fun _=>
 bu NN (fun((cZ,(cU,ca,de),(eO,gn),(gp,gJ),(g8,jR),(g9,jq),fE,dL,dr,gL,gy):(Int×((Int×(Int×(List Int)))×((Int×Int)×((Int×Int)×((Int×Int)×((Int×Int)×((List Int)×((List Int)×((List Int)×((List Int)×(List Int))))))))))))=>
 ak (bd cZ cU)
 (bD ((ae 0 (J gy) (J gy)).U (fun _=>
 (ae 0 (J gy) (J gy)).U (fun _=>
 (ae 0 (J fE) (J fE)).U (fun _=>
 (ae 0 (J dL) (J dL)).U (fun _=>
 (ae 0 (J dr) (J dr)).U (fun _=>
 (ae 0 (J gL) (J gL)).U (fun _=>
 bu NN (fun(((oW,mG,jS),(gv,gK,kl),(mH,uJ),(kI,qj),(uK,qk),(mI,mJ),ja,km,mL,jv,gM):((Int×(Int×Int))×((Int×(Int×(List Int)))×((Int×Int)×((Int×Int)×((Int×Int)×((Int×Int)×((List Int)×((List Int)×((List Int)×((List Int)×(List Int))))))))))))=>
 ak (bd jS mG)
 ((da jS (J gM)).U (fun k48=>
 (bY gM (aC 0 k48)).U (fun yJ=>
 (dd kl (aU .i64 (cu .i64 oW gK) yJ)).U (fun ql=>
 (da (aU .i64 (cu .i64 oW (aI (J gM))) jS) (J jv)).U (fun P9=>
 (bY jv (aC 0 P9)).U (fun wD=>
 (ae 0 (J gM) (J gM)).U (fun _=>
 (ae 0 (J gM) (J gM)).U (fun _=>
 (ae 0 (J ja) (J ja)).U (fun _=>
 (ae 0 (J km) (J km)).U (fun _=>
 (ae 0 (J mL) (J mL)).U (fun _=>
 (ae 0 (J jv) (J (bg jv (aC 0 P9) ql))).U (fun _=>
 some (Sum.inl ((oW,mG,aU .i64 jS 1),(gv,gK,kl),(mH,uJ),(kI,qj),(uK,qk),(mI,mJ),ja,km,mL,bg jv (aC 0 P9) ql,gM))))))))))))))
 (((ae 0 (J gM) (J gM)).U (fun _=>
 (ae 0 (J ja) (J ja)).U (fun _=>
 (ae 0 (J km) (J km)).U (fun _=>
 (ae 0 (J mL) (J mL)).U (fun _=>
 (ae 0 (J jv) (J jv)).U (fun _=>
 some (Sum.inl (oW,(gv,gK,kl),(mH,uJ),(kI,qj),(uK,qk),(mI,mJ),ja,km,mL,jv,gM)))))))).U (fun fo=>
 some (Sum.inr fo))))
 ((cZ,aI (J gy),(0:Int)),(cU,ca,de),(eO,gn),(gp,gJ),(g8,jR),(g9,jq),fE,dL,dr,gL,gy))))))))
 (fun(yK,(PM,PN,jw),(wE,PP),(uM,Bi),(s6,qn),(i64,s7),Bv,wM,n5,qw,jU)=>
 (ae 0 (J jU) (J jU)).U (fun _=>
 (ae 0 (J Bv) (J Bv)).U (fun _=>
 (ae 0 (J wM) (J wM)).U (fun _=>
 (ae 0 (J n5) (J n5)).U (fun _=>
 (ae 0 (J qw) (J qw)).U (fun _=>
 some (Sum.inl (aU .i64 yK 1,(PM,PN,jw),(wE,PP),(uM,Bi),(s6,qn),(i64,s7),Bv,wM,n5,qw,jU)))))))))
 (((ae 0 (J gy) (J gy)).U (fun _=>
 (ae 0 (J fE) (J fE)).U (fun _=>
 (ae 0 (J dL) (J dL)).U (fun _=>
 (ae 0 (J dr) (J dr)).U (fun _=>
 (ae 0 (J gL) (J gL)).U (fun _=>
 some (Sum.inl ((cU,ca,de),(eO,gn),(gp,gJ),(g8,jR),(g9,jq),fE,dL,dr,gL,gy)))))))).U (fun kN=>
 some (Sum.inr kN))))
 ((0:Int),(i1,i2,l3),((0:Int),(0:Int)),((0:Int),(0:Int)),(i4,i5),(i9,cr),([]:List Int),([]:List Int),l6,dz,l7)))))))
 (fun((i72,uN,ni),(yL,lN),(uP,rJ),(ng,ki),(yM,uQ),lS,l84,Jp,Es,Qj)=>
 (f7 (0:Int) (cu .i64 (aI (J Qj)) uN) (J Jp)).U (fun(k88,k89)=>
 (cd Jp (aC 0 k88) k89).U (fun n6=>
 (nG n6).U (fun Bw=>
 (c9 Es (J Es)).U (fun Bx=>
 (c9 Bw (J Bw)).U (fun rN=>
 some ((yM,uQ,Bx),aI (J Qj),uN,rN))))))))))
def CI (NN:Nat):(Int×(Int×(Int×(List Int))))->(Option ((Int×(Int×(List Int)))×((Int×(Int×(List Int)))×Bool))):=
 (fun((i0,i1,i2,l3):(Int×(Int×(Int×(List Int)))))=>
 (xD (i0,i1,i2,l3)).U (fun b4=>
 ak (cC b4)
 (some (((0:Int),(0:Int),([]:List Int)),((0:Int),(0:Int),([]:List Int)),false))
 ((xH (i0,i1,i2,l3)).U (fun((i5,i6,l7),l8)=>
 (CF (i1,aI (J l8))).U (fun(i9,cr,dz)=>
 bD ((ae 0 (J l8) (J l8)).U (fun _=>
 (ae 0 0 (J (([]:List Int)))).U (fun _=>
 (ae 0 0 (J (([]:List Int)))).U (fun _=>
 (ae 0 (J l7) (J l7)).U (fun _=>
 (ae 0 (J dz) (J dz)).U (fun _=>
 bu NN (fun(((cZ,cU),(ca,kH,dS),(gn,gp),(gJ,g8),(jR,g9),(jq,gu),dL,dr,gL,gy,nY):((Int×Int)×((Int×(Int×(List Int)))×((Int×Int)×((Int×Int)×((Int×Int)×((Int×Int)×((List Int)×((List Int)×((List Int)×((List Int)×(List Int))))))))))))=>
 ak (bd cU ca)
 (bD ((ae 0 (J nY) (J nY)).U (fun _=>
 (ae 0 (J nY) (J nY)).U (fun _=>
 (ae 0 (J dL) (J dL)).U (fun _=>
 (ae 0 (J dr) (J dr)).U (fun _=>
 (ae 0 (J gL) (J gL)).U (fun _=>
 (ae 0 (J gy) (J gy)).U (fun _=>
 bu NN (fun(((mG,jS,gv,gK),(qi,mH,kK),(kI,qj),(uK,qk),(mI,mJ),(nf,rH),mL,jv,gM,kM,gN):((Int×(Int×(Int×Int)))×((Int×(Int×(List Int)))×((Int×Int)×((Int×Int)×((Int×Int)×((Int×Int)×((List Int)×((List Int)×((List Int)×((List Int)×(List Int))))))))))))=>
 ak (bd gK gv)
 ((da gK (J gN)).U (fun k50=>
 (bY gN (aC 0 k50)).U (fun qm=>
 (lY ((qi,mH,kK),jS,qm)).U (fun wD=>
 (ae 0 (J kM) (J kM)).U (fun _=>
 (qW ((nf,rH,kM),jS,gK,wD)).U (fun fo=>
 (ae 0 (J gN) (J gN)).U (fun _=>
 (ae 0 (J gN) (J gN)).U (fun _=>
 (ae 0 (J mL) (J mL)).U (fun _=>
 (ae 0 (J jv) (J jv)).U (fun _=>
 (ae 0 (J gM) (J gM)).U (fun _=>
 (ae 0 (J kM) (J fo)).U (fun _=>
 some (Sum.inl ((mG,jS,gv,aU .i64 gK 1),(qi,mH,kK),(kI,qj),(uK,qk),(mI,mJ),(nf,rH),mL,jv,gM,fo,gN))))))))))))))
 (((ae 0 (J gN) (J gN)).U (fun _=>
 (ae 0 (J mL) (J mL)).U (fun _=>
 (ae 0 (J jv) (J jv)).U (fun _=>
 (ae 0 (J gM) (J gM)).U (fun _=>
 (ae 0 (J kM) (J kM)).U (fun _=>
 some (Sum.inl ((jS,mG),(qi,mH,kK),(kI,qj),(uK,qk),(mI,mJ),(nf,rH),mL,jv,gM,kM,gN)))))))).U (fun gd=>
 some (Sum.inr gd))))
 ((cZ,cU,aI (J nY),(0:Int)),(ca,kH,dS),(gn,gp),(gJ,g8),(jR,g9),(jq,gu),dL,dr,gL,gy,nY))))))))
 (fun((PM,PN),(PO,wE,qv),(uM,Bi),(s6,qn),(i64,s7),(wF,Ec),n5,qw,jU,kN,mM)=>
 (ae 0 (J mM) (J mM)).U (fun _=>
 (ae 0 (J n5) (J n5)).U (fun _=>
 (ae 0 (J qw) (J qw)).U (fun _=>
 (ae 0 (J jU) (J jU)).U (fun _=>
 (ae 0 (J kN) (J kN)).U (fun _=>
 some (Sum.inl ((PN,aU .i64 PM 1),(PO,wE,qv),(uM,Bi),(s6,qn),(i64,s7),(wF,Ec),n5,qw,jU,kN,mM)))))))))
 (((ae 0 (J dL) (J dL)).U (fun _=>
 (ae 0 (J dr) (J dr)).U (fun _=>
 (ae 0 (J gL) (J gL)).U (fun _=>
 (ae 0 (J gy) (J gy)).U (fun _=>
 some (Sum.inl (cZ,(ca,kH,dS),(gn,gp),(gJ,g8),(jR,g9),(jq,gu),dL,dr,gL,gy))))))).U (fun qx=>
 some (Sum.inr qx))))
 ((aI (J l8),(0:Int)),(i1,i2,l3),((0:Int),(0:Int)),((0:Int),(0:Int)),(i5,i6),(i9,cr),([]:List Int),([]:List Int),l7,dz,l8)))))))
 (fun(uO,(yL,lN,uU),(rJ,ng),(ki,yM),(uQ,i83),(Bj,yN),Es,Qj,nj,lT)=>
 (f7 (0:Int) (cu .i64 uO lN) (J nj)).U (fun(k90,Qc)=>
 (cd nj (aC 0 k90) Qc).U (fun Bx=>
 (nF Bx).U (fun rN=>
 (c9 lT (J lT)).U (fun yZ=>
 (c9 rN (J rN)).U (fun Et=>
 some ((Bj,yN,yZ),(uO,lN,Et),true))))))))))))
theorem akB {m:Int} {x:Int×Int×List Int} (h:o9 m x=true):∃(r c:Nat) (M:bR),x=((r:Int),(c:Int),aB r c M)/\eo m/\r<=64/\c<=64/\r*c<=4096/\fC m r c M/\M=fY c (aB r c M)/\zh (m,x):=by
 obtain⟨r,c,M,rfl,hp,hr,hc,db,hM⟩:=akA h
 have e:aB r c (fY c (aB r c M))=aB r c M:=AM (mz r c M)
 refine⟨r,c,fY c (aB r c M),by rw[e],hp,hr,hc,db,pH.1 (by rw[e];exact pH.2 hM),by rw[e],hp,y5 M (by omega) (by omega) (by omega),pH.2 hM⟩
theorem Sr {m:Int} {r c:Nat} {M:bR} (e:M=fY c (aB r c M)):nt (m,(r:Int),(c:Int),aB r c M)=dM m r M c:=by
 simp only[nt,Int.toNat_natCast,<-e]
theorem acV {n m:Nat} (h:n<=m):f7 0 (n:Int) m=some (0,n):=by
 unfold f7
 rw[if_pos ⟨by omega,by omega,by omega⟩]
 simp
theorem ad4 {xs:List Int} {n:Nat} (h:n<=xs.length):cd xs 0 n=some (xs.take n):=by
 unfold cd
 rw[if_pos (by omega)]
 rfl
theorem Sg {L:List Int} {c t:Nat} (hL:∀x∈L,0<=x/\x<(c:Int)) (ht:t<L.length):bY L t=some (((L.getD t 0).toNat:Nat):Int)/\(L.getD t 0).toNat<c:=by
 have h:=hL L[t] (List.getElem_mem ht)
 have e:L.getD t 0=L[t]:=by simp[List.getD,ht]
 rw[e]
 refine⟨?_,by omega⟩
 show L[t]? =_
 rw[List.getElem?_eq_getElem ht,Int.toNat_of_nonneg h.1]
section
variable {p:Int} {r c:Nat} {M R:bR} {L:List Int}
theorem ahm (hr:r<=4096) (hc:c<=4096) (db:r*c<=1048576) (hk:L.length<=r) (O8:L.length<=c) (hL:∀x∈L,0<=x/\x<(c:Int)) (hp:eo p) (D5:∃d,xM (p,(r:Int),(c:Int),aB r c M)=some (((r:Int),(c:Int),aB r c R),L,d)):
  FY az (p,(r:Int),(c:Int),aB r c M)=some (((r:Int),((L.length:Nat):Int),aB r L.length (nq M L)),(((L.length:Nat):Int),(c:Int),(aB r c R).take (L.length*c))):=by
 obtain⟨d,D5⟩:=D5
 have hrk:r*L.length<=r*c:=Nat.mul_le_mul (Nat.le_refl r) O8
 have DS:L.length*c<=r*c:=Nat.mul_le_mul hk (Nat.le_refl c)
 simp only[FY,D5,aw]
 rw[show aI (J L)=((L.length:Nat):Int) from rfl,abl hr (show L.length<=4096 by omega) (show r*L.length<=1048576 by omega)]
 simp only[aw,bW]
 rw[show ae 0 0 (J ([]:List Int))=some () from rfl]
 simp only[aw]
 rw[ef (r:=Sum.inl (((r:Int),(c:Int),aB r c M),((0:Int),(0:Int)),((0:Int),(0:Int)),((r:Int),(c:Int)),((r:Int),((L.length:Nat):Int)),([]:List Int),([]:List Int),aB r c R,aB r L.length (nq M L),L)) (fun i=>((i:Int),((r:Int),(c:Int),aB r c M),((0:Int),(0:Int)),((0:Int),(0:Int)),((r:Int),(c:Int)),((r:Int),((L.length:Nat):Int)),([]:List Int),([]:List Int),aB r c R,aB r L.length (n8 (nq M L) i 0),L)) r ?_ ?_ ?_ (cX (by omega))]
 ·rw[eU]
  simp only
  rw[show aI (J L)=((L.length:Nat):Int) from rfl,Ez (by omega) (by omega),acV (by rw[wP];exact DS),aw]
  simp only[eZ]
  rw[ad4 (by rw[mz];exact DS),aw,show nG ((aB r c R).take (L.length*c))=some _ from if_pos (by rw[List.length_take,mz];omega),aw]
  simp only[gO,aw]
 ·intro i hi
  simp only
  rw[aH (jV hi)]
  rw[ef (r:=Sum.inl ((i:Int),((r:Int),(c:Int),aB r c M),((0:Int),(0:Int)),((0:Int),(0:Int)),((r:Int),(c:Int)),((r:Int),((L.length:Nat):Int)),([]:List Int),([]:List Int),aB r c R,aB r L.length (n8 (nq M L) (i+1) 0),L)) (fun t=>(((i:Int),((L.length:Nat):Int),(t:Int)),((r:Int),(c:Int),aB r c M),((0:Int),(0:Int)),((0:Int),(0:Int)),((r:Int),(c:Int)),((r:Int),((L.length:Nat):Int)),([]:List Int),([]:List Int),aB r c R,aB r L.length (n8 (nq M L) i t),L)) L.length ?_ ?_ ?_ (cX (by omega))]
  ·rw[eU];simp only[gT (show i<=1048577 by omega)]
  ·intro t ht
   simp only
   obtain⟨h1,h2⟩:=Sg hL ht
   rw[aH (jV ht),pL (show t<J L from ht),aw]
   simp only[eZ]
   rw[h1,aw,qp (by omega) (by omega) (by omega),Ow M hi h2,aw,show aI (J L)=((L.length:Nat):Int) from rfl]
   simp only[qp (show i<=1048576 by omega) (show L.length<=1048576 by omega) (show t<=1048576 by omega),tS _ hi ht,aw,eZ,ug _ hi ht,E6 _ ht,pY,gT (show t<=1048577 by omega)]
   rw[show M i (L.getD t 0).toNat=nq M L i t from rfl,abg]
  ·simp only
   rw[aK (jz (Nat.le_refl L.length)),abf]
   try rfl
  ·rfl
 ·simp only
  rw[aK (jz (Nat.le_refl r)),abe]
  try rfl
 ·rw[abd];rfl
theorem ahl (hr:r<=4096) (hc:c<=4096) (db:r*c<=1048576) (hk:L.length<=r) (O8:L.length<=c) (hL:∀x∈L,0<=x/\x<(c:Int)) (hm:xD (p,(r:Int),(c:Int),aB r c M)=some true) (D5:xH (p,(r:Int),(c:Int),aB r c M)=some (((r:Int),(c:Int),aB r c R),L)):
  CI az (p,(r:Int),(c:Int),aB r c M)=some (((r:Int),((L.length:Nat):Int),aB r L.length (nq M L)),(((L.length:Nat):Int),(c:Int),(aB r c R).take (L.length*c)),true):=by
 have hrk:r*L.length<=r*c:=Nat.mul_le_mul (Nat.le_refl r) O8
 have DS:L.length*c<=r*c:=Nat.mul_le_mul hk (Nat.le_refl c)
 simp only[CI,D5,hm,aw]
 rw[aK (by rfl),show aI (J L)=((L.length:Nat):Int) from rfl,anf hr (show L.length<=4096 by omega) (show r*L.length<=1048576 by omega)]
 simp only[aw,bW]
 rw[show ae 0 0 (J ([]:List Int))=some () from rfl]
 simp only[aw]
 rw[ef (r:=Sum.inl (((L.length:Nat):Int),((r:Int),(c:Int),aB r c M),((0:Int),(0:Int)),((0:Int),(0:Int)),((r:Int),(c:Int)),((r:Int),((L.length:Nat):Int)),([]:List Int),([]:List Int),aB r c R,aB r L.length (nq M L))) (fun i=>((((L.length:Nat):Int),(i:Int)),((r:Int),(c:Int),aB r c M),((0:Int),(0:Int)),((0:Int),(0:Int)),((r:Int),(c:Int)),((r:Int),((L.length:Nat):Int)),([]:List Int),([]:List Int),aB r c R,aB r L.length (n8 (nq M L) i 0),L)) r ?_ ?_ ?_ (cX (by omega))]
 ·rw[eU]
  simp only
  rw[Ez (by omega) (by omega),acV (by rw[wP];exact DS),aw]
  simp only[eZ]
  rw[ad4 (by rw[mz];exact DS),aw,show nF ((aB r c R).take (L.length*c))=some _ from if_pos (by rw[List.length_take,mz];omega),aw]
  simp only[gO,aw]
 ·intro i hi
  simp only
  rw[aH (jV hi)]
  rw[ef (r:=Sum.inl (((i:Int),((L.length:Nat):Int)),((r:Int),(c:Int),aB r c M),((0:Int),(0:Int)),((0:Int),(0:Int)),((r:Int),(c:Int)),((r:Int),((L.length:Nat):Int)),([]:List Int),([]:List Int),aB r c R,aB r L.length (n8 (nq M L) (i+1) 0),L)) (fun t=>((((L.length:Nat):Int),(i:Int),((L.length:Nat):Int),(t:Int)),((r:Int),(c:Int),aB r c M),((0:Int),(0:Int)),((0:Int),(0:Int)),((r:Int),(c:Int)),((r:Int),((L.length:Nat):Int)),([]:List Int),([]:List Int),aB r c R,aB r L.length (n8 (nq M L) i t),L)) L.length ?_ ?_ ?_ (cX (by omega))]
  ·rw[eU];simp only[gT (show i<=1048577 by omega)]
  ·intro t ht
   simp only
   obtain⟨h1,h2⟩:=Sg hL ht
   rw[aH (jV ht),pL (show t<J L from ht),aw]
   simp only[eZ]
   rw[h1,aw,qY hr hc db hi h2,aw,Ca hr (show L.length<=4096 by omega) (show r*L.length<=1048576 by omega) hi ht]
   simp only[aw,pY,gT (show t<=1048577 by omega)]
   rw[show M i (L.getD t 0).toNat=nq M L i t from rfl,abg]
  ·simp only
   rw[aK (jz (Nat.le_refl L.length)),abf]
   try rfl
  ·rfl
 ·simp only
  rw[aK (jz (Nat.le_refl r)),abe]
  try rfl
 ·rw[abd];rfl
end
theorem YN {m:Int} {r c:Nat} {M:bR} (e:M=fY c (aB r c M)):yg (m,(r:Int),(c:Int),aB r c M)=
  (((r:Int),((dM m r M c).2.1.length:Int),aB r (dM m r M c).2.1.length (nq M (dM m r M c).2.1)),(((dM m r M c).2.1.length:Int),(c:Int),(aB r c (dM m r M c).1).take ((dM m r M c).2.1.length*c))):=by
 simp only[yg,Sr e,Int.toNat_natCast,<-e]
theorem ahf (x:Int×Int×Int×List Int) (y:(Int×Int×List Int)×(Int×Int×List Int)) (h:Ab x=some y):FY az x=some y:=by
 simp only[Ab] at h
 split at h
 ·rename_i hc
  obtain⟨p,r,c,M,rfl,hp,h1,h2,h3,hM,e⟩:=So hc
  have hI:=B2 hp hM (r:=r) (c:=c) c
  rw[<-h,YN e]
  refine ahm (R:=(dM p r M c).1) (L:=(dM p r M c).2.1) h1 h2 h3 hI.l hI.lj hI.e hp ⟨(dM p r M c).2.2,?_⟩
  simp only[xM]
  rw[if_pos hc]
  simp only[Sr e,Int.toNat_natCast]
 ·cases h
theorem af9 (x:Int×Int×Int×List Int) (y:(Int×Int×List Int)×(Int×Int×List Int)×Bool) (h:tA x=some y):CI az x=some y:=by
 obtain⟨m,x⟩:=x
 simp only[tA,K3] at h
 split at h
 ·rename_i hl
  rw[<-h]
  cases hm:o9 m x with
  |false=>
   obtain⟨r,c,l⟩:=x
   simp only[CI]
   rw[show xD (m,r,c,l)=some (o9 m (r,c,l)) from if_pos hl,aw,hm]
   rfl
  |true=>
   obtain⟨r,c,M,rfl,hp,hr,hc,db,hM,eM,hR⟩:=akB hm
   have hI:=B2 hp hM (r:=r) (c:=c) c
   rw[YN eM]
   refine ahl (R:=(dM m r M c).1) (L:=(dM m r M c).2.1) (by omega) (by omega) (by omega) hI.l hI.lj hI.e ?_ ?_
   ·rw[<-hm]
    exact if_pos hl
   ·simp only[xH]
    rw[if_pos hR]
    simp only[Sr eM,Int.toNat_natCast]
 ·cases h
end Go.Am
end
section
namespace Go.Am
abbrev fH:=Int×Int×Int×List Int
def acR (s:fH):Prop:=(0<=s.1/\s.1<=64)/\(0<=s.2.1/\s.2.1<=64)/\(0<=s.2.2.1/\s.2.2.1<=64)/\(s.2.2.2.length:Int)=s.1*s.2.1*s.2.2.1
instance (s:fH):Decidable (acR s):=by unfold acR;infer_instance
def ci (n:Nat) (f:Nat->Int):List Int:=(List.range n).map f
theorem ia (n:Nat) (f:Nat->Int):(ci n f).length=n:=by simp[ci]
theorem qM {n j:Nat} (f:Nat->Int) (h:j<n):(ci n f)[j]? =some (f j):=by simp[ci,List.getElem?_range h]
theorem kt {n:Nat} {f g:Nat->Int} (h:∀j,j<n->f j=g j):ci n f=ci n g:=List.map_congr_left fun j hj=>h j (List.mem_range.1 hj)
theorem EU {n j:Nat} (f:Nat->Int) (x:Int):bg (ci n f) j x=ci n (fun q=>if q=j then x else f q):=by
 unfold bg
 apply List.ext_getElem?
 intro k
 rw[List.getElem?_set,ia]
 by_cases hk:k<n
 ·rw[qM _ hk,qM _ hk]
  by_cases e:j=k
  ·subst e;simp[hk]
  ·rw[if_neg e];simp[show¬k=j from fun h=>e h.symm]
 ·rw[List.getElem?_eq_none (by rw[ia];omega),List.getElem?_eq_none (by rw[ia];omega)]
  by_cases e:j=k
  ·subst e;simp[hk]
  ·simp[e]
theorem uW (n:Nat) (f:Nat->Int):J (ci n f)=n:=ia n f
theorem acd (n:Nat) (x:Int):dN n x=ci n (fun _=>x):=by
 unfold dN ci
 rw[List.map_const',List.length_range]
theorem AL (n:Nat) (f g:Nat->Int):ae 0 (J (ci n f)) (J (ci n g))=some ():=by rw[uW,uW];exact bW n
theorem HV {n j:Nat} (f:Nat->Int) (h:j<n):da (j:Int) (J (ci n f))=some j:=pL (by rw[uW];exact h)
theorem DB {n j:Nat} (f:Nat->Int) (h:j<n):bY (ci n f) j=some (f j):=qM f h
theorem map_take {α:Type} (g:α->Int) {L:List α} {j:Nat} {x:α} (h:L[j]? =some x):dP ((L.take j).map g) [g x]=(L.take (j+1)).map g:=by
 simp[dP,List.take_add_one,h]
end Go.Am
end
section
namespace Go.Am
def cv:List Int->Nat
 |[]=>1
 |x::l=>x.toNat*cv l
def bT (D:List Int) (i:Nat):Nat:=cv (D.drop i)
def dw (D:List Int) (n i:Nat):Int:=((n/bT D (i+1)%(D.getD i 0).toNat:Nat):Int)
def dK (D:List Int) (n:Nat):List Int:=ci D.length (dw D n)
def ir (D ix:List Int):Nat->Nat
 |0=>0
 |j+1=>ir D ix j*(D.getD j 0).toNat+(ix.getD j 0).toNat
def jK (D:List Int):Prop:=D.length<=1048576/\∀x∈D,1<=x/\x<=1048576
instance (D:List Int):Decidable (jK D):=by unfold jK;infer_instance
def z9:List Int×Int->Option (List Int):=fun x=>if jK x.1/\0<=x.2/\x.2<=1048576 then some (dK x.1 x.2.toNat) else none
def vn:List Int×List Int->Option (Bool×List Int):=fun x=>
 if jK x.1/\x.2=dK x.1 (ir x.1 x.2 x.1.length)/\ir x.1 x.2 x.1.length<cv x.1/\cv x.1<=1048576 then
  some (decide (ir x.1 x.2 x.1.length+1<cv x.1),dK x.1 (ir x.1 x.2 x.1.length+1)) else none
def Hm:ai:=[(.one,[.list [.int .i64]]),(.one,[.int .i64])]
def TM:ai:=[(.one,[.list [.int .i64]])]
def alF:aN:=[]
def Gy:ai:=[(.one,[.list [.int .i64]]),(.one,[.list [.int .i64]])]
def S3:ai:=[(.one,[.bool]),(.one,[.list [.int .i64]])]
def JA:aN:=[[],[some .ab]]
def LY (NN:Nat):((List Int)×Int)->(Option (List Int)):=
 (fun((l0,i1):((List Int)×Int))=>
 (qB (aI (J l0)) (aI (J l0)) 8).U (fun k2=>
 bD ((ae 0 k2 (J (dN k2 (0:Int)))).U (fun _=>
 bu NN (fun(((l3,i4,i5),l6):(((List Int)×(Int×Int))×(List Int)))=>
 ak (fM (0:Int) i5)
 ((dd l3 i5).U (fun i7=>
 (hZ i4 i7).U (fun i8=>
 (da i5 (J l6)).U (fun k9=>
 (bY l6 (aC 0 k9)).U (fun cr=>
 (dd l3 i5).U (fun cT=>
 (w7 .i64 i4 cT).U (fun cZ=>
 (ae 0 (J l6) (J (bg l6 (aC 0 k9) i8))).U (fun _=>
 some (Sum.inl ((l3,cZ,dV .i64 i5 1),bg l6 (aC 0 k9) i8))))))))))
 (((ae 0 (J l6) (J l6)).U (fun _=>
 some (Sum.inl l6))).U (fun iF=>
 some (Sum.inr iF))))
 ((l0,i1,dV .i64 (aI (J l0)) (1:Int)),dN k2 (0:Int))))
 (fun e9=>
 (c9 e9 (J e9)).U (fun de=>
 some de))))
def Lk (NN:Nat):((List Int)×(List Int))->(Option (Bool×(List Int))):=
 (fun((l0,l1):((List Int)×(List Int)))=>
 bD ((ae 0 (J l1) (J l1)).U (fun _=>
 bu NN (fun(((l2,i3),l4):(((List Int)×Int)×(List Int)))=>
 ak (fM (0:Int) i3)
 ((da i3 (J l4)).U (fun k5=>
 (bY l4 (aC 0 k5)).U (fun i6=>
 (da i3 (J l4)).U (fun k7=>
 (bY l4 (aC 0 k7)).U (fun i8=>
 (da i3 (J l4)).U (fun k9=>
 (bY (bg l4 (aC 0 k7) (aU .i64 i6 1)) (aC 0 k9)).U (fun cr=>
 (dd l2 i3).U (fun cT=>
 ak (bd cr cT)
 ((((jF (J (bg l4 (aC 0 k7) (aU .i64 i6 1))) (J l1)).U (fun _=>
 some (true,bg l4 (aC 0 k7) (aU .i64 i6 1)))).U (fun((HI,iF):(Bool×(List Int)))=>
 some (Sum.inr (HI,iF)))).U (fun e9=>
 some (Sum.inr e9)))
 ((da i3 (J l4)).U (fun kj=>
 (bY (bg l4 (aC 0 k7) (aU .i64 i6 1)) (aC 0 kj)).U (fun eO=>
 (ae 0 (J l4) (J (bg (bg l4 (aC 0 k7) (aU .i64 i6 1)) (aC 0 kj) (0:Int)))).U (fun _=>
 some (Sum.inl ((l2,dV .i64 i3 1),bg (bg l4 (aC 0 k7) (aU .i64 i6 1)) (aC 0 kj) (0:Int)))))))))))))))
 (some (Sum.inr (Sum.inl l4))))
 ((l0,dV .i64 (aI (J l0)) (1:Int)),l1)))
 (fun c8=>
 (jF (J c8) (J l1)).U (fun _=>
 some (false,c8))))
theorem MZ {D:List Int} (h:jK D) {i:Nat} (hi:i<D.length):∃d:Nat,D[i]? =some (d:Int)/\D.getD i 0=(d:Int)/\(D.getD i 0).toNat=d/\1<=d/\d<=1048576:=by
 have e:=getD_some 0 hi
 have hm:=h.2 _ (List.mem_of_getElem? e)
 obtain⟨d,hd⟩:=jD (show 0<=D.getD i 0 by omega)
 exact⟨d,by rw[e,hd],hd,by rw[hd];rfl,by omega,by omega⟩
theorem tz {D:List Int} {i:Nat} (hi:i<D.length):bT D i=(D.getD i 0).toNat*bT D (i+1):=by
 unfold bT
 rw[drop_cons (getD_some 0 hi),cv]
theorem xu (D:List Int):bT D D.length=1:=by simp[bT,cv]
theorem FB (D:List Int):bT D 0=cv D:=rfl
theorem JX:∀{D:List Int},(∀x∈D,1<=x)->0<cv D
 |[],_=>Nat.one_pos
 |x::l,h=>by
  have h1:=h x List.mem_cons_self
  exact Nat.mul_pos (by omega) (JX fun y hy=>h y (List.mem_cons_of_mem _ hy))
theorem adI {D:List Int} (h:jK D) (i:Nat):0<bT D i:=JX fun x hx=>(h.2 x (List.mem_of_mem_drop hx)).1
theorem BZ:∀{D:List Int},(∀x∈D,1<=x)->c7 D=(cv D:Int)
 |[],_=>rfl
 |x::l,h=>by
  have h1:=h x List.mem_cons_self
  rw[c7,cv,BZ fun y hy=>h y (List.mem_cons_of_mem _ hy)]
  obtain⟨x,rfl⟩:=jD (show 0<=x by omega)
  simp
theorem Wl {D:List Int} {i j:Nat} (h:i<=j) (hj:j<=D.length):bT D j∣bT D i:=by
 obtain⟨k,rfl⟩:∃k,j=i+k:=⟨j - i,by omega⟩
 induction k with
 |zero=>exact Nat.dvd_refl _
 |succ k ih=>
  refine Nat.dvd_trans ?_ (ih (by omega) (by omega))
  rw[tz (i:=i+k) (by omega)]
  exact Nat.dvd_mul_left _ _
def qz (D:List Int) (n n' k:Nat):List Int:=ci D.length fun q=>if k<=q then dw D n' q else dw D n q
theorem akF (D:List Int) (n n':Nat):qz D n n' 0=dK D n':=kt fun q _=>by simp
theorem akG (D:List Int) (n n':Nat):qz D n n' D.length=dK D n:=kt fun q hq=>by simp;intro h;omega
theorem aa7 (D:List Int) (n n' k:Nat):bg (qz D n n' (k+1)) k (dw D n' k)=qz D n n' k:=by
 unfold qz
 rw[EU]
 refine kt fun q _=>?_
 by_cases e:q=k
 ·subst e;simp
 ·by_cases h:k<=q
  ·rw[if_neg e,if_pos (by omega),if_pos h]
  ·rw[if_neg e,if_neg (by omega),if_neg h]
theorem Ju (D:List Int) (n n' k:Nat):J (qz D n n' k)=D.length:=ia _ _
theorem BD {D:List Int} {n n' k:Nat} (h:k<D.length):bY (qz D n n' (k+1)) k=some (dw D n k):=by
 unfold qz
 rw[DB _ h,if_neg (by omega)]
theorem aeO {a b:Nat} (hb:0<b) (ha:a<=1048576):w7 .i64 (a:Int) (b:Int)=some ((a/b:Nat):Int):=by
 have e:((a:Int)/(b:Int))=((a/b:Nat):Int):=by norm_cast
 have:a/b<=a:=Nat.div_le_self a b
 unfold w7
 rw[if_neg (by omega),Int.tdiv_eq_ediv_of_nonneg (by omega),e]
 clear e
 generalize a/b=q at*
 rw[xy (by omega) (by omega)]
theorem aeP {a b:Nat} (hb:0<b):hZ (a:Int) (b:Int)=some ((a%b:Nat):Int):=by
 rw[ER (by omega) (by omega)];norm_cast
theorem Kz {n:Nat} (h:n<=1048577):dV .i64 (n:Int) 1=(n:Int) - 1:=kV (by omega) (by omega)
theorem ag8 (x:List Int×Int) (y:List Int) (h:z9 x=some y):LY az x=some y:=by
 obtain⟨D,n⟩:=x
 simp only[z9] at h
 split at h
 ·rename_i hc
  obtain⟨hD,h0,h1⟩:=hc
  rw[<-h]
  obtain⟨n,rfl⟩:=jD h0
  have hl:=hD.1
  simp only[LY,Int.toNat_natCast]
  rw[y6 (n:=J D) (by simp only[J,dA];omega),aw]
  rw[show ae 0 (J D) (J (dN (J D) (0:Int)))=some () from by rw[aaO];exact bW _,aw]
  rw[ef (fun j=>((D,((n/bT D (D.length - j):Nat):Int),(D.length:Int) - j - 1),ci D.length fun q=>if D.length - j<=q then dw D n q else 0)) (r:=Sum.inl (dK D n)) D.length ?_ ?_ ?_ (cX (by omega))]
  ·rw[eU,gO,aw]
  ·intro j hj
   have hk:D.length - (j+1)<D.length:=by omega
   obtain⟨d,d1,d2,d3,d4,d5⟩:=MZ hD hk
   have ek:(D.length:Int) - j - 1=((D.length - (j+1):Nat):Int):=by omega
   have eT:bT D (D.length - (j+1))=d*bT D (D.length - j):=by rw[tz hk,d3];congr 2;omega
   have afn:dw D n (D.length - (j+1))=((n/bT D (D.length - j)%d:Nat):Int):=by unfold dw;rw[d3];congr 4;omega
   have gI:n/bT D (D.length - j)<=n:=Nat.div_le_self _ _
   simp only
   rw[ek,aH (o7 (by omega)),dj,d1,aw,aeP (by omega),aw,HV _ hk,aw,eZ,DB _ hk,aw]
   simp only[aw]
   rw[aeO (by omega) (by omega),aw,<-afn,EU]
   simp only[AL,aw]
   rw[Kz (by omega),Nat.div_div_eq_div_mul,Nat.mul_comm (bT D (D.length - j)) d,<-eT]
   have er:ci D.length (fun q=>if q=D.length - (j+1) then dw D n (D.length - (j+1)) else if D.length - j<=q then dw D n q else 0)=ci D.length fun q=>if D.length - (j+1)<=q then dw D n q else 0:=by
    refine kt fun q _=>?_
    by_cases e:q=D.length - (j+1)
    ·rw[if_pos e,if_pos (by omega),e]
    ·rw[if_neg e]
     by_cases h:D.length - j<=q
     ·rw[if_pos h,if_pos (by omega)]
     ·rw[if_neg h,if_neg (by omega)]
   rw[er]
   congr 5
   omega
  ·simp only
   rw[aK (Bz (by omega))]
   simp only[AL,aw]
   rw[show ci D.length (fun q=>if D.length - D.length<=q then dw D n q else 0)=dK D n from kt fun q _=>by simp]
  ·rw[acd,Nat.sub_zero,xu,Nat.div_one]
   have e1:dV .i64 (aI (J D)) 1=(D.length:Int) - ((0:Nat):Int) - 1:=by rw[nl,Kz (by omega)];omega
   rw[e1]
   have e2:ci (J D) (fun _=>(0:Int))=ci D.length fun q=>if D.length<=q then dw D n q else 0:=kt fun q hq=>by rw[if_neg (by have:J D=D.length:=rfl;omega)]
   rw[e2]
 ·cases h
theorem afg {a k:Nat} (hk:0<k) (h:(a+1)%k≠0):(a+1)/k=a/k:=by
 rw[Nat.succ_div,if_neg (fun hd=>h (Nat.mod_eq_zero_of_dvd hd)),Nat.add_zero]
theorem afh {a k:Nat} (hk:0<k) (h:(a+1)%k=0):(a+1)/k=a/k+1:=by
 rw[Nat.succ_div,if_pos (Nat.dvd_of_mod_eq_zero h)]
theorem afe {D:List Int} (hD:jK D) {n i:Nat} (hi:i<=D.length) (h:(n+1)%bT D i≠0) {q:Nat} (hq:q<i):dw D (n+1) q=dw D n q:=by
 unfold dw
 rw[afg (adI hD _)]
 intro h0
 exact h (Nat.mod_eq_zero_of_dvd (Nat.dvd_trans (Wl hq hi) (Nat.dvd_of_mod_eq_zero h0)))
theorem Ya {D:List Int} (hD:jK D) {n i:Nat} (hi:i<D.length) (h:(n+1)%bT D (i+1)=0):
  (dw D n i+1<D.getD i 0->dw D (n+1) i=dw D n i+1/\(n+1)%bT D i≠0)/\(¬dw D n i+1<D.getD i 0->dw D (n+1) i=0/\(n+1)%bT D i=0):=by
 obtain⟨d,d1,d2,d3,d4,d5⟩:=MZ hD hi
 have hT:=adI hD (i+1)
 have e1:=afh hT h
 obtain⟨c,hc⟩:=Nat.dvd_of_mod_eq_zero h
 have ec:(n+1)/bT D (i+1)=c:=by rw[hc,Nat.mul_div_cancel_left _ hT]
 have afo:(n+1)%bT D i=bT D (i+1)*(c%d):=by rw[tz hi,d3,hc,Nat.mul_comm d,Nat.mul_mod_mul_left]
 unfold dw
 rw[d2,ec,afo]
 simp only[Int.toNat_natCast]
 rw[ec] at e1
 have bB:n/bT D (i+1)%d<d:=Nat.mod_lt _ (by omega)
 have cV:c%d=if n/bT D (i+1)%d+1<d then n/bT D (i+1)%d+1 else 0:=by
  rw[e1,Nat.add_mod]
  split
  ·rename_i hx
   by_cases Zy:d=1
   ·omega
   ·rw[Nat.mod_eq_of_lt (show 1<d by omega),Nat.mod_eq_of_lt hx]
  ·by_cases Zy:d=1
   ·subst Zy;omega
   ·rw[Nat.mod_eq_of_lt (show 1<d by omega),show n/bT D (i+1)%d+1=d by omega,Nat.mod_self]
 constructor
 ·intro hx
  rw[cV,if_pos (by omega)]
  refine⟨by omega,?_⟩
  have:=Nat.mul_pos hT (show 0<n/bT D (i+1)%d+1 by omega)
  omega
 ·intro hx
  rw[cV,if_neg (by omega)]
  exact⟨by omega,by simp⟩
theorem agt (x:List Int×List Int) (y:Bool×List Int) (h:vn x=some y):Lk az x=some y:=by
 obtain⟨D,ix⟩:=x
 simp only[vn] at h
 split at h
 ·rename_i hc
  obtain⟨hD,hix,hn,hp⟩:=hc
  rw[<-h]
  generalize ir D ix D.length=n at*
  subst hix
  have hl:=hD.1
  have hlen:(dK D n).length=D.length:=ia _ _
  simp only[Lk]
  rw[bW,aw]
  obtain⟨k,k1,k2,k3⟩:=Ky (fun j=>(n+1)%bT D (D.length - (j+1))=0) D.length
  have IM:∀j,j<=k->(n+1)%bT D (D.length - j)=0:=fun j hj=>by
   cases j with
   |zero=>rw[Nat.sub_zero,xu];omega
   |succ j=>exact k2 j (by omega)
  have yF:∀j,j<k->dw D (n+1) (D.length - (j+1))=0/\¬dw D n (D.length - (j+1))+1<D.getD (D.length - (j+1)) 0:=fun j hj=>by
   have hk:D.length - (j+1)<D.length:=by omega
   have h1:=IM j (by omega)
   rw[show D.length - j=D.length - (j+1)+1 by omega] at h1
   obtain⟨c1,c2⟩:=Ya hD hk h1
   by_cases hx:dw D n (D.length - (j+1))+1<D.getD (D.length - (j+1)) 0
   ·exact absurd (IM (j+1) (by omega)) (c1 hx).2
   ·exact⟨(c2 hx).1,hx⟩
  have Zx:∀q,0<=dw D n q/\dw D n q<=1048576:=fun q=>by
   unfold dw
   have h1:n/bT D (q+1)%(D.getD q 0).toNat<=n/bT D (q+1):=Nat.mod_le _ _
   have h2:n/bT D (q+1)<=n:=Nat.div_le_self _ _
   omega
  have e0:dV .i64 (aI (J D)) 1=(D.length:Int) - ((0:Nat):Int) - 1:=by rw[nl,Kz (by omega)];omega
  rw[ef (fun j=>((D,(D.length:Int) - (j:Int) - 1),qz D n (n+1) (D.length - j))) (r:=if k=D.length then Sum.inl (dK D (n+1)) else Sum.inr (true,dK D (n+1))) k ?_ ?_ ?_ (cX (by omega))]
  ·by_cases hk:k=D.length
   ·rw[if_pos hk,eU]
    have hz:(n+1)%cv D=0:=by have:=IM k (Nat.le_refl _);rwa[hk,Nat.sub_self,FB] at this
    have DY:¬n+1<cv D:=fun hx=>by rw[Nat.mod_eq_of_lt hx] at hz;omega
    rw[decide_eq_false DY,pA (by show J (dK D (n+1))=J (dK D n);unfold dK;rw[uW,uW]),aw]
   ·rw[if_neg hk,Ej]
    have I4:=(k3.resolve_left hk)
    have DY:n+1<cv D:=by
     rcases Nat.lt_or_ge (n+1) (cv D) with h|h
     ·exact h
     ·exfalso
      have e:n+1=cv D:=by omega
      apply I4
      rw[e,<-FB]
      exact Nat.mod_eq_zero_of_dvd (Wl (Nat.zero_le _) (by omega))
    rw[decide_eq_true DY]
  ·intro j hj
   have hk:D.length - (j+1)<D.length:=by omega
   have ek:(D.length:Int) - j - 1=((D.length - (j+1):Nat):Int):=by omega
   obtain⟨s1,s2⟩:=yF j hj
   have vY:=Zx (D.length - (j+1))
   simp only
   rw[ek,show D.length - j=D.length - (j+1)+1 by omega,aH (o7 (by omega)),pL (by rw[Ju];exact hk),aw,eZ,BD hk,aw]
   simp only[aw,eZ,BD hk]
   rw[eK (by omega) (by omega)]
   have eg:bY (bg (qz D n (n+1) (D.length - (j+1)+1)) (D.length - (j+1)) (dw D n (D.length - (j+1))+1)) (D.length - (j+1))=some (dw D n (D.length - (j+1))+1):=Ox (BD hk)
   rw[eg,aw,dj,getD_some 0 hk,aw,aK (cP (by omega))]
   try simp only[aw,eZ,eg]
   rw[acH,<-s1,aa7,Ju,Ju,bW,aw,Kz (by omega)]
   congr 4
   omega
  ·by_cases hk:k=D.length
   ·rw[if_pos hk,hk]
    simp only
    rw[aK (Bz (by omega)),Nat.sub_self,akF]
   ·rw[if_neg hk]
    have oU:D.length - (k+1)<D.length:=by omega
    have ek:(D.length:Int) - k - 1=((D.length - (k+1):Nat):Int):=by omega
    have h1:=IM k (Nat.le_refl _)
    rw[show D.length - k=D.length - (k+1)+1 by omega] at h1
    obtain⟨c1,c2⟩:=Ya hD oU h1
    have I4:=(k3.resolve_left hk)
    have hx:dw D n (D.length - (k+1))+1<D.getD (D.length - (k+1)) 0:=by
     rcases Decidable.em (dw D n (D.length - (k+1))+1<D.getD (D.length - (k+1)) 0) with h|h
     ·exact h
     ·exact absurd (c2 h).2 I4
    obtain⟨s1,s2⟩:=c1 hx
    have vY:=Zx (D.length - (k+1))
    simp only
    rw[ek,show D.length - k=D.length - (k+1)+1 by omega,aH (o7 (by omega)),pL (by rw[Ju];exact oU),aw,eZ,BD oU,aw]
    simp only[aw,eZ,BD oU]
    rw[eK (by omega) (by omega)]
    have eg:bY (bg (qz D n (n+1) (D.length - (k+1)+1)) (D.length - (k+1)) (dw D n (D.length - (k+1))+1)) (D.length - (k+1))=some (dw D n (D.length - (k+1))+1):=Ox (BD oU)
    rw[eg,aw,dj,getD_some 0 oU,aw,aH (df (by omega))]
    rw[<-s1,aa7]
    have er:qz D n (n+1) (D.length - (k+1))=dK D (n+1):=kt fun q hq=>by
     by_cases h:D.length - (k+1)<=q
     ·rw[if_pos h]
     ·rw[if_neg h,afe hD (by omega) I4 (by omega)]
    rw[er,pA (by show J (dK D (n+1))=J (dK D n);unfold dK;rw[uW,uW]),aw]
    rfl
  ·rw[e0,Nat.sub_zero,akG]
 ·cases h
theorem aah {D:List Int} {n i:Nat} (hi:i<D.length):(dK D n).getD i 0=dw D n i:=by
 rw[List.getD_eq_getElem?_getD,dK,qM _ hi];rfl
theorem abp {D:List Int} (hD:jK D) {n:Nat} (hn:n<cv D):∀j,j<=D.length->ir D (dK D n) j=n/bT D j
 |0,_=>by rw[FB,Nat.div_eq_of_lt hn];rfl
 |j+1,hj=>by
  rw[ir,abp hD hn j (by omega),aah (by omega),dw,Int.toNat_natCast,tz (by omega),Nat.mul_comm (D.getD j 0).toNat,<-Nat.div_div_eq_div_mul,Nat.mul_comm,Nat.div_add_mod]
theorem ani {D:List Int} (hD:jK D) {n:Nat} (hn:n<cv D) (hp:cv D<=1048576):vn (D,dK D n)=some (decide (n+1<cv D),dK D (n+1)):=by
 have e:=abp hD hn D.length (Nat.le_refl _)
 rw[xu,Nat.div_one] at e
 simp only[vn,e]
 rw[if_pos ⟨hD,trivial,hn,hp⟩]
theorem aca (n:Nat) (f:Nat->Int):dP (ci n f) [f n]=ci (n+1) f:=by
 unfold dP ci
 rw[List.range_succ,List.map_append]
 rfl
theorem aiK {D:List Int} (hD:jK D):dN (J D) (0:Int)=dK D 0:=by
 rw[acd]
 refine kt fun i _=>?_
 simp[dw]
end Go.Am
end
section
namespace Go.Am
end Go.Am
end
section
namespace Go.Am
def iv:Int×Int×Int->Bool:=fun((k,p,n):Int×Int×Int)=>
 if k=1 then decide (p=0/\n=0) else if k=2 then eE p&&decide (n=0) else if k=3\/k=4\/k=5 then decide ((1<=p/\p<=1000000)/\n=0)
 else if k=6 then decide (p=0/\1<=n/\n<=20) else if k=7 then eE p&&decide (1<=n/\n<=6) else if k=8 then eE p&&decide (p≠2/\n=0) else false
def jI:Int×Int×Int->Int:=fun((k,p,n):Int×Int×Int)=>if k=7 then n else if k=8 then 4 else 1
def bw (r:Int×Int×Int):Nat:=(jI r).toNat
def dO:Int×Int×Int->Int:=fun((k,p,n):Int×Int×Int)=>if k=1 then 1 else if k=3\/k=4\/k=5 then p else if k=6 then 2^n.toNat - 1 else p - 1
def rK (t v:Int):Bool:=decide (0<=v/\v<=t)
def rf (r:Int×Int×Int) (x:List Int):Bool:=decide (x.length=bw r)&&x.all (rK (dO r))
def BN:Int×Int×Int->List Int:=fun((k,p,n):Int×Int×Int)=>bg (dN (bw (k,p,n)) 0) 0 (if k=4 then 0 else if k=5\/k=6 then dO (k,p,n) else 1)
def sm:Nat->(Nat->Int)->Int
 |0,_=>0
 |n+1,f=>sm n f+f n
def kW (om:Bool) (x y:Nat->Int) (t i j:Nat):Int:=if i+j=t then x i*y j else if om=true/\i+j=t+4 then -(x i*y j) else 0
def ox (w:Nat) (f:Nat->Int):List Int:=(List.range w).map f
def d9 (x:List Int):Nat->Int:=fun i=>x.getD i 0
def x7 (p:Int) (om:Bool) (w:Nat) (x y:Nat->Int):List Int:=ox w fun t=>sm w (fun i=>sm w (fun j=>kW om x y t i j))%p
def pq:Int×Int×Int->Int->Int->Int:=fun((k,p,n):Int×Int×Int) a b=>
 if k=1\/k=6 then((a.toNat&&&b.toNat:Nat):Int) else if k=2 then a*b%p else if k=3 then min (a*b) p else if k=4 then min (a+b) p else min a b
def wT (r:Int×Int×Int) (x y:List Int):List Int:=if r.1=7\/r.1=8 then x7 r.2.1 (decide (r.1=8)) (bw r) (d9 x) (d9 y) else[pq r (d9 x 0) (d9 y 0)]
def z7:Int×Int×Int->Option Bool:=fun r=>some (iv r)
def zE:Int×Int×Int->Option Bool:=fun r=>some (iv r)
def xI:Int×Int×Int->Option Int:=fun r=>some (jI r)
def vo:Int×Int×Int->Option Int:=fun r=>some (jI r)
def CH:Int×Int×Int->Option Int:=fun r=>if iv r=true then some (dO r) else none
def zP:Int×Int×Int->Option Int:=fun r=>if iv r=true then some (dO r) else none
def zL:(Int×Int×Int)×List Int->Option Bool:=fun((r,x):(Int×Int×Int)×List Int)=>if iv r=true/\x.length<=9223372036854775806 then some (x.all (rK (dO r))) else none
def Gl:ai:=[(.agg,[.int .i64,.int .i64,.int .i64])]
def SP:ai:=[(.one,[.bool])]
def akS:aN:=[]
def Ha:ai:=[(.agg,[.int .i64,.int .i64,.int .i64])]
def TB:ai:=[(.one,[.bool])]
def alv:aN:=[]
def GH:ai:=[(.agg,[.int .i64,.int .i64,.int .i64])]
def Ta:ai:=[(.one,[.int .i64])]
def ala:aN:=[]
def Hi:ai:=[(.agg,[.int .i64,.int .i64,.int .i64])]
def TI:ai:=[(.one,[.int .i64])]
def alB:aN:=[]
def GG:ai:=[(.agg,[.int .i64,.int .i64,.int .i64])]
def S9:ai:=[(.one,[.int .i64])]
def ak9:aN:=[]
def Hh:ai:=[(.agg,[.int .i64,.int .i64,.int .i64])]
def TH:ai:=[(.one,[.int .i64])]
def alA:aN:=[]
def Gx:ai:=[(.agg,[.int .i64,.int .i64,.int .i64]),(.one,[.list [.int .i64]])]
def S2:ai:=[(.one,[.bool])]
def ak3:aN:=[]
def K9 (NN:Nat):(Int×(Int×Int))->(Option Bool):=
 (fun((i0,i1,i2):(Int×(Int×Int)))=>
 ak (bL i0 (1:Int))
 (ak (bL i1 (0:Int))
 (some (bL i2 (0:Int)))
 (some false))
 (ak (bL i0 (2:Int))
 ((r9 i1).U (fun b3=>
 ak (b3)
 (some (bL i2 (0:Int)))
 (some false)))
 (bD (ak (bL i0 (3:Int))
 (some (Sum.inl ((true,i0),i0,i1,i2)))
 (ak (bL i0 (4:Int))
 (some (Sum.inl ((true,i0),i0,i1,i2)))
 (some (Sum.inl ((bL i0 (5:Int),i0),i0,i1,i2)))))
 (fun((b4,i5),i6,i7,i8)=>
 ak (b4)
 (ak (fM (1:Int) i7)
 (ak (fM i7 (1000000:Int))
 (some (bL i8 (0:Int)))
 (some false))
 (some false))
 (ak (bL i5 (6:Int))
 (ak (bL i7 (0:Int))
 (ak (fM (1:Int) i8)
 (some (fM i8 (20:Int)))
 (some false))
 (some false))
 (ak (bL i5 (7:Int))
 ((r9 i7).U (fun b9=>
 ak (b9)
 (ak (fM (1:Int) i8)
 (some (fM i8 (6:Int)))
 (some false))
 (some false)))
 (ak (bL i5 (8:Int))
 ((r9 i7).U (fun pJ=>
 ak (pJ)
 (ak (dt i7 (2:Int))
 (some (bL i8 (0:Int)))
 (some false))
 (some false)))
 (some false))))))))
def LP (NN:Nat):(Int×(Int×Int))->(Option Bool):=
 (fun((i0,i1,i2):(Int×(Int×Int)))=>
 ak (bL i0 (1:Int))
 (ak (bL i1 (0:Int))
 (some (bL i2 (0:Int)))
 (some false))
 (ak (bL i0 (2:Int))
 ((sf i1).U (fun b3=>
 ak (b3)
 (some (bL i2 (0:Int)))
 (some false)))
 (bD (ak (bL i0 (3:Int))
 (some (Sum.inl ((true,i0),i0,i1,i2)))
 (ak (bL i0 (4:Int))
 (some (Sum.inl ((true,i0),i0,i1,i2)))
 (some (Sum.inl ((bL i0 (5:Int),i0),i0,i1,i2)))))
 (fun((b4,i5),i6,i7,i8)=>
 ak (b4)
 ((gS (i7,(1:Int),(1000000:Int))).U (fun b9=>
 ak (b9)
 (some (bL i8 (0:Int)))
 (some false)))
 (ak (bL i5 (6:Int))
 (ak (bL i7 (0:Int))
 ((gS (i8,(1:Int),(20:Int))).U (fun pJ=>
 some pJ))
 (some false))
 (ak (bL i5 (7:Int))
 ((sf i7).U (fun b11=>
 ak (b11)
 ((gS (i8,(1:Int),(6:Int))).U (fun HI=>
 some HI))
 (some false)))
 (ak (bL i5 (8:Int))
 ((sf i7).U (fun sv=>
 ak (sv)
 (ak (bd (2:Int) i7)
 (some (bL i8 (0:Int)))
 (some false))
 (some false)))
 (some false))))))))
def Lp (NN:Nat):(Int×(Int×Int))->(Option Int):=
 (fun((i0,i1,i2):(Int×(Int×Int)))=>
 ak (bL i0 (7:Int))
 (some i2)
 (ak (bL i0 (8:Int))
 (some (4:Int))
 (some (1:Int))))
def WR (NN:Nat):(Int×(Int×Int))->(Option Int):=
 (fun((i0,i1,i2):(Int×(Int×Int)))=>
 ak (bL i0 (7:Int))
 (some i2)
 (ak (bL i0 (8:Int))
 (some (4:Int))
 (some (1:Int))))
def WM (NN:Nat):(Int×(Int×Int))->(Option Int):=
 (fun((i0,i1,i2):(Int×(Int×Int)))=>
 ak (bL i0 (1:Int))
 (some (1:Int))
 (bD (ak (bL i0 (3:Int))
 (some (Sum.inl ((true,i0),i0,i1,i2)))
 (ak (bL i0 (4:Int))
 (some (Sum.inl ((true,i0),i0,i1,i2)))
 (some (Sum.inl ((bL i0 (5:Int),i0),i0,i1,i2)))))
 (fun((b3,i4),i5,i6,i7)=>
 ak (b3)
 (some i6)
 (ak (bL i4 (6:Int))
 ((xj .i64 (1:Int) i7).U (fun i8=>
 some (dV .i64 i8 1)))
 (some (dV .i64 i6 1))))))
def WQ (NN:Nat):(Int×(Int×Int))->(Option Int):=
 (fun((i0,i1,i2):(Int×(Int×Int)))=>
 ak (bL i0 (1:Int))
 (some (1:Int))
 (bD (ak (bL i0 (3:Int))
 (some (Sum.inl ((true,i0),i0,i1,i2)))
 (ak (bL i0 (4:Int))
 (some (Sum.inl ((true,i0),i0,i1,i2)))
 (some (Sum.inl ((bL i0 (5:Int),i0),i0,i1,i2)))))
 (fun((b3,i4),i5,i6,i7)=>
 ak (b3)
 (some i6)
 (ak (bL i4 (6:Int))
 ((xj .i64 (1:Int) i7).U (fun i8=>
 some (dV .i64 i8 1)))
 (some (dV .i64 i6 1))))))
def Lj (NN:Nat):((Int×(Int×Int))×(List Int))->(Option Bool):=
 (fun(((i0,i1,i2),l3):((Int×(Int×Int))×(List Int)))=>
 (zP (i0,i1,i2)).U (fun i4=>
 bD (bu NN (fun((i5,l6,i7,i8):(Int×((List Int)×(Int×Int))))=>
 ak (bd i8 i7)
 ((dd l6 i8).U (fun i9=>
 ak (bd i9 (0:Int))
 (some (Sum.inr (Sum.inr false)))
 (ak (bd i5 i9)
 (some (Sum.inr (Sum.inr false)))
 (some (Sum.inl (i5,l6,i7,aU .i64 i8 1))))))
 (some (Sum.inr (Sum.inl ()))))
 (i4,l3,aI (J l3),(0:Int)))
 (fun _=>
 some true)))
theorem aeZ {α:Type} (a b:Int) (x y:α):ak (bL a b) x y=if a=b then x else y:=by
 by_cases h:a=b
 ·rw[if_pos h,aH (rj h)]
 ·rw[if_neg h,aK (rh h)]
theorem Yn (a b:Int):bL a b=decide (a=b):=by by_cases h:a=b<;>simp[bL,h]
theorem aks (a b:Int):fM a b=decide (a<=b):=rfl
theorem aky (a b:Int):bd a b=decide (a<b):=rfl
theorem HZ {α:Type} (p:Prop) [Decidable p] (x y:α):ak (decide p) x y=if p then x else y:=by
 by_cases h:p
 ·rw[if_pos h,aH (decide_eq_true h)]
 ·rw[if_neg h,aK (decide_eq_false h)]
theorem B7 {k p n:Int} (h:iv (k,p,n)=true):(k=1/\p=0/\n=0)\/(k=2/\eE p=true/\n=0)\/(k=3/\(1<=p/\p<=1000000)/\n=0)\/(k=4/\(1<=p/\p<=1000000)/\n=0)\/(k=5/\(1<=p/\p<=1000000)/\n=0)\/
  (k=6/\p=0/\1<=n/\n<=20)\/(k=7/\eE p=true/\1<=n/\n<=6)\/(k=8/\eE p=true/\p≠2/\n=0):=by
 simp only[iv] at h
 by_cases h1:k=1
 ·rw[if_pos h1] at h;exact .inl ⟨h1,by simpa using h⟩
 rw[if_neg h1] at h
 by_cases h2:k=2
 ·rw[if_pos h2] at h;simp at h;exact .inr (.inl ⟨h2,h⟩)
 rw[if_neg h2] at h
 by_cases h3:k=3\/k=4\/k=5
 ·rw[if_pos h3] at h
  simp only[decide_eq_true_eq] at h
  rcases h3 with h3|h3|h3
  ·exact .inr (.inr (.inl ⟨h3,h⟩))
  ·exact .inr (.inr (.inr (.inl ⟨h3,h⟩)))
  ·exact .inr (.inr (.inr (.inr (.inl ⟨h3,h⟩))))
 rw[if_neg h3] at h
 by_cases h4:k=6
 ·rw[if_pos h4] at h;simp at h;exact .inr (.inr (.inr (.inr (.inr (.inl ⟨h4,h⟩)))))
 rw[if_neg h4] at h
 by_cases h5:k=7
 ·rw[if_pos h5] at h;simp at h;exact .inr (.inr (.inr (.inr (.inr (.inr (.inl ⟨h5,h⟩))))))
 rw[if_neg h5] at h
 by_cases h6:k=8
 ·rw[if_pos h6] at h;simp at h;exact .inr (.inr (.inr (.inr (.inr (.inr (.inr ⟨h6,h⟩))))))
 rw[if_neg h6] at h
 cases h
theorem agh (x:Int×Int×Int) (y:Bool) (h:zE x=some y):K9 az x=some y:=by
 obtain⟨k,p,n⟩:=x
 rw[<-h]
 simp only[zE,K9,iv,r9,aw,Yn,aks,HZ]
 by_cases h1:k=1
 ·rw[if_pos h1,if_pos h1];by_cases hp:p=0<;>by_cases hn:n=0<;>simp[hp,hn]
 rw[if_neg h1,if_neg h1]
 by_cases h2:k=2
 ·rw[if_pos h2,if_pos h2];cases eE p<;>rfl
 rw[if_neg h2,if_neg h2]
 have hd:(if k=3 then some (Sum.inl ((true,k),k,p,n)) else if k=4 then some (Sum.inl ((true,k),k,p,n)) else some (Sum.inl ((decide (k=5),k),k,p,n)):Option (((Bool×Int)×Int×Int×Int)⊕Bool))=some (Sum.inl ((decide (k=3\/k=4\/k=5),k),k,p,n)):=by
  by_cases h3:k=3
  ·simp[h3]
  ·by_cases h4:k=4
   ·simp[h4]
   ·simp[h3,h4]
 rw[hd,eU]
 simp only[HZ]
 by_cases h3:k=3\/k=4\/k=5
 ·rw[if_pos h3,if_pos h3]
  by_cases ha:1<=p
  ·by_cases hb:p<=1000000<;>simp[ha,hb]
  ·simp[ha]
 rw[if_neg h3,if_neg h3]
 by_cases h4:k=6
 ·rw[if_pos h4,if_pos h4]
  by_cases ha:p=0
  ·by_cases hb:1<=n<;>simp[ha,hb]
  ·simp[ha]
 rw[if_neg h4,if_neg h4]
 by_cases h5:k=7
 ·rw[if_pos h5,if_pos h5]
  cases eE p
  ·rfl
  ·rw[aH rfl]
   by_cases hb:1<=n<;>simp[hb]
 rw[if_neg h5,if_neg h5]
 by_cases h6:k=8
 ·rw[if_pos h6,if_pos h6]
  cases eE p
  ·rfl
  ·rw[aH rfl,JM,Bool.true_and]
   by_cases hb:p=2<;>simp[hb,ak]
 rw[if_neg h6,if_neg h6]
theorem agY (x:Int×Int×Int) (y:Bool) (h:z7 x=some y):LP az x=some y:=by
 obtain⟨k,p,n⟩:=x
 rw[<-h]
 simp only[z7,LP,iv,sf,gS,aw,Yn,aky,HZ]
 by_cases h1:k=1
 ·rw[if_pos h1,if_pos h1];by_cases hp:p=0<;>by_cases hn:n=0<;>simp[hp,hn]
 rw[if_neg h1,if_neg h1]
 by_cases h2:k=2
 ·rw[if_pos h2,if_pos h2];cases eE p<;>rfl
 rw[if_neg h2,if_neg h2]
 have hd:(if k=3 then some (Sum.inl ((true,k),k,p,n)) else if k=4 then some (Sum.inl ((true,k),k,p,n)) else some (Sum.inl ((decide (k=5),k),k,p,n)):Option (((Bool×Int)×Int×Int×Int)⊕Bool))=some (Sum.inl ((decide (k=3\/k=4\/k=5),k),k,p,n)):=by
  by_cases h3:k=3
  ·simp[h3]
  ·by_cases h4:k=4
   ·simp[h4]
   ·simp[h3,h4]
 rw[hd,eU]
 simp only[HZ]
 by_cases h3:k=3\/k=4\/k=5
 ·rw[if_pos h3,if_pos h3]
  by_cases ha:1<=p/\p<=1000000<;>simp[ha]
 rw[if_neg h3,if_neg h3]
 by_cases h4:k=6
 ·rw[if_pos h4,if_pos h4]
  by_cases ha:p=0<;>simp[ha]
 rw[if_neg h4,if_neg h4]
 by_cases h5:k=7
 ·rw[if_pos h5,if_pos h5]
  cases eE p<;>rfl
 rw[if_neg h5,if_neg h5]
 by_cases h6:k=8
 ·rw[if_pos h6,if_pos h6]
  cases hp:eE p
  ·rfl
  ·have:=jT hp
   rw[aH rfl,Bool.true_and]
   by_cases hb:p=2
   ·simp[hb]
   ·rw[if_pos (by omega)];simp[hb]
 rw[if_neg h6,if_neg h6]
theorem YL (x:Int×Int×Int) (y:Int) (h:vo x=some y):Lp az x=some y:=by
 obtain⟨k,p,n⟩:=x
 rw[<-h]
 simp only[vo,Lp,jI,aeZ]
 by_cases h7:k=7
 ·rw[if_pos h7,if_pos h7]
 ·rw[if_neg h7,if_neg h7];by_cases h8:k=8<;>simp[h8]
theorem ag4 (x:Int×Int×Int) (y:Int) (h:xI x=some y):WR az x=some y:=YL x y h
theorem apF {n:Int} (h0:0<=n) (h1:n<=60):xj .i64 1 n=some (2^n.toNat):=by
 obtain⟨m,rfl⟩:=jD h0
 rw[apG (by omega),Int.toNat_natCast]
 congr 1
theorem abJ {n:Int} (h0:0<=n) (h1:n<=20):1<=(2:Int)^n.toNat/\(2:Int)^n.toNat<=1048576:=by
 have a:(2:Nat)^n.toNat<=2^20:=Nat.pow_le_pow_right (by decide) (by omega)
 have b:1<=(2:Nat)^n.toNat:=Nat.one_le_two_pow
 have e:(((2:Nat)^n.toNat:Nat):Int)=(2:Int)^n.toNat:=by push_cast;rfl
 rw[<-e]
 omega
theorem YK (x:Int×Int×Int) (y:Int) (h:zP x=some y):WM az x=some y:=by
 obtain⟨k,p,n⟩:=x
 simp only[zP] at h
 split at h
 ·rename_i hr
  rw[<-h]
  rcases B7 hr with⟨rfl,rfl,rfl⟩|⟨rfl,hp,rfl⟩|⟨rfl,hp,rfl⟩|⟨rfl,hp,rfl⟩|⟨rfl,hp,rfl⟩|⟨rfl,rfl,hn⟩|⟨rfl,hp,hn⟩|⟨rfl,hp,jo,rfl⟩
  ·rfl
  ·have:=jT hp
   exact congrArg some (kV (by omega) (by omega))
  ·rfl
  ·rfl
  ·rfl
  ·have h1:=abJ (n:=n) (by omega) hn.2
   show(xj .i64 1 n).U _=_
   rw[apF (by omega) (by omega),aw,kV (by omega) (by omega)]
   rfl
  ·have:=jT hp
   exact congrArg some (kV (by omega) (by omega))
  ·have:=jT hp
   exact congrArg some (kV (by omega) (by omega))
 ·cases h
theorem ag3 (x:Int×Int×Int) (y:Int) (h:CH x=some y):WQ az x=some y:=YK x y h
theorem aqr {r:Int×Int×Int} (h:iv r=true):0<=dO r/\dO r<=1048576:=by
 obtain⟨k,p,n⟩:=r
 rcases B7 h with⟨rfl,rfl,rfl⟩|⟨rfl,hp,rfl⟩|⟨rfl,hp,rfl⟩|⟨rfl,hp,rfl⟩|⟨rfl,hp,rfl⟩|⟨rfl,rfl,hn⟩|⟨rfl,hp,hn⟩|⟨rfl,hp,jo,rfl⟩
 ·simp[dO]
 ·have:=jT hp;simp[dO];omega
 ·simp[dO];omega
 ·simp[dO];omega
 ·simp[dO];omega
 ·have h1:=abJ (n:=n) (by omega) hn.2
  simp only[dO,Int.reduceEq,reduceIte,or_self]
  omega
 ·have:=jT hp;simp[dO];omega
 ·have:=jT hp;simp[dO];omega
theorem zA {r:Int×Int×Int} (h:iv r=true):jI r=(bw r:Int)/\1<=bw r/\bw r<=6:=by
 obtain⟨k,p,n⟩:=r
 rcases B7 h with⟨rfl,rfl,rfl⟩|⟨rfl,hp,rfl⟩|⟨rfl,hp,rfl⟩|⟨rfl,hp,rfl⟩|⟨rfl,hp,rfl⟩|⟨rfl,rfl,hn⟩|⟨rfl,hp,hn⟩|⟨rfl,hp,jo,rfl⟩
 ·simp[bw,jI]
 ·simp[bw,jI]
 ·simp[bw,jI]
 ·simp[bw,jI]
 ·simp[bw,jI]
 ·simp[bw,jI]
 ·simp[bw,jI];omega
 ·simp[bw,jI]
theorem ags (x:(Int×Int×Int)×List Int) (y:Bool) (h:zL x=some y):Lj az x=some y:=by
 obtain⟨⟨k,p,n⟩,l⟩:=x
 simp only[zL] at h
 split at h
 ·rename_i hc
  obtain⟨hr,hl⟩:=hc
  rw[<-h]
  have hb:=aqr hr
  simp only[Lj]
  rw[show zP (k,p,n)=some (dO (k,p,n)) from if_pos hr,aw]
  generalize dO (k,p,n)=t at hb⊢
  rw[Ev l (fun i=>(t,l,aI (J l),(i:Int))) (rK t) (.inr false) (.inl ()) ?_ ?_ ?_ ?_ (cX (by omega))]
  ·cases l.all (rK t)<;>rfl
  ·intro i a ha hb
   rw[aH (mP ha),dj,ha,aw]
   simp only[rK,decide_eq_true_eq] at hb
   rw[aK (cP hb.1),aK (cP hb.2),pj ha (by omega)]
  ·intro i a ha hb
   rw[aH (mP ha),dj,ha,aw]
   simp only[rK,decide_eq_false_iff_not] at hb
   by_cases h0:a<0
   ·rw[aH (df h0)]
   ·rw[aK (cP (by omega)),aH (df (by omega))]
  ·rw[aK (rO l)]
  ·rfl
 ·cases h
theorem aoX {w:Nat} {p:Int} (h:w=1):bg (dN w (0:Int)) 0 p=[p]:=by subst h;rfl
theorem aqj {α:Type} {xs:List α} {n:Nat} (h:xs.length=n):c9 xs n=some xs:=by subst h;exact gO xs
theorem FA (w:Nat) (f:Nat->Int):(ox w f).length=w:=by simp[ox]
theorem Fz {w j:Nat} (f:Nat->Int) (h:j<w):(ox w f)[j]? =some (f j):=by simp[ox,h]
theorem adH {w:Nat} {f g:Nat->Int} (h:∀j,j<w->f j=g j):ox w f=ox w g:=List.map_congr_left fun j hj=>h j (List.mem_range.1 hj)
theorem aqi {w:Nat} (f:Nat->Int) (j:Nat) (v:Int):(ox w f).set j v=ox w (fun i=>if i=j then v else f i):=by
 apply List.ext_getElem?
 intro i
 by_cases hi:i<w
 ·rw[Fz _ hi]
  by_cases hj:j=i
  ·subst hj
   rw[List.getElem?_set_self (by rw[FA];exact hi),if_pos rfl]
  ·rw[List.getElem?_set_ne hj,Fz _ hi,if_neg (fun e=>hj e.symm)]
 ·rw[List.getElem?_eq_none (by rw[List.length_set,FA];omega),List.getElem?_eq_none (by rw[FA];omega)]
theorem Y6 {x:List Int} {j:Nat} (h:j<x.length):x[j]? =some (d9 x j):=by
 rw[List.getElem?_eq_getElem h]
 simp[d9,List.getD_eq_getElem?_getD,List.getElem?_eq_getElem h]
theorem Ni {w j:Nat} (f:Nat->Int) (h:j<w):d9 (ox w f) j=f j:=by simp[d9,List.getD_eq_getElem?_getD,Fz f h]
theorem aqg {x:List Int} {w:Nat} (h:x.length=w):ox w (d9 x)=x:=by
 subst h
 apply List.ext_getElem?
 intro i
 by_cases hi:i<x.length
 ·rw[Fz _ hi,Y6 hi]
 ·rw[List.getElem?_eq_none (by rw[FA];omega),List.getElem?_eq_none (by omega)]
theorem aqh (w:Nat) (c:Int):dN w c=ox w fun _=>c:=by
 apply List.ext_getElem?
 intro i
 by_cases hi:i<w
 ·rw[Fz _ hi];simp[dN,hi]
 ·rw[List.getElem?_eq_none (by simp[dN];omega),List.getElem?_eq_none (by rw[FA];omega)]
theorem Yi {r:Int×Int×Int} {x:List Int} (h:rf r x=true):x.length=bw r:=by
 simp only[rf,Bool.and_eq_true,decide_eq_true_eq] at h;exact h.1
theorem Yh {r:Int×Int×Int} {x:List Int} (h:rf r x=true) {j:Nat} (hj:j<bw r):0<=d9 x j/\d9 x j<=dO r:=by
 simp only[rf,Bool.and_eq_true,decide_eq_true_eq] at h
 have:=List.all_eq_true.1 h.2 (d9 x j) (List.mem_of_getElem? (Y6 (by rw[h.1];exact hj)))
 simpa[rK] using this
theorem Dc {r:Int×Int×Int} {x:List Int} (h:rf r x=true) (hw:bw r=1):x=[d9 x 0]/\0<=d9 x 0/\d9 x 0<=dO r:=by
 have hl:=Yi h
 rw[hw] at hl
 match x,hl with
 |[a],_=>exact⟨rfl,Yh h (j:=0) (by omega)⟩
theorem Ff {f g:Nat->Int}:∀{n:Nat},(∀i,i<n->f i=g i)->sm n f=sm n g
 |0,_=>rfl
 |n+1,h=>by simp only[sm];rw[Ff (n:=n) (fun i hi=>h i (by omega)),h n (by omega)]
structure KY (k p:Int) (w:Nat):Prop where
 ck:k=7\/k=8
 cp:2<=p/\p<=1000003
 cw:1<=w/\w<=6
 w8:k=8->w=4
theorem Xt {k p n:Int} (h:iv (k,p,n)=true) (hk:k=7\/k=8):KY k p (bw (k,p,n)):=by
 have hw:=zA h
 refine⟨hk,?_,hw.2,fun e=>by subst e;rfl⟩
 rcases B7 h with⟨rfl,rfl,rfl⟩|⟨rfl,hp,rfl⟩|⟨rfl,hp,rfl⟩|⟨rfl,hp,rfl⟩|⟨rfl,hp,rfl⟩|⟨rfl,rfl,hn⟩|⟨rfl,hp,hn⟩|⟨rfl,hp,jo,rfl⟩
 all_goals first|exact jT hp|(exfalso;omega)
theorem Ey {r:Int×Int×Int} {a b:Int} (h:¬(r.1=7\/r.1=8)):wT r [a] [b]=[pq r a b]:=by simp only[wT];rw[if_neg h];rfl
theorem Yj {r:Int×Int×Int} {x y:List Int} (hx:rf r x=true) (hy:rf r y=true) (hw:bw r=1):∃a b,x=[a]/\y=[b]/\(0<=a/\a<=dO r)/\0<=b/\b<=dO r:=
 ⟨_,_,(Dc hx hw).1,(Dc hy hw).1,(Dc hx hw).2,(Dc hy hw).2⟩
theorem anr (k p n:Int):BN (k,p,n)=ox (bw (k,p,n)) fun j=>if j=0 then(if k=4 then 0 else if k=5\/k=6 then dO (k,p,n) else 1) else 0:=by
 simp only[BN]
 rw[aqh]
 exact aqi _ 0 _
end Go.Am
end
section
namespace Go.Am
def ch:Nat->Nat->Nat
 |_,0=>1
 |0,_+1=>0
 |n+1,k+1=>ch n k+ch n (k+1)
theorem HN:∀{n k:Nat},n<k->ch n k=0
 |0,k+1,_=>by simp[ch]
 |n+1,k+1,h=>by simp[ch,HN (show n<k by omega),HN (show n<k+1 by omega)]
theorem C0 (n:Nat):ch n 0=1:=by cases n<;>rfl
theorem Xy:∀n,ch n n=1
 |0=>rfl
 |n+1=>by simp[ch,Xy n,HN (Nat.lt_succ_self n)]
theorem HO:∀(n k:Nat),(k+1)*ch (n+1) (k+1)=(n+1)*ch n k
 |0,0=>by simp[ch]
 |0,k+1=>by simp[ch]
 |n+1,0=>by
  have h:=HO n 0
  simp only[C0] at h⊢
  have e:ch (n+1+1) (0+1)=ch (n+1) 0+ch (n+1) (0+1):=rfl
  rw[e,C0]
  omega
 |n+1,k+1=>by
  have h1:=HO n k
  have h2:=HO n (k+1)
  have e1:ch (n+1+1) (k+1+1)=ch (n+1) (k+1)+ch (n+1) (k+1+1):=rfl
  have e2:ch (n+1) (k+1)=ch n k+ch n (k+1):=rfl
  rw[e1]
  generalize ch (n+1) (k+1+1)=B at*
  generalize ch (n+1) (k+1)=A at*
  generalize ch n k=u at*
  generalize ch n (k+1)=v at*
  subst e2
  grind
def nA (f:Nat->Nat):Nat->Nat
 |0=>0
 |m+1=>nA f m+f m
theorem ady (n a:Nat):∀m,nA (fun k=>ch (n+1) k*a^k) (m+1)=nA (fun k=>ch n k*a^k) (m+1)+a*nA (fun k=>ch n k*a^k) m
 |0=>by simp[nA,C0]
 |m+1=>by
  have h:=ady n a m
  simp only[nA] at h⊢
  have e:ch (n+1) (m+1)=ch n m+ch n (m+1):=rfl
  rw[h,e,Nat.pow_succ]
  grind
theorem Xj (a:Nat):∀n,(a+1)^n=nA (fun k=>ch n k*a^k) (n+1)
 |0=>by simp[nA,C0]
 |n+1=>by
  rw[ady]
  have e:nA (fun k=>ch n k*a^k) (n+1+1)=nA (fun k=>ch n k*a^k) (n+1):=by
   show nA _ (n+1)+ch n (n+1)*a^(n+1)=_
   rw[HN (Nat.lt_succ_self n)];simp
  rw[e,<-Xj a n,Nat.pow_succ]
  grind
theorem adx {p:Nat} {f:Nat->Nat}:∀m,(∀k,0<k->k<=m->p∣f k)->nA f (m+1)%p=f 0%p
 |0,h=>by simp[nA]
 |m+1,h=>by
  have i:=adx m fun k h1 h2=>h k h1 (by omega)
  obtain⟨c,hc⟩:=h (m+1) (by omega) (Nat.le_refl _)
  show(nA f (m+1)+f (m+1))%p=_
  rw[hc,Nat.add_mul_mod_self_left,i]
def xR (p:Nat):Prop:=2<=p/\∀d,d∣p->d=1\/d=p
theorem xR.XV {p a:Nat} (hp:xR p) (h:¬p∣a):Nat.Coprime p a:=by
 have:=hp.2 (Nat.gcd p a) (Nat.gcd_dvd_left p a)
 rcases this with h1|h1
 ·exact h1
 ·exact absurd (h1▸Nat.gcd_dvd_right p a) h
theorem xR.ch {p k:Nat} (hp:xR p) (h1:0<k) (h2:k<p):p∣ch p k:=by
 obtain⟨q,rfl⟩:∃q,p=q+1:=⟨p - 1,by omega⟩
 obtain⟨j,rfl⟩:∃j,k=j+1:=⟨k - 1,by omega⟩
 have hm:=HO q j
 have hd:(q+1)∣(j+1)*Go.Am.ch (q+1) (j+1):=⟨Go.Am.ch q j,hm⟩
 exact(hp.XV fun h=>absurd (Nat.le_of_dvd (by omega) h) (by omega)).dvd_of_dvd_mul_left hd
theorem YO {p:Nat} (hp:xR p):∀a,a^p%p=a%p
 |0=>by rw[Nat.zero_pow (by have:=hp.1;omega)]
 |a+1=>by
  rw[Xj]
  show(nA _ p+Go.Am.ch p p*a^p)%p=_
  obtain⟨q,rfl⟩:∃q,p=q+1:=⟨p - 1,by have:=hp.1;omega⟩
  have h:=adx (p:=q+1) (f:=fun k=>Go.Am.ch (q+1) k*a^k) q fun k h1 h2=>Nat.dvd_trans (hp.ch h1 (by omega)) (Nat.dvd_mul_right _ _)
  rw[Xy,Nat.one_mul,Nat.add_mod,h,YO hp a]
  simp only[C0,Nat.pow_zero,Nat.mul_one]
  rw[<-Nat.add_mod,Nat.add_comm]
theorem ahp {p a:Nat} (hp:xR p) (ha:¬p∣a):a*a^(p - 2)%p=1:=by
 have h2:=hp.1
 have h:=YO hp a
 have e:a^p=a*(a*a^(p - 2)):=by
  obtain⟨q,rfl⟩:∃q,p=q+2:=⟨p - 2,by omega⟩
  rw[Nat.pow_succ,Nat.pow_succ,Nat.add_sub_cancel]
  rw[Nat.mul_comm a (a^q),Nat.mul_comm a (a^q*a)]
 rw[e] at h
 have IJ:0<a:=by
  rcases Nat.eq_zero_or_pos a with h|h
  ·subst h;exact absurd ⟨0,by simp⟩ ha
  ·exact h
 have hz:0<a*a^(p - 2):=Nat.mul_pos IJ (Nat.pow_pos IJ)
 generalize a*a^(p - 2)=z at h hz⊢
 obtain⟨y,rfl⟩:∃y,z=y+1:=⟨z - 1,by omega⟩
 have hd:p∣a*y:=by
  have e:a*(y+1)=a*y+a:=by rw[Nat.mul_add,Nat.mul_one]
  rw[e] at h
  have:(a*y+a - a)%p=0:=Nat.sub_mod_eq_zero_of_mod_eq h
  rw[Nat.add_sub_cancel] at this
  exact Nat.dvd_of_mod_eq_zero this
 obtain⟨c,rfl⟩:=(hp.XV ha).dvd_of_dvd_mul_left hd
 rw[Nat.add_comm,Nat.add_mul_mod_self_left]
 exact Nat.mod_eq_of_lt (by omega)
end Go.Am
end
section
namespace Go.Am
theorem aiZ {p:Int} (h:eE p=true):xR p.toNat:=by
 have hp:=jT h
 obtain⟨n,rfl⟩:=jD (show 0<=p by omega)
 simp only[Int.toNat_natCast]
 refine⟨by omega,fun d hd=>?_⟩
 rcases Nat.lt_or_ge d 2 with h2|h2
 ·rcases Nat.eq_zero_or_pos d with h0|h0
  ·subst h0
   have:=Nat.eq_zero_of_zero_dvd hd
   omega
  ·exact .inl (by omega)
 ·obtain⟨e,he⟩:=hd
  simp only[eE,Bool.and_eq_true,decide_eq_true_eq,Bool.not_eq_true',List.any_eq_false] at h
  have cV:∀a b:Nat,2<=a->2<=b->a<=b->n≠a*b:=by
   intro a b ha hb eR e
   have h1:a*a<=n:=by rw[e];exact Nat.mul_le_mul_left _ eR
   have h3:a<1001:=by
    rcases Nat.lt_or_ge a 1001 with h|h
    ·exact h
    ·have:=Nat.mul_le_mul h h;omega
   refine h.2 a (by simp;omega) ?_
   unfold pP
   have ea:((a:Int))*(a:Int)=((a*a:Nat):Int):=by norm_cast
   simp only[Bool.and_eq_true,decide_eq_true_eq]
   constructor
   ·rw[ea];omega
   ·rw[e];push_cast;exact Int.mul_emod_right _ _
  right
  rcases Nat.lt_or_ge e 2 with h3|h3
  ·have:e=1:=by
    rcases Nat.eq_zero_or_pos e with h0|h0
    ·subst h0;simp at he;omega
    ·omega
   subst this;omega
  ·exfalso
   rcases Nat.le_total d e with OU|OU
   ·exact cV d e h2 h3 OU he
   ·exact cV e d h3 h2 OU (by rw[he,Nat.mul_comm])
theorem abK (x:Int) (b:Nat):∀m:Nat,(x*x)^m*x^b=x^(2*m+b)
 |0=>by simp
 |m+1=>by
  have ih:=abK x b m
  rw[show 2*(m+1)+b=2*m+b+1+1 by omega,Int.pow_succ,Int.pow_succ (n:=2*m+b+1),Int.pow_succ (n:=2*m+b),<-ih]
  grind
theorem aiT {p:Int} (hp:eo p):∀(n:Nat) (out x:Int),io p out x n%p=out*x^n%p:=by
 intro n
 induction n using Nat.strongRecOn with
 |ind n ih=>
  intro out x
  by_cases h0:n=0
  ·subst h0;rw[Jg];simp
  ·rw[Jh h0,ih (n/2) (by omega)]
   have e:x^n=(x*x)^(n/2)*x^(n%2):=by
    rw[abK,Nat.div_add_mod]
   rw[e]
   have h1:((x*x%p)^(n/2))%p=((x*x)^(n/2))%p:=by
    have:∀k:Nat,((x*x%p)^k)%p=((x*x)^k)%p:=by
     intro k
     induction k with
     |zero=>simp
     |succ k ih=>rw[Int.pow_succ,Int.pow_succ,Int.mul_emod,ih,Int.emod_emod,<-Int.mul_emod]
    exact this _
   by_cases hb:n%2=1
   ·rw[if_pos hb,hb,Int.mul_emod,h1,Int.emod_emod,<-Int.mul_emod]
    congr 1
    grind
   ·rw[if_neg hb,show n%2=0 by omega,Int.mul_emod,h1,<-Int.mul_emod]
    congr 1
    grind
theorem aiX {p x:Int} (yB:eE p=true) (hx:gw p x) (h0:x≠0):x*io p 1 x (p - 2).toNat%p=1:=by
 have hp:=jT yB
 have be:eo p:=⟨hp.1,hp.2⟩
 obtain⟨n,rfl⟩:=jD (show 0<=p by omega)
 obtain⟨a,rfl⟩:=jD hx.1
 have hN:=aiZ yB
 simp only[Int.toNat_natCast] at hN
 have ha:¬n∣a:=fun h=>by
  have:=Nat.le_of_dvd (by omega) h
  have:=hx.2
  omega
 have hf:=ahp hN ha
 have e:(((n:Int)) - 2).toNat=n - 2:=by omega
 rw[Int.mul_emod,aiT be,e,Int.one_mul,<-Int.mul_emod]
 exact_mod_cast hf
def f8 (f g:Nat->Int):Nat->Int
 |0=>0
 |n+1=>f8 f g n+f n*g n
theorem adv {p:Int} {f f' g:Nat->Int}:∀n,(∀k,k<n->∃q,f k=f' k+p*q)->∃q,f8 f g n=f8 f' g n+p*q
 |0,_=>⟨0,by simp[f8]⟩
 |n+1,h=>by
  obtain⟨q,hq⟩:=adv (g:=g) n fun k hk=>h k (by omega)
  obtain⟨q',ez⟩:=h n (by omega)
  exact⟨q+q'*g n,by simp only[f8,hq,ez];grind⟩
theorem Wa (f f2 g:Nat->Int) (c:Int):∀n,f8 (fun k=>f k+c*f2 k) g n=f8 f g n+c*f8 f2 g n
 |0=>by simp[f8]
 |n+1=>by simp only[f8,Wa f f2 g c n];grind
theorem KA (f g g2:Nat->Int) (c:Int):∀n,f8 f (fun k=>g k - c*g2 k) n=f8 f g n - c*f8 f g2 n
 |0=>by simp[f8]
 |n+1=>by simp only[f8,KA f g g2 c n];grind
theorem Wb (f g:Nat->Int) (c:Int):∀n,f8 (fun k=>f k*c) g n=f8 f g n*c
 |0=>by simp[f8]
 |n+1=>by simp only[f8,Wb f g c n];grind
theorem Wc (f g:Nat->Int) (c:Int):∀n,f8 f (fun k=>g k*c) n=f8 f g n*c
 |0=>by simp[f8]
 |n+1=>by simp only[f8,Wc f g c n];grind
def dl (a b:Nat):Int:=if a=b then 1 else 0
def lk (p:Int) (n:Nat) (E X:bR):Prop:=∀a,a<n->∀b,b<n->∃q,f8 (E a) (fun k=>X k b) n=dl a b+p*q
theorem lk.congr {p:Int} {n:Nat} {E E' X:bR} (h:lk p n E X) (he:∀a,a<n->∀k,k<n->∃q,E' a k=E a k+p*q):lk p n E' X:=by
 intro a ha b hb
 obtain⟨q,hq⟩:=h a ha b hb
 obtain⟨q',ez⟩:=adv (p:=p) (f:=E' a) (f':=E a) (g:=fun k=>X k b) n (he a ha)
 exact⟨q+q',by rw[ez,hq];grind⟩
theorem lk.swap {p:Int} {n:Nat} {E X:bR} (h:lk p n E X) {s t:Nat} (hs:s<n) (ht:t<n):∃X',lk p n (ff E s t) X':=by
 let sw:Nat->Nat:=fun i=>if i=s then t else if i=t then s else i
 have I9:∀i,i<n->sw i<n:=by
  intro i hi
  show(if i=s then t else if i=t then s else i)<n
  split
  ·exact ht
  ·split
   ·exact hs
   ·exact hi
 have v9:∀i j,sw i=sw j->i=j:=by
  intro i j
  show(if i=s then t else if i=t then s else i)=(if j=s then t else if j=t then s else j)->i=j
  intro h
  repeat' split at h
  all_goals omega
 refine⟨fun k b=>X k (sw b),fun a ha b hb=>?_⟩
 obtain⟨q,hq⟩:=h (sw a) (I9 a ha) (sw b) (I9 b hb)
 refine⟨q,?_⟩
 have e:ff E s t a=E (sw a):=by
  funext k
  show(if a=s then E t k else if a=t then E s k else E a k)=E (if a=s then t else if a=t then s else a) k
  split
  ·rfl
  ·split<;>rfl
 rw[e,hq]
 congr 1
 unfold dl
 by_cases eR:a=b
 ·subst eR;simp
 ·rw[if_neg eR,if_neg fun h=>eR (v9 _ _ h)]
theorem lk.aps {p inv u:Int} {n:Nat} {E X:bR} (h:lk p n E X) {t:Nat} (ht:t<n) (hu:u*inv%p=1):∃X',lk p n (u9 p inv E t) X':=by
 have mE:∃z,u*inv=1+p*z:=⟨u*inv/p,by have:=Int.emod_add_mul_ediv (u*inv) p;omega⟩
 obtain⟨z,hz⟩:=mE
 refine⟨fun k b=>if b=t then X k t*u else X k b,lk.congr (E:=fun a k=>if a=t then E t k*inv else E a k) (fun a ha b hb=>?_) (fun a ha k hk=>?_)⟩
 ·obtain⟨q,hq⟩:=h a ha b hb
  by_cases cg:a=t
  ·subst cg
   by_cases m6:b=a
   ·subst m6
    refine⟨z+q*inv*u,?_⟩
    simp only[if_true]
    rw[Wb,Wc,hq,dl,if_pos rfl]
    grind
   ·refine⟨q*inv,?_⟩
    simp only[if_true,if_neg m6]
    rw[Wb,hq,dl,if_neg (Ne.symm m6)]
    grind
  ·by_cases m6:b=t
   ·subst m6
    refine⟨q*u,?_⟩
    simp only[if_neg cg,if_true]
    rw[Wc]
    have:f8 (fun k=>E a k) (fun k=>X k b) n=dl a b+p*q:=hq
    rw[this,dl,if_neg cg]
    grind
   ·refine⟨q,?_⟩
    simp only[if_neg cg,if_neg m6]
    exact hq
 ·unfold u9
  by_cases cg:a=t
  ·simp only[cg,if_true]
   refine⟨-(E t k*inv/p),?_⟩
   have:=Int.emod_add_mul_ediv (E t k*inv) p
   have e:p* -(E t k*inv/p)= -(p*(E t k*inv/p)):=Int.mul_neg _ _
   omega
  ·simp only[cg,if_false]
   exact⟨0,by simp⟩
theorem lk.add {p f:Int} {n:Nat} {E E' X:bR} (h:lk p n E X) {m t:Nat} (hm:m<n) (ht:t<n) (A8:m≠t) (he:∀a,a<n->∀k,k<n->∃q,E' a k=(if a=m then E m k+f*E t k else E a k)+p*q):∃X',lk p n E' X':=by
 refine⟨fun k b=>if b=t then X k t - f*X k m else X k b,lk.congr (E:=fun a k=>if a=m then E m k+f*E t k else E a k) (fun a ha b hb=>?_) he⟩
 obtain⟨q1,h1⟩:=h a ha b hb
 obtain⟨q2,h2⟩:=h t ht b hb
 obtain⟨q3,h3⟩:=h a ha m hm
 obtain⟨q4,h4⟩:=h t ht m hm
 have jM:f8 (fun k=>E a k) (fun k=>X k b) n=dl a b+p*q1:=h1
 have AP:f8 (fun k=>E t k) (fun k=>X k b) n=dl t b+p*q2:=h2
 have vV:f8 (fun k=>E a k) (fun k=>X k m) n=dl a m+p*q3:=h3
 have h4':f8 (fun k=>E t k) (fun k=>X k m) n=dl t m+p*q4:=h4
 have d1:dl t m=0:=if_neg (Ne.symm A8)
 by_cases yl:a=m
 ·subst yl
  have d2:dl a a=1:=if_pos rfl
  by_cases m6:b=t
  ·subst m6
   have d3:dl a b=0:=if_neg A8
   have d4:dl b b=1:=if_pos rfl
   refine⟨q1+f*q2 - f*q3 - f*f*q4,?_⟩
   simp only[if_true]
   rw[Wa,KA,KA,jM,AP,vV,h4',d1,d2,d3,d4]
   grind
  ·refine⟨q1+f*q2,?_⟩
   have d3:dl t b=0:=if_neg (Ne.symm m6)
   simp only[if_true,if_neg m6]
   rw[Wa,jM,AP,d3]
   grind
 ·by_cases m6:b=t
  ·subst m6
   have d3:dl a m=0:=if_neg yl
   refine⟨q1 - f*q3,?_⟩
   simp only[if_neg yl,if_true]
   rw[KA,jM,vV,d3]
   grind
  ·refine⟨q1,?_⟩
   simp only[if_neg yl,if_neg m6]
   exact jM
def RK (p:Int) (n:Nat) (s:bR×List Int×Int) (j:Nat):Prop:=
 (∃X,lk p n (fun a k=>s.1 a (n+k)) X)/\∀b,b<j->∀i,s.2.1.length<=i->i<n->s.1 i b=0
theorem RK.step {p:Int} {n:Nat} {s:bR×List Int×Int} {j:Nat} (yB:eE p=true) (hj:j<2*n) (I:RI p n (2*n) s j) (h:RK p n s j):RK p n (mS p n s j) (j+1):=by
 have hp:eo p:=jT yB
 obtain⟨⟨X,hX⟩,hz⟩:=h
 obtain⟨M,L,d⟩:=s
 simp only at hX hz
 by_cases hl:L.length<n
 ·cases hk:iM M j (n - L.length) L.length with
  |none=>
   rw[Sp (s:=(M,L,d)) hl hk]
   refine⟨⟨X,hX⟩,fun b hb i h1 h2=>?_⟩
   by_cases OJ:b=j
   ·subst OJ;exact Sh hk i h1 (by simp only at h1;omega)
   ·exact hz b (by omega) i h1 h2
  |some k=>
   rw[Sq (s:=(M,L,d)) hl hk]
   simp only
   have hq:=EM hk
   have IY:k<n:=by omega
   have hM:fC p n (2*n) M:=I.m
   have hx:gw p (M k j):=hM k IY j hj
   have I9:ff M L.length k L.length j=M k j:=if_pos rfl
   have hi:=aiX yB hx hq.2.2
   generalize wa:io p 1 (M k j) (p - 2).toNat=inv at hi
   have aih:qE p M L.length j k=u9 p inv (ff M L.length k) L.length:=by unfold qE;rw[I9,wa]
   rw[aih]
   have hS:fC p n (2*n) (ff M L.length k):=KB hM hl IY
   generalize IH:u9 p inv (ff M L.length k) L.length=M2
   have aqS:fC p n (2*n) M2:=by rw[<-IH];exact acx hp hS _
   constructor
   ·obtain⟨X1,hX1⟩:=hX.swap (s:=L.length) (t:=k) hl IY
    obtain⟨X2,hX2⟩:=hX1.aps (inv:=inv) (u:=M k j) hl hi
    have Ak:lk p n (fun a b=>fj p M2 L.length j 0 a (n+b)) X2:=by
     rw[MI,<-IH];exact hX2
    have cV:∀m,m<=n->∃X',lk p n (fun a b=>fj p M2 L.length j m a (n+b)) X':=by
     intro m
     induction m with
     |zero=>intro _;exact⟨X2,Ak⟩
     |succ m ih=>
      intro hm
      obtain⟨X',Zp⟩:=ih (by omega)
      by_cases A8:m=L.length
      ·subst A8
       rw[MK];exact⟨X',Zp⟩
      ·refine Zp.add (f:=p - M2 m j) (m:=m) (t:=L.length) (by omega) hl A8 fun a ha b hb=>?_
       show∃q,fj p M2 L.length j (m+1) a (n+b)=_
       by_cases yl:a=m
       ·subst yl
        rw[if_pos rfl]
        show∃q,fj p M2 L.length j (a+1) a (n+b)=(fj p M2 L.length j a a (n+b)+(p - M2 a j)*fj p M2 L.length j a L.length (n+b))+p*q
        rw[C2,XN]
        unfold fj
        rw[if_pos ⟨by omega,A8⟩]
        refine⟨-((M2 a (n+b)+(p - M2 a j)*M2 L.length (n+b))/p),?_⟩
        have e1:=Int.emod_add_mul_ediv (M2 a (n+b)+(p - M2 a j)*M2 L.length (n+b)) p
        have e2:=Int.mul_neg p ((M2 a (n+b)+(p - M2 a j)*M2 L.length (n+b))/p)
        omega
       ·rw[if_neg yl]
        refine⟨0,?_⟩
        show fj p M2 L.length j (m+1) a (n+b)=fj p M2 L.length j m a (n+b)+p*0
        unfold fj
        by_cases hc:a<m/\a≠L.length
        ·rw[if_pos hc,if_pos ⟨by omega,hc.2⟩];simp
        ·rw[if_neg hc,if_neg (by omega)];simp
    exact cV n (Nat.le_refl _)
   ·intro b hb i h1 h2
    simp only[List.length_append,List.length_cons,List.length_nil] at h1
    show fj p M2 L.length j n i b=0
    unfold fj
    rw[if_pos ⟨h2,by omega⟩]
    have e2:∀c,M2 i c=ff M L.length k i c:=fun c=>by rw[<-IH];exact if_neg (by omega)
    have e3:∀c,M2 L.length c=M k c*inv%p:=fun c=>by rw[<-IH];show(if L.length=L.length then _ else _)=_;rw[if_pos rfl];congr 2;exact if_pos rfl
    by_cases OJ:b=j
    ·subst OJ
     rw[e3 b,hi]
     have:M2 i b+(p - M2 i b)*1=p:=by omega
     rw[this];exact Int.emod_self
    ·have OK:b<j:=by omega
     rw[e3 b,hz b OK k hq.1 IY,e2 b]
     have:ff M L.length k i b=0:=by
      unfold ff
      rw[if_neg (by omega)]
      split
      ·exact hz b OK L.length (Nat.le_refl _) hl
      ·exact hz b OK i (by omega) h2
     rw[this];simp
 ·unfold mS
  rw[if_neg hl]
  exact⟨⟨X,hX⟩,fun b hb i h1 h2=>by simp only at h1;omega⟩
end Go.Am
end
section
namespace Go.Am
def aqG (n:Nat) (M:bR):bR:=fun a b=>if b<n then M a b else dl a (b - n)
def aqH (n:Nat) (M:bR):bR:=fY (2*n) (aB n (2*n) (aqG n M))
def aas (p:Int) (n:Nat) (M:bR):bR×List Int×Int:=dM p n (aqH n M) (2*n)
def aiV (p:Int) (n:Nat) (M:bR):Prop:=∀i,i<n->(aas p n M).2.1.getD i 0=(i:Int)
instance (p:Int) (n:Nat) (M:bR):Decidable (aiV p n M):=inferInstanceAs (Decidable (∀i,i<n->(aas p n M).2.1.getD i 0=(i:Int)))
section
variable {p:Int} {n:Nat} {M R:bR} {L:List Int}
end
section
variable {p:Int} {n:Nat} {M R:bR} {L:List Int}
end
end Go.Am
end
section
namespace Go.Am
abbrev jd:=Int×Int×List Int
abbrev KX:=Int×Int×List Int×List (Int×Int×List Int)×List Int
def KO (k:Nat) (w:List Int):Prop:=∀c∈w,0<=c/\c<(k:Int)
instance (k:Nat) (w:List Int):Decidable (KO k w):=inferInstanceAs (Decidable (∀c∈w,0<=c/\c<(k:Int)))
def aew (x:KX):Bool:=match x with
 |(m,n,a,ms,b)=>eE m&&(decide (0<=n/\n<=24)&&((nv m a&&decide ((a.length:Int)=n))&&((nv m b&&decide ((b.length:Int)=n))&&(decide (1<=ms.length/\ms.length<=4)&&ms.all fun y=>decide (y.1=n/\y.2.1=n/\y.2.2.length=n.toNat*n.toNat)&&nv m y.2.2))))
def ab0 (x:KX×List Int):Prop:=aew x.1=true/\KO x.1.2.2.2.1.length x.2/\x.2.length<=1048576
instance (x:KX×List Int):Decidable (ab0 x):=by unfold ab0;infer_instance
structure CD (N:Nat) (p:Int) (n:Nat) (a:List Int) (ms:List jd) (b:List Int):Prop where
 pr:eE p=true
 hn:n<=N
 al:a.length=n
 ap:iw p a
 bl:b.length=n
 bp:iw p b
 l1:1<=ms.length
 l4:ms.length<=4
 hm:∀x∈ms,∃M:bR,x=((n:Int),(n:Int),aB n n M)/\fC p n n M
abbrev aec:=CD 12
abbrev aeb:=CD 24
theorem CD.p {N:Nat} {p:Int} {n:Nat} {a b:List Int} {ms:List jd} (h:CD N p n a ms b):eo p:=jT h.pr
theorem CD.b {p:Int} {n:Nat} {a b:List Int} {ms:List jd} (h:aec p n a ms b):aeb p n a ms b:=⟨h.pr,Nat.le_trans h.hn (by omega),h.al,h.ap,h.bl,h.bp,h.l1,h.l4,h.hm⟩
section
variable {p:Int} {n:Nat} {a b:List Int} {ms:List jd}
end
end Go.Am
end
section
namespace Go.Am
section
variable {p:Int} {n m:Nat} {a b a2 b2:List Int} {ms QF:List jd}
end
section
variable {p sg:Int} {n m:Nat} {a b a2 b2:List Int} {ms QF:List jd}
end
end Go.Am
end
section
namespace Go.Am
section
variable {n:Int} {d:List (Int×Int)} {a b:Int}
end
end Go.Am
end
section
namespace Go.Am
def pz (b a:Int) (l:List Int):List Int:=l.map fun x=>if x=b then a else x
def vF (l:List Int) (i:Int):Int:=l.getD i.toNat 0
def wI (n:Nat):List Int:=(List.range n).map fun i=>((i:Nat):Int)
def BS (s:Nat) (i:Nat) (st:Int×List Int) (e:Int×Int):Int×List Int:=
 if s.testBit i=true/\vF st.2 e.1≠vF st.2 e.2 then(st.1 - 1,pz (vF st.2 e.2) (vF st.2 e.1) st.2) else st
def parts (n:Int) (es:List (Int×Int)) (s:Int):Int×List Int:=sK (BS s.toNat) 0 (n,wI n.toNat) es
def Qk (s:Nat) (i:Nat) (l:List Int) (e:Int×Int):List Int:=
 if s.testBit i=true then pz (max (vF l e.1) (vF l e.2)) (min (vF l e.1) (vF l e.2)) l else l
def Nd (l:List Int):Int:=((List.range l.length).countP fun i=>l.getD i 0==(i:Int):Nat)
theorem P2 (n:Nat):(wI n).length=n:=by simp[wI]
theorem Sv (b a:Int) (l:List Int):(pz b a l).length=l.length:=by simp[pz]
theorem XX (p:Nat->Bool) (j:Nat):(List.range (j+1)).countP p=(List.range j).countP p+(if p j=true then 1 else 0):=by
 rw[List.range_succ,List.countP_append,List.countP_singleton]
theorem XW (p q:Nat->Bool) (k:Nat):∀n,k<n->(∀i,i<n->i≠k->p i=q i)->p k=true->q k=false->(List.range n).countP p=(List.range n).countP q+1
 |0,h,_,_,_=>by omega
 |n+1,h,Pp,h1,h2=>by
  rw[XX,XX]
  by_cases hk:k=n
  ·subst hk
   rw[h1,h2]
   have:(List.range k).countP p=(List.range k).countP q:=List.countP_congr fun i hi=>by
    have:=List.mem_range.1 hi
    rw[Pp i (by omega) (by omega)]
   rw[this]
   simp
  ·rw[XW p q k n (by omega) (fun i hi=>Pp i (by omega)) h1 h2,Pp n (by omega) (by omega)]
   omega
structure CO (m:Nat) (l:List Int) (c:Int) (q:List Int):Prop where
 ll:l.length=m
 lq:q.length=m
 fP:∀i j:Nat,i<m->j<m->(l.getD i 0=l.getD j 0↔q.getD i 0=q.getD j 0)
 low:∀i:Nat,i<m->0<=l.getD i 0/\l.getD i 0<=(i:Int)/\l.getD (l.getD i 0).toNat 0=l.getD i 0
 bA:Nd l=c
theorem ab6 {b a:Int} {l:List Int} {i:Nat} (h:i<l.length):(pz b a l).getD i 0=if l.getD i 0=b then a else l.getD i 0:=by
 simp[pz,List.getD,List.getElem?_map,List.getElem?_eq_getElem h]
theorem aoV (b:Int) (l:List Int):pz b b l=l:=by
 unfold pz
 conv=>rhs;rw[<-List.map_id l]
 refine List.map_congr_left fun x _=>?_
 split
 ·rename_i h;exact h.symm
 ·rfl
theorem aa5 {b a x y:Int}:((if x=b then a else x)=(if y=b then a else y))↔(x=y\/((x=b\/x=a)/\(y=b\/y=a))):=by
 constructor
 ·intro h;split at h<;>split at h<;>omega
 ·intro h;split<;>split<;>omega
theorem CO.step {m:Nat} {l:List Int} {c:Int} {q:List Int} (h:CO m l c q) {u v:Nat} (hu:u<m) (hv:v<m) {s i:Nat}:
  CO m (Qk s i l ((u:Int),(v:Int))) (BS s i (c,q) ((u:Int),(v:Int))).1 (BS s i (c,q) ((u:Int),(v:Int))).2:=by
 cases hb:s.testBit i with
 |false=>
  have e1:Qk s i l ((u:Int),(v:Int))=l:=if_neg (by rw[hb];decide)
  have e2:BS s i (c,q) ((u:Int),(v:Int))=(c,q):=if_neg (fun hh=>by rw[hb] at hh;exact absurd hh.1 (by decide))
  rw[e1,e2]
  exact h
 |true=>
  have ep:q.getD u 0=q.getD v 0->BS s i (c,q) ((u:Int),(v:Int))=(c,q):=fun h=>if_neg (fun hh=>hh.2 h)
  have en:q.getD u 0≠q.getD v 0->BS s i (c,q) ((u:Int),(v:Int))=(c - 1,pz (q.getD v 0) (q.getD u 0) q):=fun h=>if_pos ⟨hb,h⟩
  have el:Qk s i l ((u:Int),(v:Int))=pz (max (l.getD u 0) (l.getD v 0)) (min (l.getD u 0) (l.getD v 0)) l:=if_pos hb
  obtain⟨ll,lq,fP,low,bA⟩:=h
  by_cases hq:q.getD u 0=q.getD v 0
  ·have hl:=(fP u v hu hv).2 hq
   rw[ep hq,el,hl,Int.max_self,Int.min_self,aoV]
   exact⟨ll,lq,fP,low,bA⟩
  ·have hl:l.getD u 0≠l.getD v 0:=fun e=>hq ((fP u v hu hv).1 e)
   rw[en hq,el]
   obtain⟨lu0,lu1,Qu⟩:=low u hu
   obtain⟨lv0,lv1,Qv⟩:=low v hv
   obtain⟨lo,hi,e1,e2,bB,Ba,ah7,wg,uw,ZH⟩:∃lo hi:Nat,min (l.getD u 0) (l.getD v 0)=(lo:Int)/\max (l.getD u 0) (l.getD v 0)=(hi:Int)/\lo<hi/\
     (∀x:Int,(x=(hi:Int)\/x=(lo:Int))↔(x=l.getD v 0\/x=l.getD u 0))/\lo<m/\l.getD lo 0=(lo:Int)/\l.getD hi 0=(hi:Int)/\hi<m:=by
    obtain⟨a,ha⟩:=jD lu0
    obtain⟨b,hb⟩:=jD lv0
    rw[ha,Int.toNat_natCast] at Qu
    rw[hb,Int.toNat_natCast] at Qv
    rw[ha] at lu1 hl
    rw[hb] at lv1 hl
    rw[ha,hb]
    rcases Nat.lt_or_ge a b with eR|eR
    ·exact⟨a,b,by omega,by omega,eR,fun x=>by omega,by omega,Qu,Qv,by omega⟩
    ·exact⟨b,a,by omega,by omega,by omega,fun x=>by omega,by omega,Qv,Qu,by omega⟩
   rw[e1,e2]
   have gl:∀j,j<m->(pz (hi:Int) (lo:Int) l).getD j 0=if l.getD j 0=(hi:Int) then(lo:Int) else l.getD j 0:=fun j hj=>ab6 (by omega)
   have gq:∀j,j<m->(pz (q.getD v 0) (q.getD u 0) q).getD j 0=if q.getD j 0=q.getD v 0 then q.getD u 0 else q.getD j 0:=fun j hj=>ab6 (by omega)
   refine⟨by rw[Sv];exact ll,by rw[Sv];exact lq,?_,?_,?_⟩
   ·intro x y hx hy
    rw[gl x hx,gl y hy,gq x hx,gq y hy,aa5,aa5,Ba,Ba,fP x y hx hy,fP x u hx hu,fP x v hx hv,fP y u hy hu,fP y v hy hv]
   ·intro x hx
    obtain⟨h0,h1,h2⟩:=low x hx
    rw[gl x hx]
    by_cases PE:l.getD x 0=(hi:Int)
    ·rw[if_pos PE]
     refine⟨by omega,by omega,?_⟩
     rw[Int.toNat_natCast,gl lo ah7,wg,if_neg (by omega)]
    ·rw[if_neg PE]
     refine⟨h0,h1,?_⟩
     rw[gl _ (by omega),h2,if_neg PE]
   ·have hc:=XW (fun j=>l.getD j 0==(j:Int)) (fun j=>(pz (hi:Int) (lo:Int) l).getD j 0==(j:Int)) hi m ZH ?_ (by rw[uw];simp) (by rw[gl hi ZH,if_pos uw];simp;omega)
    ·unfold Nd at bA⊢
     rw[Sv,ll]
     rw[ll,hc] at bA
     omega
    ·intro j hj aE
     rw[gl j hj]
     by_cases O7:l.getD j 0=(hi:Int)
     ·rw[if_pos O7,O7,Bool.eq_iff_iff]
      simp only[beq_iff_eq]
      constructor
      ·intro h;omega
      ·intro h
       have:lo=j:=by omega
       subst this
       omega
     ·rw[if_neg O7]
theorem P1 {m i:Nat} (h:i<m):(wI m).getD i 0=(i:Int):=by
 simp[wI,List.getD,List.getElem?_map,List.getElem?_range h]
theorem CO.init (m:Nat):CO m (wI m) (m:Int) (wI m):=by
 refine⟨P2 m,P2 m,fun _ _ _ _=>Iff.rfl,fun i hi=>?_,?_⟩
 ·rw[P1 hi,Int.toNat_natCast,P1 hi]
  omega
 ·unfold Nd
  rw[P2]
  have:(List.range m).countP (fun i=>(wI m).getD i 0==(i:Int))=(List.range m).length:=by
   rw[List.countP_eq_length]
   intro i hi
   rw[P1 (List.mem_range.1 hi)]
   simp
  rw[this,List.length_range]
end Go.Am
end
section
namespace Go.Am
end Go.Am
end
section
namespace Go.Am
def cS (om:Bool) (w:Nat) (x y:Nat->Int) (t:Nat):Int:=sm w (fun i=>sm w (fun j=>kW om x y t i j))
def pc (x y:Nat->Int) (t:Nat):Int:=sm (t+1) (fun i=>x i*y (t - i))
theorem VJ:∀(n:Nat) {f:Nat->Int},(∀i,i<n->f i=0)->sm n f=0
 |0,_,_=>rfl
 |n+1,f,h=>by simp only[sm];rw[VJ n (fun i hi=>h i (by omega)),h n (by omega)];rfl
theorem VH {a:Nat} {f:Nat->Int}:∀(n:Nat),a<n->(∀i,i<n->i≠a->f i=0)->sm n f=f a
 |0,h,_=>by omega
 |n+1,h,hf=>by
  simp only[sm]
  by_cases e:a=n
  ·subst e
   rw[VJ a (fun i hi=>hf i (by omega) (by omega))];omega
  ·rw[VH n (by omega) (fun i hi aE=>hf i (by omega) aE),hf n (by omega) (by omega)];omega
theorem acW {m:Nat} {f:Nat->Int}:∀(n:Nat),m<=n->(∀i,i<n->m<=i->f i=0)->sm n f=sm m f
 |0,h,_=>by rw[show m=0 by omega]
 |n+1,h,hf=>by
  by_cases e:m=n+1
  ·rw[e]
  ·simp only[sm]
   rw[acW n (by omega) (fun i hi hm=>hf i (by omega) hm),hf n (by omega) (by omega)];omega
theorem VI {p:Int} {f g:Nat->Int}:∀{n:Nat},(∀i,i<n->f i%p=g i%p)->sm n f%p=sm n g%p
 |0,_=>rfl
 |n+1,h=>by simp only[sm];rw[Int.add_emod,VI (n:=n) (fun i hi=>h i (by omega)),h n (by omega),<-Int.add_emod]
theorem CW {w t:Nat} (x y:Nat->Int) (h:t<w):cS false w x y t=pc x y t:=by
 have ga:∀i,i<w->sm w (fun j=>kW false x y t i j)=if i<=t then x i*y (t - i) else 0:=by
  intro i hi
  split
  ·rename_i wb
   rw[VH (a:=t - i) w (by omega) (fun j hj aE=>by unfold kW;rw[if_neg (by omega),if_neg (by simp)])]
   unfold kW
   rw[if_pos (by omega)]
  ·exact VJ w fun j hj=>by unfold kW;rw[if_neg (by omega),if_neg (by simp)]
 unfold cS pc
 rw[Ff ga,acW (m:=t+1) w (by omega) (fun i hi hm=>if_neg (by omega))]
 exact Ff fun i hi=>if_pos (by omega)
theorem ane {p a b:Int} (eR:a%p=b%p):(-a)%p=(-b)%p:=by
 have:(0 - a)%p=(0 - b)%p:=by rw[Int.sub_emod,eR,<-Int.sub_emod]
 simpa using this
theorem Xp {om:Bool} {w t:Nat} {p:Int} {x x' y y':Nat->Int} (hx:∀i,i<w->x i%p=x' i%p) (hy:∀i,i<w->y i%p=y' i%p):cS om w x y t%p=cS om w x' y' t%p:=by
 refine VI fun i hi=>VI fun j hj=>?_
 have hm:(x i*y j)%p=(x' i*y' j)%p:=by rw[Int.mul_emod,hx i hi,hy j hj,<-Int.mul_emod]
 unfold kW
 split
 ·exact hm
 ·split
  ·exact ane hm
  ·rfl
theorem Mr {om:Bool} {w t:Nat} {x x' y y':Nat->Int} (hx:∀i,i<w->x i=x' i) (hy:∀i,i<w->y i=y' i):cS om w x y t=cS om w x' y' t:=
 Ff fun i hi=>Ff fun j hj=>by unfold kW;rw[hx i hi,hy j hj]
theorem aoE (x y z:Nat->Int) {t:Nat} (h:t<6):pc (pc x y) z t=pc x (pc y z) t:=by
 match t,h with
 |0,_=>simp only[pc,sm,Nat.reduceSub,Nat.reduceAdd,Nat.zero_add];try grind
 |1,_=>simp only[pc,sm,Nat.reduceSub,Nat.reduceAdd,Nat.zero_add];try grind
 |2,_=>simp only[pc,sm,Nat.reduceSub,Nat.reduceAdd,Nat.zero_add];try grind
 |3,_=>simp only[pc,sm,Nat.reduceSub,Nat.reduceAdd,Nat.zero_add];try grind
 |4,_=>simp only[pc,sm,Nat.reduceSub,Nat.reduceAdd,Nat.zero_add];try grind
 |5,_=>simp only[pc,sm,Nat.reduceSub,Nat.reduceAdd,Nat.zero_add];try grind
theorem xZ (x y:Nat->Int):cS true 4 x y 0=x 0*y 0 - x 1*y 3 - x 2*y 2 - x 3*y 1:=by simp[cS,sm,kW];grind
theorem x3 (x y:Nat->Int):cS true 4 x y 1=x 0*y 1+x 1*y 0 - x 2*y 3 - x 3*y 2:=by simp[cS,sm,kW];grind
theorem x4 (x y:Nat->Int):cS true 4 x y 2=x 0*y 2+x 1*y 1+x 2*y 0 - x 3*y 3:=by simp[cS,sm,kW];grind
theorem x5 (x y:Nat->Int):cS true 4 x y 3=x 0*y 3+x 1*y 2+x 2*y 1+x 3*y 0:=by simp[cS,sm,kW]
theorem ae4 (x y z:Nat->Int) {t:Nat} (h:t<4):cS true 4 (cS true 4 x y) z t=cS true 4 x (cS true 4 y z) t:=by
 match t,h with
 |0,_=>rw[xZ,xZ];simp only[xZ,x3,x4,x5];grind
 |1,_=>rw[x3,x3];simp only[xZ,x3,x4,x5];grind
 |2,_=>rw[x4,x4];simp only[xZ,x3,x4,x5];grind
 |3,_=>rw[x5,x5];simp only[xZ,x3,x4,x5];grind
theorem aeI {k p:Int} {w:Nat} (c:KY k p w) (x y z:Nat->Int) {t:Nat} (h:t<w):cS (decide (k=8)) w (cS (decide (k=8)) w x y) z t=cS (decide (k=8)) w x (cS (decide (k=8)) w y z) t:=by
 by_cases h8:k=8
 ·obtain rfl:=c.w8 h8
  rw[decide_eq_true h8]
  exact ae4 x y z h
 ·rw[decide_eq_false h8]
  have h6:=c.cw
  rw[Mr (x':=pc x y) (y':=z) (fun i hi=>CW x y hi) (fun _ _=>rfl),CW _ _ h,Mr (x':=x) (y':=pc y z) (fun _ _=>rfl) (fun i hi=>CW y z hi),CW _ _ h]
  exact aoE x y z (by omega)
theorem MR (p:Int) (om:Bool) (w:Nat) (x y:Nat->Int):x7 p om w x y=ox w fun t=>cS om w x y t%p:=rfl
theorem C7 {r:Int×Int×Int} (h:r.1=7\/r.1=8) (x y:List Int):wT r x y=x7 r.2.1 (decide (r.1=8)) (bw r) (d9 x) (d9 y):=if_pos h
theorem aa6 {a b c p:Int} (hp:0<=p) (ha:0<=a) (hb:0<=b) (hc:0<=c):min (min (a*b) p*c) p=min (a*b*c) p:=by
 generalize hm:a*b=m
 by_cases h:m<=p
 ·rw[show min m p=m by omega]
 ·rw[show min m p=p by omega]
  by_cases h0:c=0
  ·subst h0;simp
  ·have h1:p*1<=p*c:=Int.mul_le_mul_of_nonneg_left (by omega) hp
   have h2:p*c<=m*c:=Int.mul_le_mul_of_nonneg_right (by omega) hc
   omega
theorem ad0 {r:Int×Int×Int} (hk:¬(r.1=7\/r.1=8)):bw r=1:=by
 obtain⟨k,p,n⟩:=r
 simp only at hk
 simp only[bw,jI]
 rw[if_neg (by omega),if_neg (by omega)]
 rfl
theorem ans {r:Int×Int×Int} (hr:iv r=true) (hk:¬(r.1=7\/r.1=8)) {a b c:Int} (ha:0<=a/\a<=dO r) (hb:0<=b/\b<=dO r) (hc:0<=c/\c<=dO r):pq r (pq r a b) c=pq r a (pq r b c):=by
 obtain⟨k,p,n⟩:=r
 simp only at hk
 rcases B7 hr with⟨rfl,rfl,rfl⟩|⟨rfl,hp,rfl⟩|⟨rfl,hp,rfl⟩|⟨rfl,hp,rfl⟩|⟨rfl,hp,rfl⟩|⟨rfl,rfl,hn⟩|⟨rfl,hp,hn⟩|⟨rfl,hp,jo,rfl⟩
 ·have o:∀u v,pq (1,0,0) u v=((u.toNat&&&v.toNat:Nat):Int):=fun _ _=>rfl
  rw[o,o,o,o,Int.toNat_natCast,Int.toNat_natCast,Nat.and_assoc]
 ·have o:∀u v,pq (2,p,0) u v=u*v%p:=fun _ _=>rfl
  rw[o,o,o,o,Int.mul_emod,Int.emod_emod,<-Int.mul_emod,Int.mul_emod a,Int.emod_emod,<-Int.mul_emod,Int.mul_assoc]
 ·have o:∀u v,pq (3,p,0) u v=min (u*v) p:=fun _ _=>rfl
  rw[o,o,o,o,aa6 (by omega) ha.1 hb.1 hc.1,Int.mul_comm a (min _ _),aa6 (by omega) hb.1 hc.1 ha.1,Int.mul_assoc a b c,Int.mul_comm a]
 ·have o:∀u v,pq (4,p,0) u v=min (u+v) p:=fun _ _=>rfl
  rw[o,o,o,o];omega
 ·have o:∀u v,pq (5,p,0) u v=min u v:=fun _ _=>rfl
  rw[o,o,o,o];omega
 ·have o:∀u v,pq (6,0,n) u v=((u.toNat&&&v.toNat:Nat):Int):=fun _ _=>rfl
  rw[o,o,o,o,Int.toNat_natCast,Int.toNat_natCast,Nat.and_assoc]
 ·omega
 ·omega
theorem mul_assoc {r:Int×Int×Int} {x y z:List Int} (hr:iv r=true) (hx:rf r x=true) (hy:rf r y=true) (hz:rf r z=true):wT r (wT r x y) z=wT r x (wT r y z):=by
 by_cases hk:r.1=7\/r.1=8
 ·obtain⟨k,p,n⟩:=r
  have c:=Xt hr hk
  rw[C7 hk,C7 hk,C7 hk,C7 hk]
  simp only
  refine adH fun t ht=>?_
  show cS (decide (k=8)) (bw (k,p,n)) (d9 (x7 p (decide (k=8)) (bw (k,p,n)) (d9 x) (d9 y))) (d9 z) t%p=cS (decide (k=8)) (bw (k,p,n)) (d9 x) (d9 (x7 p (decide (k=8)) (bw (k,p,n)) (d9 y) (d9 z))) t%p
  have e1:cS (decide (k=8)) (bw (k,p,n)) (d9 (x7 p (decide (k=8)) (bw (k,p,n)) (d9 x) (d9 y))) (d9 z) t%p=cS (decide (k=8)) (bw (k,p,n)) (cS (decide (k=8)) (bw (k,p,n)) (d9 x) (d9 y)) (d9 z) t%p:=
   Xp (fun i hi=>by rw[MR,Ni _ hi,Int.emod_emod]) (fun _ _=>rfl)
  have e2:cS (decide (k=8)) (bw (k,p,n)) (d9 x) (d9 (x7 p (decide (k=8)) (bw (k,p,n)) (d9 y) (d9 z))) t%p=cS (decide (k=8)) (bw (k,p,n)) (d9 x) (cS (decide (k=8)) (bw (k,p,n)) (d9 y) (d9 z)) t%p:=
   Xp (fun _ _=>rfl) (fun i hi=>by rw[MR,Ni _ hi,Int.emod_emod])
  rw[e1,e2,aeI c _ _ _ ht]
 ·have hw:=ad0 hk
  obtain⟨a,b,rfl,rfl,ha,hb⟩:=Yj hx hy hw
  obtain⟨_,c,e,rfl,_,hc⟩:=Yj hx hz hw
  rw[Ey hk,Ey hk,Ey hk,Ey hk,ans hr hk ha hb hc]
theorem ahs {k p n:Int} (hk:k=7\/k=8) {j:Nat} (hj:j<bw (k,p,n)):d9 (BN (k,p,n)) j=if j=0 then 1 else 0:=by
 rw[anr,Ni _ hj,if_neg (show¬k=4 by omega),if_neg (show¬(k=5\/k=6) by omega)]
theorem aeH {k p:Int} {w:Nat} (c:KY k p w) (u:Nat->Int) (v:Int) {t:Nat} (h:t<w):cS (decide (k=8)) w u (fun j=>if j=0 then v else 0) t=u t*v:=by
 by_cases h8:k=8
 ·obtain rfl:=c.w8 h8
  rw[decide_eq_true h8]
  match t,h with
  |0,_=>rw[xZ];simp
  |1,_=>rw[x3];simp
  |2,_=>rw[x4];simp
  |3,_=>rw[x5];simp
 ·rw[decide_eq_false h8,CW _ _ h]
  unfold pc
  rw[VH (a:=t) (t+1) (by omega) (fun i hi aE=>by simp only;rw[if_neg (by omega),Int.mul_zero])]
  simp only
  rw[if_pos (by omega)]
theorem ant {k p n:Int} (hr:iv (k,p,n)=true) (hk:¬(k=7\/k=8)) {a:Int} (ha:0<=a/\a<=dO (k,p,n)):pq (k,p,n) a (if k=4 then 0 else if k=5\/k=6 then dO (k,p,n) else 1)=a:=by
 rcases B7 hr with⟨rfl,rfl,rfl⟩|⟨rfl,hp,rfl⟩|⟨rfl,hp,rfl⟩|⟨rfl,hp,rfl⟩|⟨rfl,hp,rfl⟩|⟨rfl,rfl,hn⟩|⟨rfl,hp,hn⟩|⟨rfl,hp,jo,rfl⟩
 ·have e:dO (1,0,0)=1:=rfl
  have h1:a=0\/a=1:=by omega
  rcases h1 with rfl|rfl<;>decide
 ·have e:dO (2,p,0)=p - 1:=rfl
  have:=jT hp
  show a*1%p=a
  rw[Int.mul_one,Int.emod_eq_of_lt (by omega) (by omega)]
 ·have e:dO (3,p,0)=p:=rfl
  show min (a*1) p=a
  omega
 ·have e:dO (4,p,0)=p:=rfl
  show min (a+0) p=a
  omega
 ·have e:dO (5,p,0)=p:=rfl
  show min a p=a
  omega
 ·have e:dO (6,0,n)=2^n.toNat - 1:=rfl
  have e2:(((2:Nat)^n.toNat:Nat):Int)=(2:Int)^n.toNat:=by push_cast;rfl
  show((a.toNat&&&(2^n.toNat - 1:Int).toNat:Nat):Int)=a
  rw[show(2^n.toNat - 1:Int).toNat=2^n.toNat - 1 by omega,Nat.and_two_pow_sub_one_eq_mod,Nat.mod_eq_of_lt (by omega)]
  omega
 ·omega
 ·omega
theorem mul_one {r:Int×Int×Int} {x:List Int} (hr:iv r=true) (hx:rf r x=true):wT r x (BN r)=x:=by
 obtain⟨k,p,n⟩:=r
 by_cases hk:k=7\/k=8
 ·have c:=Xt hr hk
  rw[C7 hk,MR]
  simp only
  have hT:dO (k,p,n)=p - 1:=by
   simp only[dO]
   rw[if_neg (by omega),if_neg (by omega),if_neg (by omega)]
  refine(adH fun t ht=>?_).trans (aqg (Yi hx))
  rw[Mr (x':=d9 x) (y':=fun j=>if j=0 then 1 else 0) (fun _ _=>rfl) (fun i hi=>ahs hk hi),aeH c _ _ ht,Int.mul_one]
  have:=Yh hx ht
  rw[hT] at this
  exact Int.emod_eq_of_lt this.1 (by omega)
 ·have hw:=ad0 (r:=(k,p,n)) hk
  obtain⟨e,ha⟩:=Dc hx hw
  have e1:BN (k,p,n)=[if k=4 then 0 else if k=5\/k=6 then dO (k,p,n) else 1]:=by simp only[BN];exact aoX hw
  rw[e,e1,Ey hk,ant hr hk ha]
end Go.Am
end
section
namespace Go.Am
abbrev Rg:=Int×Int×Int
abbrev T3:=List Int×List Int×List Int
abbrev FN:=Int×List (List Int)
def gQ (r:Rg) (t:T3):Bool:=iv r&&(decide (0<=gR t.1 t.2.1)&&(decide ((t.2.2.length:Int)=gR t.1 t.2.1*jI r)&&t.2.2.all (rK (dO r))))
def si:Rg×T3->Option Bool:=fun x=>if x.2.1.length<=1048576/\x.2.2.1.length<=1048576/\x.2.2.2.length<=1048576 then some (gQ x.1 x.2) else none
def vm:Rg×T3->Option Bool:=si
def Xw (R:List (List Int)) (ix:List Int) (i:Nat):Int:=(R.getD i []).getD (ix.getD i 0).toNat 0
def adw (x:FN×List Int):Prop:=(1<=x.1.1/\x.1.1<=12)/\x.2.length<=12/\∀i,i<x.2.length->i<x.1.2.length/\(0<=x.2.getD i 0/\(x.2.getD i 0).toNat<(x.1.2.getD i []).length)/\0<=Xw x.1.2 x.2 i/\Xw x.1.2 x.2 i<=12
instance (x:FN×List Int):Decidable (adw x):=by unfold adw;infer_instance
def zM:List Int->Option Int:=fun l=>if l.length<=12/\∀v∈l,1<=v/\v<=8 then some (c7 l) else none
def abR (x:Rg×T3×Int×List Int):Prop:=iv x.1=true/\0<=x.2.2.1/\x.2.2.1.toNat*bw x.1+x.2.2.2.length<=x.2.1.2.2.length/\x.2.1.2.2.length<=1048576
instance (x:Rg×T3×Int×List Int):Decidable (abR x):=by unfold abR;infer_instance
def M4 (x:Rg×T3×Int):Prop:=iv x.1=true/\0<=x.2.2/\(x.2.2.toNat+1)*bw x.1<=x.2.1.2.2.length/\x.2.1.2.2.length<=1048576
instance (x:Rg×T3×Int):Decidable (M4 x):=by unfold M4;infer_instance
def XU (x:Rg×T3×FN):Prop:=(x.2.1.1.length<=1048576/\x.2.1.2.1.length<=1048576/\x.2.1.2.2.length<=1048576)/\Mv (x.2.1,x.2.2)
instance (x:Rg×T3×FN):Decidable (XU x):=by unfold XU;infer_instance
def Hd:ai:=[(.agg,[.int .i64,.int .i64,.int .i64]),(.agg,[.list [.int .i64],.list [.int .i64],.list [.int .i64]])]
def TE:ai:=[(.one,[.bool])]
def alx:aN:=[]
def Gn:ai:=[(.agg,[.int .i64,.int .i64,.int .i64]),(.agg,[.list [.int .i64],.list [.int .i64],.list [.int .i64]])]
def SR:ai:=[(.one,[.bool])]
def akU:aN:=[]
def Gz:ai:=[(.one,[.list [.int .i64]])]
def S4:ai:=[(.one,[.int .i64])]
def ak4:aN:=[]
def LR (NN:Nat):((Int×(Int×Int))×((List Int)×((List Int)×(List Int))))->(Option Bool):=
 (fun(((i0,i1,i2),l3,l4,l5):((Int×(Int×Int))×((List Int)×((List Int)×(List Int)))))=>
 (vw (l3,l4,l5)).U (fun i6=>
 (z7 (i0,i1,i2)).U (fun b7=>
 ak (cC b7)
 (some false)
 (ak (bd i6 (0:Int))
 (some false)
 ((xI (i0,i1,i2)).U (fun i8=>
 ak (dt (aI (J l5)) (cu .i64 i6 i8))
 (some false)
 (bD (bu NN (fun(((l9,cr,cT),cZ,cU,ca):(((List Int)×(Int×Int))×(Int×(Int×Int))))=>
 ak (bd cT cr)
 ((dd l9 cT).U (fun kH=>
 (CH (cZ,cU,ca)).U (fun eO=>
 (gS (kH,(0:Int),eO)).U (fun b17=>
 ak (cC b17)
 (some (Sum.inr (Sum.inr false)))
 (some (Sum.inl ((l9,cr,aU .i64 cT 1),cZ,cU,ca)))))))
 (some (Sum.inr (Sum.inl ()))))
 ((l5,aI (J l5),(0:Int)),i0,i1,i2))
 (fun _=>
 some true))))))))
def Lb (NN:Nat):((Int×(Int×Int))×((List Int)×((List Int)×(List Int))))->(Option Bool):=
 (fun(((i0,i1,i2),l3,l4,l5):((Int×(Int×Int))×((List Int)×((List Int)×(List Int)))))=>
 (zE (i0,i1,i2)).U (fun b6=>
 ak (cC b6)
 (some false)
 ((zG (l3,l4,l5)).U (fun i7=>
 ak (dt i7 ((-1:Int)))
 ((vo (i0,i1,i2)).U (fun i8=>
 ak (bL (aI (J l5)) (cu .i64 i7 i8))
 ((zL ((i0,i1,i2),l5)).U (fun b9=>
 some b9))
 (some false)))
 (some false)))))
def Ll (NN:Nat):(List Int)->(Option Int):=
 (fun(l0:(List Int))=>
 bD (bu NN (fun((i1,l2,i3,i4):(Int×((List Int)×(Int×Int))))=>
 ak (bd i4 i3)
 ((dd l2 i4).U (fun i5=>
 some (Sum.inl (cu .i64 i1 i5,l2,i3,aU .i64 i4 1))))
 (some (Sum.inr (Sum.inl i1))))
 ((1:Int),l0,aI (J l0),(0:Int)))
 (fun i6=>
 some i6))
theorem aG {α β:Type} (x:α) (f:α->Option β):(some x).U f=f x:=by
 have h:∀o:Option α,o=some x->o.U f=f x:=by intro o h;subst h;rfl
 exact h _ rfl
theorem Wq {r:Rg} {L D A:List Int} (h:gQ r (L,D,A)=true):iv r=true/\(D.length<=12/\(∀x∈D,1<=x/\x<=8))/\gR L D=(cv D:Int)/\(1<=cv D/\cv D<=4096)/\A.length=cv D*bw r/\jK D/\sB 4096 D=(cv D:Int)/\c7 D=(cv D:Int)/\A.all (rK (dO r))=true:=by
 simp only[gQ,Bool.and_eq_true,decide_eq_true_eq] at h
 obtain⟨h1,h2,h3,h4⟩:=h
 have hw:=zA h1
 by_cases ha:mY L D=true/\c7 D<=4096
 ·have e:gR L D=c7 D:=if_pos ha
  have hd:=CU ha.1
  have hl:=tN ha.1
  have hI:=BZ (D:=D) fun x hx=>(hd x hx).1
  have ed:=JX (D:=D) fun x hx=>(hd x hx).1
  refine⟨h1,⟨by omega,hd⟩,e.trans hI,⟨ed,by omega⟩,?_,⟨by omega,fun x hx=>by have:=hd x hx;omega⟩,?_,hI,h4⟩
  ·rw[e,hI,hw.1] at h3
   exact_mod_cast h3
  ·unfold sB
   rw[CX (by decide) _ 0 1 (fun x hx=>(hd x hx).1) (by decide) (by decide),Int.one_mul,hI,Int.min_eq_left (by omega)]
 ·have e:gR L D= -1:=if_neg ha
  rw[e] at h2
  exact absurd h2 (by decide)
theorem adS (L D:List Int):gR L D= -1\/(0<=gR L D/\gR L D<=4096):=by
 unfold gR
 split
 ·rename_i h
  have hd:=CU h.1
  have hI:=BZ (D:=D) fun x hx=>(hd x hx).1
  right
  omega
 ·exact .inl rfl
theorem adP {L D:List Int} {r:Rg} (h:iv r=true) (h0:0<=gR L D):cu .i64 (gR L D) (jI r)=gR L D*jI r:=by
 have hw:=zA h
 have h1:gR L D<=4096:=by
  rcases adS L D with e|e
  ·omega
  ·exact e.2
 have h2:gR L D*jI r<=4096*6:=Int.mul_le_mul h1 (by omega) (by omega) (by decide)
 have h3:0<=gR L D*jI r:=Int.mul_nonneg h0 (by omega)
 exact kq (by omega) (by omega)
theorem ag0 (x:Rg×T3) (y:Bool) (h:si x=some y):LR az x=some y:=by
 obtain⟨⟨k,p,n⟩,L,D,A⟩:=x
 simp only[si] at h
 split at h
 ·rename_i hc
  rw[<-h]
  simp only[LR]
  rw[show vw (L,D,A)=some (gR L D) from if_pos ⟨hc.1,hc.2.1⟩]
  simp only[aG,z7]
  cases hr:iv (k,p,n) with
  |false=>rw[aH (b:=cC false) rfl];simp[gQ,hr]
  |true=>
   rw[aK (b:=cC true) rfl]
   by_cases h0:0<=gR L D
   ·rw[aK (cP h0)]
    simp only[xI,aG]
    rw[adP hr h0,nl]
    by_cases hl:(A.length:Int)=gR L D*jI (k,p,n)
    ·rw[aK (show dt _ _=false by unfold dt;rw[hl];simp)]
     have uE:CH (k,p,n)=some (dO (k,p,n)):=if_pos hr
     rw[Ev A (fun i=>((A,(A.length:Int),(i:Int)),k,p,n)) (rK (dO (k,p,n))) (.inr false) (.inl ()) ?_ ?_ ?_ ?_ (cX (by have:=hc.2.2;omega))]
     ·cases ha:A.all (rK (dO (k,p,n)))
      ·rw[if_neg (by simp)];simp[gQ,hr,ha,bD]
      ·rw[if_pos rfl];simp[gQ,hr,ha,bD,h0,hl]
     ·intro i a ha hb
      have aW:decide (0<=a/\a<=dO (k,p,n))=true:=hb
      dsimp only
      rw[aH (df (by have:=rP ha;omega)),dj,ha,aG,uE]
      simp only[gS,aG]
      rw[aW,aK abn,pj ha (by have:=hc.2.2;omega)]
     ·intro i a ha hb
      have aW:decide (0<=a/\a<=dO (k,p,n))=false:=hb
      dsimp only
      rw[aH (df (by have:=rP ha;omega)),dj,ha,aG,uE]
      simp only[gS,aG]
      rw[aW,aH (b:=cC false) rfl]
     ·dsimp only;rw[aK (cP (by omega))]
     ·rfl
    ·rw[aH (show dt _ _=true from bne_iff_ne.2 hl)]
     simp[gQ,hr,hl]
   ·rw[aH (df (by omega))]
    simp[gQ,hr,h0]
 ·cases h
theorem agj (x:Rg×T3) (y:Bool) (h:vm x=some y):Lb az x=some y:=by
 obtain⟨⟨k,p,n⟩,L,D,A⟩:=x
 simp only[vm,si] at h
 split at h
 ·rename_i hc
  rw[<-h]
  simp only[Lb,zE,aG]
  cases hr:iv (k,p,n) with
  |false=>rw[aH (b:=cC false) rfl];simp[gQ,hr]
  |true=>
   rw[aK (b:=cC true) rfl,show zG (L,D,A)=some (gR L D) from if_pos ⟨hc.1,hc.2.1⟩]
   simp only[aG]
   by_cases h0:0<=gR L D
   ·rw[aH (show dt _ _=true from bne_iff_ne.2 (by omega))]
    simp only[vo,aG]
    rw[adP hr h0,nl]
    by_cases hl:(A.length:Int)=gR L D*jI (k,p,n)
    ·rw[aH (show bL _ _=true from beq_iff_eq.2 hl),show zL ((k,p,n),A)=some _ from if_pos ⟨hr,by have:=hc.2.2;omega⟩,aG]
     simp[gQ,hr,h0,hl]
    ·rw[aK (show bL _ _=false from beq_eq_false_iff_ne.2 hl)]
     simp[gQ,hr,hl]
   ·have:gR L D= -1:=by rcases adS L D with e|e<;>omega
    rw[aK (show dt _ _=false by unfold dt;rw[this];rfl)]
    simp[gQ,hr,h0]
 ·cases h
theorem agu (x:List Int) (y:Int) (h:zM x=some y):Ll az x=some y:=by
 simp only[zM] at h
 split at h
 ·rename_i hc
  rw[<-h]
  obtain⟨hl,hv⟩:=hc
  have hb:∀k,k<=x.length->1<=c7 (x.take k)/\c7 (x.take k)<=8^k:=by
   intro k
   induction k with
   |zero=>exact fun _=>⟨Int.le_refl 1,Int.le_refl 1⟩
   |succ k ih=>
    intro hk
    obtain⟨i1,i2⟩:=ih (by omega)
    have h1:=hv _ (List.mem_of_getElem? (getD_some 0 (show k<x.length by omega)))
    rw[BX (by omega)]
    have a1:1*1<=c7 (x.take k)*x.getD k 0:=Int.mul_le_mul i1 h1.1 (by decide) (by omega)
    have a2:c7 (x.take k)*x.getD k 0<=8^k*8:=Int.mul_le_mul i2 h1.2 (by omega) (by exact Int.pow_nonneg (by decide))
    exact⟨by omega,by rw[Int.pow_succ];exact a2⟩
  have vU:∀k,k<=12->(8:Int)^k<=68719476736:=by decide
  simp only[Ll]
  rw[ef (fun k=>(c7 (x.take k),x,aI (J x),(k:Int))) x.length ?a1 ?a2 ?a3 (cX (by omega))]
  case a3=>rfl
  case a2=>dsimp only;rw[aK (rO x)]
  case a1=>
   intro k hk
   have g:=getD_some (0:Int) hk
   have h1:=hb (k+1) (by omega)
   have h2:=vU (k+1) (by omega)
   rw[BX hk] at h1
   dsimp only
   rw[aH (df (by rw[nl];omega)),dj,g,aG,kq (by omega) (by omega),eK (by omega) (by omega),<-BX hk]
   rfl
  simp only[bD,Option.bind,List.take_length]
 ·cases h
end Go.Am
end
section
namespace Go.Am
theorem R5 {a b:Nat} (h:a*b<=1099511627776):cu .i64 (a:Int) (b:Int)=((a*b:Nat):Int):=by
 have e:(a:Int)*(b:Int)=((a*b:Nat):Int):=(Int.natCast_mul a b).symm
 rw[kq (by omega) (by omega),e]
end Go.Am
end
section
namespace Go.Am
end Go.Am
end
section
namespace Go.Am
def aaD (x:Int×jd×jd):Prop:=eo x.1/\nk x.2.1/\nk x.2.2/\(x.2.1.1*x.2.2.1<=4096/\x.2.1.2.1*x.2.2.2.1<=4096)/\(x.2.1.1*x.2.2.1)*(x.2.1.2.1*x.2.2.2.1)<=1048576/\iw x.1 x.2.1.2.2/\iw x.1 x.2.2.2.2
instance (x:Int×jd×jd):Decidable (aaD x):=by unfold aaD;infer_instance
section
variable {p:Int} {r c s d:Nat} {A B:bR}
end
section
variable {p:Int} {n m:Nat} {a b a2 b2:List Int} {ms QF:List jd}
end
end Go.Am
end
section
namespace Go.Am
end Go.Am
end
section
namespace Go.Am
abbrev Wd:=List Int
structure BI (p:Int) (n t:Nat) (S:List Wd×List Int) (q:List Wd):Prop where
 dl:S.2.length=S.1.length*n
 dp:iw p S.2
 kn:S.1.length<=n
 qo:∀w∈q,KO t w/\w.length<=S.1.length
 wo:∀w∈S.1,KO t w/\w.length<=n
section
variable {p:Int} {n:Nat} {s b:List Int} {ms:List jd}
theorem BI.no {S:List Wd×List Int} {w:Wd} {q:List Wd} (h:BI p n ms.length S (w::q)):BI p n ms.length S q:=⟨h.dl,h.dp,h.kn,fun v hv=>h.qo v (by simp[hv]),h.wo⟩
end
theorem Wo {α:Type} {l:List α} {n:Nat} (h:n=l.length):c9 l n=some l:=by subst h;unfold c9;rw[if_pos (Nat.le_refl _),List.take_length]
section
variable {p:Int} {n:Nat} {s b:List Int} {ms:List jd}
end
end Go.Am
end
section
namespace Go.Am
section
variable {p:Int} {n:Nat} {s b:List Int} {ms:List jd}
end
end Go.Am
end
section
namespace Go.Am
def ac2 (x:Int×jd×jd):Prop:=eo x.1/\(0<=x.2.1.1/\x.2.1.1<=x.2.1.2.1/\x.2.1.2.1<=12)/\(0<=x.2.2.1/\x.2.2.1<=12)/\x.2.2.2.1=x.2.1.2.1/\(x.2.1.2.2.length=x.2.1.1.toNat*x.2.1.2.1.toNat/\x.2.2.2.2.length=x.2.2.1.toNat*x.2.1.2.1.toNat)/\iw x.1 x.2.1.2.2/\iw x.1 x.2.2.2.2
instance (x:Int×jd×jd):Decidable (ac2 x):=by unfold ac2;infer_instance
end Go.Am
end
section
namespace Go.Am
end Go.Am
end
section
namespace Go.Am
end Go.Am
end
section
namespace Go.Am
def Mg (p:Int) (M:bR) (i j:Nat):Prop:=(M i j+M j i)%p=0/\(i=j->M i j=0)
instance (p:Int) (M:bR) (i j:Nat):Decidable (Mg p M i j):=by unfold Mg;infer_instance
def W5 (p:Int) (M:bR) (i:Nat):Prop:=∀j,j<i+1->Mg p M i j
instance (p:Int) (M:bR) (i:Nat):Decidable (W5 p M i):=by unfold W5;infer_instance
end Go.Am
end
section
namespace Go.Am
def lF (p a b:Int):Prop:=∃q,a=b+p*q
theorem lF.refl (p a:Int):lF p a a:=⟨0,by simp⟩
theorem lF.trans {p a b c:Int} (h:lF p a b) (h':lF p b c):lF p a c:=by
 obtain⟨q,rfl⟩:=h;obtain⟨q',rfl⟩:=h';exact⟨q'+q,by rw[Int.mul_add];omega⟩
theorem lF.symm {p a b:Int} (h:lF p a b):lF p b a:=by
 obtain⟨q,rfl⟩:=h;exact⟨-q,by rw[Int.mul_neg];omega⟩
theorem lF.add {p a b c d:Int} (h:lF p a b) (h':lF p c d):lF p (a+c) (b+d):=by
 obtain⟨q,rfl⟩:=h;obtain⟨q',rfl⟩:=h';exact⟨q+q',by grind⟩
theorem lF.mul {p a b c d:Int} (h:lF p a b) (h':lF p c d):lF p (a*c) (b*d):=by
 obtain⟨q,rfl⟩:=h;obtain⟨q',rfl⟩:=h';exact⟨q*d+b*q'+p*q*q',by grind⟩
section
variable {p inv:Int} {n k:Nat} {A:bR}
end
end Go.Am
end
section
namespace Go.Am
section
variable {p:Int} {n:Nat} {M:bR}
end
section
variable {p:Int} {n:Nat} {M:bR}
end
end Go.Am
end
section
namespace Go.Am
end Go.Am
end
section
namespace Go.Am
section
variable {p:Int} {n m:Nat} {a b a2 b2:List Int} {ms QF:List jd}
theorem acG {α:Type} (l r:List α) (v x:α) (k:Nat) (hk:k=l.length):bg (l++v::r) k x=l++x::r:=by
 subst hk
 unfold bg
 rw[List.set_append_right _ _ (Nat.le_refl _),Nat.sub_self]
 rfl
end
end Go.Am
end
section
namespace Go.Am
def kU:Nat->List Int->List Int
 |0,l=>l
 |k+1,l=>if l.getD (k+1) 0<l.getD k 0 then kU k (bg (bg l (k+1) (l.getD k 0)) k (l.getD (k+1) 0)) else l
def eQ (l:List Int):Nat->List Int
 |0=>l
 |i+1=>kU i (eQ l i)
def sj:List Int->Option (List Int):=fun l=>if l.length<=12 then some (eQ l l.length) else none
def CG:Int->Option Int:=fun x=>if 0<=x/\x<=18446744073709551615 then some ((Go.Lib.bitLen x.toNat:Nat):Int) else none
def xB:Int->Option Bool:=fun _=>some false
def CE:Int×Int->Option Bool:=fun x=>some (bd x.1 x.2)
def vr:List Int×Int×Int->Option (List Int):=fun x=>if x.2.1=0/\x.2.2=x.1.length/\x.1.length<=12 then some (eQ x.1 x.1.length) else none
def z5:List Int×Int×Int×Int->Option (List Int):=fun x=>vr (x.1,x.2.1,x.2.2.1)
def z4:List Int->Option (List Int):=sj
def zQ:List Int->Option (List Int):=sj
def Hs:ai:=[(.one,[.list [.int .i64]])]
def TR:ai:=[(.one,[.list [.int .i64]])]
def alK:aN:=[]
def aei:ai:=[(.one,[.int .u64])]
def ao8:ai:=[(.one,[.int .i64])]
def alr:aN:=[]
def Gb:ai:=[(.one,[.int .i64])]
def SG:ai:=[(.one,[.bool])]
def akM:aN:=[]
def Ga:ai:=[(.one,[.int .i64]),(.one,[.int .i64])]
def SF:ai:=[(.one,[.bool])]
def akL:aN:=[]
def G5:ai:=[(.one,[.list [.int .i64]]),(.one,[.int .i64]),(.one,[.int .i64])]
def Tv:ai:=[(.one,[.list [.int .i64]])]
def JG:aN:=[[some .ab]]
def G6:ai:=[(.one,[.list [.int .i64]]),(.one,[.int .i64]),(.one,[.int .i64]),(.one,[.int .i64])]
def Tw:ai:=[(.one,[.list [.int .i64]])]
def JH:aN:=[[some .ab]]
def G4:ai:=[(.one,[.list [.int .i64]])]
def Tu:ai:=[(.one,[.list [.int .i64]])]
def JF:aN:=[[some .ab]]
def GI:ai:=[(.one,[.list [.int .i64]])]
def Tb:ai:=[(.one,[.list [.int .i64]])]
def alb:aN:=[]
def L6 (NN:Nat):(List Int)->(Option (List Int)):=
 (fun(l0:(List Int))=>
 (nG l0).U (fun l1=>
 bD ((ae 0 (J l1) (J l1)).U (fun _=>
 bu NN (fun(((i2,i3),l4):((Int×Int)×(List Int)))=>
 ak (bd i3 i2)
 (bD ((ae 0 (J l4) (J l4)).U (fun _=>
 bu NN (fun(((i5,i6,i7),l8):((Int×(Int×Int))×(List Int)))=>
 ak (bd (0:Int) i5)
 ((da (dV .i64 i5 1) (J l8)).U (fun k9=>
 (bY l8 (aC 0 k9)).U (fun cr=>
 (da i5 (J l8)).U (fun td=>
 (bY l8 (aC 0 td)).U (fun cZ=>
 ak (bd cZ cr)
 ((da i5 (J l8)).U (fun P5=>
 (bY l8 (aC 0 P5)).U (fun ca=>
 (da (dV .i64 i5 1) (J l8)).U (fun kj=>
 (bY l8 (aC 0 kj)).U (fun eO=>
 (da i5 (J l8)).U (fun qu=>
 (bY l8 (aC 0 qu)).U (fun gp=>
 (da (dV .i64 i5 1) (J l8)).U (fun Ek=>
 (bY (bg l8 (aC 0 qu) eO) (aC 0 Ek)).U (fun g8=>
 (ae 0 (J l8) (J (bg (bg l8 (aC 0 qu) eO) (aC 0 Ek) ca))).U (fun _=>
 some (Sum.inl ((dV .i64 i5 1,i6,i7),bg (bg l8 (aC 0 qu) eO) (aC 0 Ek) ca))))))))))))
 (((ae 0 (J l8) (J l8)).U (fun _=>
 some (Sum.inl ((i7,i6),l8)))).U (fun cM=>
 some (Sum.inr cM))))))))
 (((ae 0 (J l8) (J l8)).U (fun _=>
 some (Sum.inl ((i7,i6),l8)))).U (fun ju=>
 some (Sum.inr ju))))
 ((i3,i2,i3),l4)))
 (fun((jq,gu),dL)=>
 (ae 0 (J dL) (J dL)).U (fun _=>
 some (Sum.inl ((gu,aU .i64 jq 1),dL)))))
 (((ae 0 (J l4) (J l4)).U (fun _=>
 some (Sum.inl l4))).U (fun dr=>
 some (Sum.inr dr))))
 ((aI (J l1),(0:Int)),l1)))
 (fun gL=>
 (c9 gL (J gL)).U (fun gy=>
 some gy))))
def K5 (NN:Nat):Int->(Option Bool):=
 (fun(i0:Int)=>
 some (dt i0 i0))
def K4 (NN:Nat):(Int×Int)->(Option Bool):=
 (fun((i0,i1):(Int×Int))=>
 (xB i0).U (fun b2=>
 ak (b2)
 ((xB i1).U (fun b3=>
 ak (cC b3)
 (some true)
 (some (bd i0 i1))))
 (some (bd i0 i1))))
def LJ (NN:Nat):((List Int)×(Int×Int))->(Option (List Int)):=
 (fun((l0,i1,i2):((List Int)×(Int×Int)))=>
 (ae 0 (J l0) (J l0)).U (fun _=>
 bu NN (fun(((i3,i4,i5),l6):((Int×(Int×Int))×(List Int)))=>
 ak (bd i5 i4)
 (bD ((ae 0 (J l6) (J l6)).U (fun _=>
 bu NN (fun(((i7,i8,i9,cr),dz):((Int×(Int×(Int×Int)))×(List Int)))=>
 ak (bd i7 cr)
 ((da cr (J dz)).U (fun wJ=>
 (bY dz (aC 0 wJ)).U (fun cU=>
 (da (dV .i64 cr 1) (J dz)).U (fun k14=>
 (bY dz (aC 0 k14)).U (fun kH=>
 (CE (cU,kH)).U (fun b16=>
 ak (b16)
 ((da (dV .i64 cr 1) (J dz)).U (fun qu=>
 (bY dz (aC 0 qu)).U (fun gp=>
 (da cr (J dz)).U (fun Ek=>
 (bY dz (aC 0 Ek)).U (fun g8=>
 (da cr (J dz)).U (fun Jl=>
 (bY dz (aC 0 Jl)).U (fun g9=>
 (da (dV .i64 cr 1) (J dz)).U (fun El=>
 (bY (bg dz (aC 0 Jl) gp) (aC 0 El)).U (fun gu=>
 (ae 0 (J dz) (J (bg (bg dz (aC 0 Jl) gp) (aC 0 El) g8))).U (fun _=>
 some (Sum.inl ((i7,i8,i9,dV .i64 cr 1),bg (bg dz (aC 0 Jl) gp) (aC 0 El) g8))))))))))))
 (((ae 0 (J dz) (J dz)).U (fun _=>
 some (Sum.inl ((i9,i7,i8),dz)))).U (fun dL=>
 some (Sum.inr dL)))))))))
 (((ae 0 (J dz) (J dz)).U (fun _=>
 some (Sum.inl ((i9,i7,i8),dz)))).U (fun dr=>
 some (Sum.inr dr))))
 ((i3,i4,i5,i5),l6)))
 (fun((lM,wC,oW),nZ)=>
 (ae 0 (J nZ) (J nZ)).U (fun _=>
 some (Sum.inl ((wC,oW,aU .i64 lM 1),nZ)))))
 (((jF (J l6) (J l0)).U (fun _=>
 some l6)).U (fun n3=>
 some (Sum.inr n3))))
 ((i1,i2,aU .i64 i1 1),l0)))
def LK (NN:Nat):((List Int)×(Int×(Int×Int)))->(Option (List Int)):=
 (fun((l0,i1,i2,i3):((List Int)×(Int×(Int×Int))))=>
 (ae 0 (J l0) (J l0)).U (fun _=>
 bu NN (fun(((i4,i5,i6,b7,b8),l9):((Int×(Int×(Int×(Bool×Bool))))×(List Int)))=>
 ak (fM (dV .i64 i5 i4) (12:Int))
 ((ae 0 (J l9) (J l9)).U (fun _=>
 (vr (l9,i4,i5)).U (fun eW=>
 ((jF (J eW) (J l0)).U (fun _=>
 some eW)).U (fun dz=>
 some (Sum.inr dz)))))
 (ak (bL i6 (0:Int))
 (none)
 (bD (ak (cC b7)
 (none)
 ((ae 0 (J l9) (J l9)).U (fun _=>
 some (Sum.inl ((b8,b7,dV .i64 i5 i4,i5,i4,i6),l9)))))
 (fun((HI,sv,ca,kH,eO,gn),iq)=>
 none))))
 ((i1,i2,i3,true,true),l0)))
def LI (NN:Nat):(List Int)->(Option (List Int)):=
 (fun(l0:(List Int))=>
 (CG (C5 .u64 (aI (J l0)))).U (fun i1=>
 (ae 0 (J l0) (J l0)).U (fun _=>
 (z5 (l0,(0:Int),aI (J l0),i1)).U (fun l2=>
 (jF (J l2) (J l0)).U (fun _=>
 some l2)))))
def Lq (NN:Nat):(List Int)->(Option (List Int)):=
 (fun(l0:(List Int))=>
 (nF l0).U (fun l1=>
 (ae 0 (J l1) (J l1)).U (fun _=>
 (z4 l1).U (fun l2=>
 (c9 l2 (J l1)).U (fun l3=>
 some l3)))))
theorem acP:∀(k:Nat) (l:List Int),(kU k l).length=l.length
 |0,_=>rfl
 |k+1,l=>by
  unfold kU
  split
  ·rw[acP k];simp[bg]
  ·rfl
theorem vf (l:List Int):∀i,(eQ l i).length=l.length
 |0=>rfl
 |i+1=>by unfold eQ;rw[acP,vf l i]
theorem Ko {l:List Int} {k:Nat} (h:k<l.length):bY l (aC 0 k)=some (l.getD k 0):=by
 rw[eZ]
 show l[k]? =_
 rw[List.getD_eq_getElem?_getD,List.getElem?_eq_getElem h]
 rfl
theorem apR {l:List Int} {k:Nat} (v:Int) (h:k+1<l.length):bY (bg l (aC 0 (k+1)) v) (aC 0 k)=some (l.getD k 0):=by
 rw[eZ,eZ]
 show(l.set (k+1) v)[k]? =_
 rw[List.getElem?_set_ne (by omega),List.getD_eq_getElem?_getD,List.getElem?_eq_getElem (by omega)]
 rfl
theorem ac0 {l:List Int} {k:Nat} (v:Int) (h:k+1<l.length):bY (bg l (k+1) v) k=some (l.getD k 0):=by
 have:=apR v h
 rwa[eZ,eZ] at this
theorem Kn {l:List Int} {k:Nat} (h:k<l.length):da (k:Int) (J l)=some k:=pL h
theorem ac1 {k:Nat} (h:k<=1000):dV .i64 ((k+1:Nat):Int) 1=(k:Int):=by rw[kV (by omega) (by omega)];omega
theorem apS {l:List Int} {k:Nat} (h:k+1<l.length):∃p q a b,l=p++a::b::q/\p.length=k/\l.getD k 0=a/\l.getD (k+1) 0=b:=by
 refine⟨l.take k,l.drop (k+2),l[k],l[k+1],?_,by rw[List.length_take];omega,?_,?_⟩
 ·have h1:=List.drop_eq_getElem_cons (l:=l) (i:=k) (by omega)
  have h2:=List.drop_eq_getElem_cons (l:=l) (i:=k+1) (by omega)
  rw[<-h2,<-h1,List.take_append_drop]
 ·rw[List.getD_eq_getElem?_getD,List.getElem?_eq_getElem (by omega)];rfl
 ·rw[List.getD_eq_getElem?_getD,List.getElem?_eq_getElem (by omega)];rfl
theorem acQ:∀(k:Nat) (l:List Int),k<l.length->(kU k l).Perm l
 |0,_,_=>List.Perm.refl _
 |k+1,l,h=>by
  unfold kU
  split
  ·refine(acQ k _ (by simp[bg];omega)).trans ?_
   obtain⟨p,q,a,b,e,hp,ha,hb⟩:=apS (l:=l) (k:=k) h
   rw[ha,hb]
   subst e
   have e1:bg (p++a::b::q) (k+1) a=p++a::a::q:=by
    have:=acG (p++[a]) q b a (k+1) (by simp[hp])
    simpa using this
   rw[e1,acG p (a::q) a b k hp.symm]
   exact(List.Perm.swap a b q).append_left p
  ·exact List.Perm.refl _
theorem ac4 (l:List Int):∀i,i<=l.length->(eQ l i).Perm l
 |0,_=>List.Perm.refl _
 |i+1,h=>by unfold eQ;exact(acQ i _ (by rw[vf];omega)).trans (ac4 l i (by omega))
theorem ahd (x:List Int) (y:List Int) (h:sj x=some y):L6 az x=some y:=by
 simp only[sj] at h
 split at h
 ·rename_i hl
  rw[<-h]
  simp only[L6]
  rw[show nG x=some x from if_pos (by omega)]
  simp only[aG,bW]
  rw[ef (fun i=>(((x.length:Int),(i:Int)),eQ x i)) x.length ?a1 ?a2 ?a3 (cX (by omega))]
  case a3=>rfl
  case a2=>
   dsimp only
   rw[aK (cP (by omega))]
   try simp only[bW,aG]
  case a1=>
   intro i hi
   dsimp only
   rw[aH (df (by omega))]
   try simp only[bW,aG]
   have hL:=vf x i
   rw[Js (r:=Sum.inl (((i:Int),(x.length:Int)),kU i (eQ x i))) (fun m z=>∃l',z=(((m:Int),(x.length:Int),(i:Int)),l')/\l'.length=x.length/\m<x.length/\kU m l'=kU i (eQ x i)) ?b1 i _ ⟨_,rfl,hL,hi,rfl⟩ az (cX (by omega))]
   case b1=>
    rintro m z ⟨l',rfl,h1,h2,h3⟩
    dsimp only
    cases m with
    |zero=>
     left
     rw[aK (cP (by omega))]
     try simp only[bW,aG]
     rw[<-h3]
     rfl
    |succ m=>
     have hm:m<l'.length:=by omega
     have fR:m+1<l'.length:=by omega
     rw[aH (df (by omega)),ac1 (by omega),Kn hm,Kn fR]
     simp only[aG,Ko hm,Ko fR]
     by_cases bB:l'.getD (m+1) 0<l'.getD m 0
     ·right
      rw[aH (df bB)]
      simp only[aG,eZ,ac0 _ fR]
      have e:kU (m+1) l'=kU m (bg (bg l' (m+1) (l'.getD m 0)) m (l'.getD (m+1) 0)):=if_pos bB
      rw[show ae 0 (J l') (J (bg (bg l' (m+1) (l'.getD m 0)) m (l'.getD (m+1) 0)))=some () from yj (by simp[J,bg])]
      try simp only[aG]
      exact⟨m,_,by omega,rfl,_,rfl,by simpa[bg] using h1,by omega,by rw[<-e];exact h3⟩
     ·left
      rw[aK (cP (by omega))]
      try simp only[bW,aG]
      rw[<-h3,show kU (m+1) l'=l' from if_neg bB]
   simp only[bD,Option.bind,bW,aG]
   rw[eK (by omega) (by omega)]
   rfl
  simp only[bD,Option.bind,gO,aG]
 ·cases h
theorem af7 (x:Int) (y:Bool) (h:xB x=some y):K5 az x=some y:=by
 rw[<-h]
 simp[K5,xB,dt]
theorem af6 (x:Int×Int) (y:Bool) (h:CE x=some y):K4 az x=some y:=by
 obtain⟨a,b⟩:=x
 rw[<-h]
 simp only[K4,xB,aG]
 rw[aK (by rfl)]
 rfl
theorem agT (x:List Int×Int×Int) (y:List Int) (h:vr x=some y):LJ az x=some y:=by
 obtain⟨x,a,b⟩:=x
 simp only[vr] at h
 split at h
 ·rename_i hc
  rw[<-h]
  obtain⟨ha,hb,hl⟩:=hc
  try dsimp only at ha hb hl
  subst ha hb
  simp only[LJ,bW,aG]
  rw[eK (by omega) (by omega)]
  have h0:eQ x 1=x:=rfl
  by_cases hx:x.length=0
  ·rw[ef (fun i=>(((0:Int),(x.length:Int),(1:Int)),x)) 0 ?a1 ?a2 ?a3 (cX (by omega))]
   case a3=>rfl
   case a2=>
    dsimp only
    rw[aK (cP (by omega)),pA rfl,hx]
    rfl
   case a1=>intro i hi;omega
  ·rw[ef (fun i=>(((0:Int),(x.length:Int),((i+1:Nat):Int)),eQ x (i+1))) (x.length - 1) ?a1 ?a2 ?a3 (cX (by omega))]
   case a3=>rfl
   case a2=>
    dsimp only
    rw[aK (cP (by omega)),pA (by show(eQ x _).length=_;rw[vf];rfl),show x.length - 1+1=x.length by omega]
    rfl
   case a1=>
    intro i hi
    dsimp only
    rw[aH (df (by omega))]
    try simp only[bW,aG]
    have hL:=vf x (i+1)
    rw[Js (r:=Sum.inl ((((i+1:Nat):Int),(0:Int),(x.length:Int)),kU (i+1) (eQ x (i+1)))) (fun m z=>∃l',z=(((0:Int),(x.length:Int),((i+1:Nat):Int),(m:Int)),l')/\l'.length=x.length/\m<x.length/\kU m l'=kU (i+1) (eQ x (i+1))) ?b1 (i+1) _ ⟨_,rfl,hL,by omega,rfl⟩ az (cX (by omega))]
    case b1=>
     rintro m z ⟨l',rfl,h1,h2,h3⟩
     dsimp only
     cases m with
     |zero=>
      left
      rw[aK (cP (by omega))]
      try simp only[bW,aG]
      rw[<-h3]
      rfl
     |succ m=>
      have hm:m<l'.length:=by omega
      have fR:m+1<l'.length:=by omega
      rw[aH (df (by omega)),ac1 (by omega),Kn hm,Kn fR]
      simp only[aG,Ko hm,Ko fR,CE]
      by_cases bB:l'.getD (m+1) 0<l'.getD m 0
      ·right
       rw[aH (df bB)]
       simp only[aG,eZ,ac0 _ fR]
       have e:kU (m+1) l'=kU m (bg (bg l' (m+1) (l'.getD m 0)) m (l'.getD (m+1) 0)):=if_pos bB
       rw[show ae 0 (J l') (J (bg (bg l' (m+1) (l'.getD m 0)) m (l'.getD (m+1) 0)))=some () from yj (by simp[J,bg])]
       try simp only[aG]
       exact⟨m,_,by omega,rfl,_,rfl,by simpa[bg] using h1,by omega,by rw[<-e];exact h3⟩
      ·left
       rw[aK (cP (by omega))]
       try simp only[bW,aG]
       rw[<-h3,show kU (m+1) l'=l' from if_neg bB]
    simp only[bD,Option.bind,bW,aG]
    rw[eK (by omega) (by omega)]
    rfl
 ·cases h
theorem agU (x:List Int×Int×Int×Int) (y:List Int) (h:z5 x=some y):LK az x=some y:=by
 obtain⟨x,a,b,fW⟩:=x
 have h':vr (x,a,b)=some y:=h
 simp only[z5,vr] at h
 split at h
 ·rename_i hc
  injection h with h
  obtain⟨ha,hb,hl⟩:=hc
  try dsimp only at ha hb hl
  subst ha hb
  simp only[LK,bW,aG]
  rw[ef (fun _=>(((0:Int),(x.length:Int),fW,true,true),x)) 0 ?a1 ?a2 ?a3 (cX (by omega))]
  case a3=>rfl
  case a1=>intro i hi;omega
  case a2=>
   dsimp only
   rw[kV (by omega) (by omega),aH (o7 (by omega))]
   try simp only[bW,aG]
   rw[h']
   try simp only[aG]
   rw[pA (by rw[<-h];exact vf x _)]
   try simp only[aG]
 ·cases h
theorem agS (x:List Int) (y:List Int) (h:z4 x=some y):LI az x=some y:=by
 simp only[z4,sj] at h
 split at h
 ·rename_i hl
  rw[<-h]
  simp only[LI,bW]
  have hc:C5 .u64 (aI (J x))=(x.length:Int):=by
   show C5 .u64 (x.length:Int)=_
   unfold C5
   simp[IntKind.wrap,IntKind.bits,IntKind.signed]
   omega
  rw[hc,show CG (x.length:Int)=some ((Go.Lib.bitLen ((x.length:Int).toNat):Nat):Int) from if_pos ⟨by omega,by omega⟩]
  try simp only[aG]
  rw[show z5 (x,(0:Int),aI (J x),_)=some (eQ x x.length) from if_pos ⟨rfl,rfl,hl⟩]
  try simp only[aG]
  rw[show jF (J (eQ x x.length)) (J x)=some () from pA (vf x _)]
  try simp only[aG]
 ·cases h
theorem agz (x:List Int) (y:List Int) (h:zQ x=some y):Lq az x=some y:=by
 simp only[zQ,sj] at h
 split at h
 ·rename_i hl
  rw[<-h]
  simp only[Lq]
  rw[show nF x=some x from if_pos (by omega)]
  simp only[aG,bW]
  rw[show z4 x=some (eQ x x.length) from if_pos hl]
  try simp only[aG]
  rw[aqj (n:=J x) (vf x _)]
  rfl
 ·cases h
end Go.Am
end
