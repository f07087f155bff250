/- M67, M26, M27, M28, M68, M69, M70, M71, M72, M37, M41, M42, M73, M43, M10, M44, M74, M75, M76, M45, M77: parts of the proof. No condition. -/
import Derived.Test.YtbgmbplglejidaaM66
set_option linter.unusedVariables false
set_option linter.unusedSimpArgs false
section
namespace Go.Am
def GY:ak:=[(.agg,[.list [.int .i64],.list [.int .i64],.list [.int .i64]]),(.one,[.list [.int .i64]])]
def Sz:ak:=[(.one,[.list [.int .i64]])]
def akb:aN:=[]
def Ly (NN:Nat):(((List Int)×((List Int)×(List Int)))×(List Int))->(Option (List Int)):=
 (fun(((l0,l1,l2),l3):(((List Int)×((List Int)×(List Int)))×(List Int)))=>
 (n9 (aI (J l3)) (aI (J l3)) 8).aa (fun k4=>
 cd ((ai 0 k4 (J (dT k4 (0:Int)))).aa (fun _=>
 bN NN (fun(((l5,i6,i7),(l8,l9,ff),cB):(((List Int)×(Int×Int))×(((List Int)×((List Int)×(List Int)))×(List Int))))=>
 aC (gC (0:Int) i7)
 (cd (cd ((ai 0 (J cB) (J cB)).aa (fun _=>
 bN NN (fun(((dz,fN,eE,eU,iK,kH),(lM,lO,je),dQ):(((List Int)×(Int×(Int×((List Int)×(Int×Int)))))×(((List Int)×((List Int)×(List Int)))×(List Int))))=>
 aC (bO kH iK)
 ((dK eU kH).aa (fun mI=>
 (dK lM eE).aa (fun uA=>
 aC (cz mI uA)
 ((fj kH (J dQ)).aa (fun yL=>
 (dv dQ (aW 0 yL)).aa (fun oV=>
 (ai 0 (J dQ) (J (bW dQ (aW 0 yL) fN))).aa (fun _=>
 some (Sum.inl ((dz,fN,eE,eU,iK,bS .i64 kH 1),(lM,lO,je),bW dQ (aW 0 yL) fN))))))
 ((ai 0 (J dQ) (J dQ)).aa (fun _=>
 some (Sum.inl ((dz,fN,eE,eU,iK,bS .i64 kH 1),(lM,lO,je),dQ)))))))
 (((ai 0 (J dQ) (J dQ)).aa (fun _=>
 some (Sum.inl ((fN,eE,dz),(lM,lO,je),dQ)))).aa (fun fg=>
 some (Sum.inr fg))))
 ((l5,i6,i7,l5,aI (J l5),(0:Int)),(l8,l9,ff),cB)))
 (fun((kI,uC,iw),(kj,kl,sZ),jf)=>
 (dK kl uC).aa (fun lI=>
 (ai 0 (J jf) (J jf)).aa (fun _=>
 some (Sum.inl ((uC,iw,c7 .i64 kI lI),(kj,kl,sZ),jf))))))
 (fun((jc,iy,jd),(kK,iz,g9),fy)=>
 (ai 0 (J fy) (J fy)).aa (fun _=>
 some (Sum.inl ((iy,jd,eG .i64 jc 1),(kK,iz,g9),fy)))))
 (((ai 0 (J cB) (J cB)).aa (fun _=>
 some (Sum.inl cB))).aa (fun hJ=>
 some (Sum.inr hJ))))
 ((l3,(1:Int),eG .i64 (aI (J l1)) (1:Int)),(l0,l1,l2),dT k4 (0:Int))))
 (fun jg=>
 (dP jg (J jg)).aa (fun km=>
 some km))))
theorem Vb {D:List Int} (h:iW D) {i:Nat} (hi:i<=D.length):aM D i<=br D:=by
 have:=Va (D:=D) (i:=0) (j:=i) (Nat.zero_le i) hi
 rw[zt] at this
 exact Nat.le_of_dvd (EJ fun x hx=>(h.2 x hx).1) this
theorem adB {L D S:List Int} (I:gJ L D S) {q k:Nat} (hq:q<S.length) (hk:k<L.length):S.getD q 0=L.getD k 0↔c8 L (S.getD q 0)=k:=by
 constructor
 ·intro e
  rw[e,wQ I.nL hk]
 ·intro e
  have:=Rk (I.p.mem_iff.1 (jN hq))
  rw[e] at this
  exact this.symm
theorem nb {l:List Int} {i:Nat} (h:i<l.length):l[i]? =some (l.getD i 0):=by
 rw[List.getD_eq_getElem?_getD,List.getElem?_eq_getElem h]
 rfl
theorem abl (n:Nat):dT n (0:Int)=bP n fun _=>0:=by
 apply List.ext_getElem?
 intro i
 by_cases hi:i<n
 ·rw[mT _ hi]
  show(List.replicate n (0:Int))[i]? =_
  rw[List.getElem?_replicate,if_pos hi]
 ·rw[List.getElem?_eq_none (by show(List.replicate n (0:Int)).length<=i;simp;omega),List.getElem?_eq_none (by rw[fR];omega)]
def jY (L D S:List Int) (j q:Nat) (i:Nat):Int:=if(i<q/\c8 L (S.getD i 0)+1=D.length - j)\/D.length - j<=c8 L (S.getD i 0) then((aM D (c8 L (S.getD i 0)+1):Nat):Int) else 0
theorem af9 (x:T3×List Int) (y:List Int) (h:zQ x=some y):Ly ax x=some y:=by
 obtain⟨⟨L,D,A⟩,S⟩:=x
 simp only[zQ] at h
 split at h
 ·rename_i hc
  rw[<-h]
  obtain⟨ha,hS,hp⟩:=hc
  try dsimp only at ha hS hp
  have I:=gJ.mk' ha hS
  have AO:=I.dz
  have hl:=I.len
  have gj:=I.E4
  simp only[Ly]
  rw[yT (by simp only[J,dF];omega)]
  try simp only[bI]
  rw[show ai 0 (J S) (J (dT (J S) (0:Int)))=some () from x6 (by simp[J,dT])]
  try simp only[bI]
  rw[fF (r:=Sum.inl (ov L D S)) (fun j=>((S,((aM D (D.length - j):Nat):Int),(D.length:Int) - 1 - (j:Int)),(L,D,A),bP S.length (jY L D S j 0))) D.length ?a1 ?a2 ?a3 (dC (by omega))]
  case a3=>
   rw[lW (by show _<=((J D:Nat):Int) - 1;omega) (by show((J D:Nat):Int) - 1<=_;unfold J;omega),abl]
   rw[show D.length - 0=D.length from rfl,nA]
   rw[show bP S.length (jY L D S 0 0)=bP (J S) (fun _=>0) from jl fun i hi=>by
    have:=I.xG hi
    unfold jY
    rw[if_neg (by omega)]]
   show _=((S,((1:Nat):Int),(D.length:Int) - 1 - ((0:Nat):Int)),(L,D,A),_)
   rw[show(D.length:Int) - 1 - ((0:Nat):Int)=(D.length:Int) - 1 by omega]
   rfl
  case a2=>
   dsimp only
   rw[show gC (0:Int) ((D.length:Int) - 1 - (D.length:Int))=false from decide_eq_false (by omega),aR rfl]
   try simp only[cH,bI]
   rw[show bP S.length (jY L D S D.length 0)=ov L D S from jl fun i hi=>by unfold jY;rw[if_pos (by omega)]]
  case a1=>
   intro j hj
   dsimp only
   rw[aX (uK (by omega))]
   try simp only[cH,bI]
   have hk:((D.length:Int) - 1 - (j:Int))=((D.length - 1 - j:Nat):Int):=by omega
   rw[hk]
   have hdk:=I.nN _ (jN (l:=D) (i:=D.length - 1 - j) (by omega))
   rw[fF (r:=Sum.inl ((((aM D (D.length - j):Nat):Int),((D.length - 1 - j:Nat):Int),S),(L,D,A),bP S.length (jY L D S (j+1) 0))) (fun q=>((S,((aM D (D.length - j):Nat):Int),((D.length - 1 - j:Nat):Int),S,(S.length:Int),(q:Int)),(L,D,A),bP S.length (jY L D S j q))) S.length ?b1 ?b2 ?b3 (dC (by omega))]
   case b3=>rfl
   case b2=>
    dsimp only
    rw[aR (cZ (by omega))]
    try simp only[cH,bI]
    rw[show bP S.length (jY L D S j S.length)=bP S.length (jY L D S (j+1) 0) from jl fun i hi=>by
     unfold jY
     by_cases hc:(i<S.length/\c8 L (S.getD i 0)+1=D.length - j)\/D.length - j<=c8 L (S.getD i 0)
     ·rw[if_pos hc,if_pos (by omega)]
     ·rw[if_neg hc,if_neg (by omega)]]
   case b1=>
    intro q hq
    dsimp only
    rw[aX (dc (by omega)),dY,dY,nb hq,nb (l:=L) (i:=D.length - 1 - j) (by omega)]
    try simp only[bI]
    rw[fv (by omega) (by omega)]
    have oO:=adB I hq (k:=D.length - 1 - j) (by omega)
    by_cases he:S.getD q 0=L.getD (D.length - 1 - j) 0
    ·have dL:=oO.1 he
     rw[aX (by unfold cz;exact beq_iff_eq.2 he),Ap _ hq]
     try simp only[bI,gR]
     rw[vO _ hq]
     try simp only[bI]
     rw[EO,show ai 0 (J (bP S.length (jY L D S j q))) (J (bP S.length fun i=>if i=q then((aM D (D.length - j):Nat):Int) else jY L D S j q i))=some () from nR _ _ _]
     try simp only[bI]
     rw[show bP S.length (fun i=>if i=q then((aM D (D.length - j):Nat):Int) else jY L D S j q i)=bP S.length (jY L D S j (q+1)) from jl fun i hi=>by
      by_cases YO:i=q
      ·subst YO
       rw[if_pos rfl]
       unfold jY
       rw[if_pos (by omega),dL,show D.length - 1 - j+1=D.length - j by omega]
      ·rw[if_neg YO]
       unfold jY
       by_cases hc:(i<q/\c8 L (S.getD i 0)+1=D.length - j)\/D.length - j<=c8 L (S.getD i 0)
       ·rw[if_pos hc,if_pos (by omega)]
       ·rw[if_neg hc,if_neg (by omega)]]
     rfl
    ·have dL:c8 L (S.getD q 0)≠D.length - 1 - j:=fun e=>he (oO.2 e)
     rw[aR (by simp only[cz,beq_eq_false_iff_ne,ne_eq];exact he)]
     try simp only[cH,bI]
     rw[show bP S.length (jY L D S j (q+1))=bP S.length (jY L D S j q) from jl fun i hi=>by
      unfold jY
      by_cases hc:(i<q/\c8 L (S.getD i 0)+1=D.length - j)\/D.length - j<=c8 L (S.getD i 0)
      ·rw[if_pos hc,if_pos (by omega)]
      ·rw[if_neg hc,if_neg (by
        intro cv
        apply hc
        rcases cv with⟨c1,c2⟩|c2
        ·left
         refine⟨?_,c2⟩
         have:i≠q:=by intro e;subst e;omega
         omega
        ·exact .inr c2)]]
     rfl
   simp only[cd,Option.bind]
   rw[dY,nb (l:=D) (i:=D.length - 1 - j) (by omega)]
   try simp only[bI,cH]
   obtain⟨d,d1,d2,d3,d4,d5⟩:=HZ I.iW (i:=D.length - 1 - j) (by omega)
   have ht:aM D (D.length - 1 - j)=d*aM D (D.length - 1 - j+1):=by rw[lY (by omega),d3]
   rw[show D.length - 1 - j+1=D.length - j by omega] at ht
   have iY:=Vb I.iW (i:=D.length - 1 - j) (by omega)
   rw[d2,np (by rw[<-Int.natCast_mul];omega) (by rw[<-Int.natCast_mul,Nat.mul_comm,<-ht];omega),lW (by omega) (by omega),<-Int.natCast_mul,Nat.mul_comm,<-ht]
   show some (Sum.inl _)=some (Sum.inl ((S,((aM D (D.length - (j+1)):Nat):Int),(D.length:Int) - 1 - ((j+1:Nat):Int)),(L,D,A),bP S.length (jY L D S (j+1) 0)))
   rw[show D.length - (j+1)=D.length - 1 - j by omega,show(D.length:Int) - 1 - ((j+1:Nat):Int)=((D.length - 1 - j:Nat):Int) - 1 by omega]
  simp only[cd,Option.bind,ku,bI]
 ·cases h
end Go.Am
end
section
namespace Go.Am
def gU (m:Int) (r c:Nat) (d:List Int):Nat:=(bK m r (bY c d) c).2.1.length
def nP (m:Int) (r c:Nat) (d:List Int):List Int:=aG r (gU m r c d) (uQ (bY c d) (bK m r (bY c d) c).2.1)
def sA (m:Int) (r c:Nat) (d:List Int):List Int:=aG (gU m r c d) c (bK m r (bY c d) c).1
def ab4 (s:bh):Prop:=(0<=s.1/\s.1<=4096)/\(0<=s.2.1/\s.2.1<=4096)/\(0<=s.2.2.1/\s.2.2.1<=4096)
instance (s:bh):Decidable (ab4 s):=by unfold ab4;infer_instance
theorem Ab {m:Int} {r c:Nat} {d:List Int} (hl:d.length=r*c) (h:eX m d):de m r c (bY c d):=by
 rw[<-nK,sE hl];exact h
theorem apj {r c k:Nat} (M:aU) (hk:k<=r):(aG r c M).take (k*c)=aG k c M:=by
 unfold aG
 rw[<-List.map_take,List.take_range,Nat.min_eq_left (Nat.mul_le_mul_right _ hk)]
theorem ME {m:Int} {r c:Nat} {d:List Int} (hm:dO m) (hl:d.length=r*c) (hd:eX m d):
  AG (m,(r:Int),(c:Int),d)=(((r:Int),(gU m r c d:Int),nP m r c d),((gU m r c d:Int),(c:Int),sA m r c d))/\gU m r c d<=r/\gU m r c d<=c/\
  (nP m r c d).length=r*gU m r c d/\eX m (nP m r c d)/\(sA m r c d).length=gU m r c d*c/\eX m (sA m r c d):=by
 have hM:=Ab hl hd
 have hI:=oq hm hM (r:=r) (c:=c) c
 have h1:gU m r c d<=r:=hI.l
 refine⟨?_,h1,hI.lj,j9 _ _ _,?_,j9 _ _ _,?_⟩
 ·simp only[AG,pD,Int.toNat_natCast]
  rw[apj _ hI.l]
  rfl
 ·unfold nP
  rw[nK]
  intro i hi t ht
  exact hM i hi _ (aaV hI.e ht).2
 ·unfold sA
  rw[nK]
  exact fun i hi j hj=>hI.m i (by omega) j hj
theorem agB {m:Int} {r c:Nat} {d:List Int} (hp:ct m=true) (hc:c<=64) (hr:r<=4096) (hl:d.length=r*c) (hd:eX m d):
  tq (m,(r:Int),(c:Int),d)=some (if r<=64 then(((r:Int),(gU m r c d:Int),nP m r c d),((gU m r c d:Int),(c:Int),sA m r c d),true) else((0,0,[]),(0,0,[]),false)):=by
 have hm:=eF hp
 have dM:r*c<=4096*64:=Nat.mul_le_mul hr hc
 have e:kN m ((r:Int),(c:Int),d)=decide (r<=64):=by
  have fc:mV m d=true:=List.all_eq_true.2 fun x hx=>decide_eq_true (hd x hx)
  have e3:(d.length:Int)=(r:Int)*(c:Int):=by rw[hl];norm_cast
  simp only[kN,hp,fc,e3,decide_true,Bool.true_and,Bool.and_true]
  rw[decide_eq_true (p:=0<=(c:Int)/\(c:Int)<=64) (by omega),Bool.and_true]
  by_cases h:r<=64
  ·rw[decide_eq_true h,decide_eq_true (by omega)]
  ·rw[decide_eq_false h,decide_eq_false (by omega)]
 simp only[tq,KW]
 rw[if_pos (by show d.length<=_;omega),e,(ME hm hl hd).1]
 by_cases h:r<=64
 ·rw[if_pos h,if_pos (decide_eq_true h)]
 ·rw[if_neg h,if_neg (by rw[decide_eq_false h];simp)]
theorem abY {m:Int} {s:bh} (h:mW m s=true):∃(b p c:Nat) (d:List Int),s=((b:Int),(p:Int),(c:Int),d)/\b<=32/\c<=32/\(1<=p/\p<=8)/\d.length=b*p*c/\eX m d:=by
 obtain⟨a,p,c,d⟩:=s
 obtain⟨t1,t2,t3,t4,t5⟩:=Uq h
 obtain⟨a,rfl⟩:=fz t1.1
 obtain⟨p,rfl⟩:=fz (show 0<=p by omega)
 obtain⟨c,rfl⟩:=fz t2.1
 refine⟨a,p,c,d,rfl,by omega,by omega,by omega,?_,fun x hx=>of_decide_eq_true (List.all_eq_true.1 t5 x hx)⟩
 have:((a:Int)*(p:Int)*(c:Int))=((a*p*c:Nat):Int):=by norm_cast
 rw[this] at t4;exact_mod_cast t4
theorem J9 {m:Int} {b p c:Nat} {d:List Int} (hb:b<=32) (hc:c<=32) (hp:1<=p/\p<=8) (hl:d.length=b*p*c) (hd:eX m d):mW m ((b:Int),(p:Int),(c:Int),d)=true:=by
 have fc:mV m d=true:=List.all_eq_true.2 fun x hx=>decide_eq_true (hd x hx)
 have e3:(d.length:Int)=(b:Int)*(p:Int)*(c:Int):=by rw[hl];norm_cast
 simp only[mW,fc,e3,decide_true,Bool.and_true,Bool.and_eq_true,decide_eq_true_eq]
 omega
def MG (m:Int) (L:List bh):Prop:=(∀k,k<L.length->mW m (L.getD k dZ)=true)/\∀k,k+1<L.length->(L.getD (k+1) dZ).1=(L.getD k dZ).2.2.1
theorem Iq {m:Int} {l:List bh} (h:e8 (m,l)=true):MG m l:=by
 obtain⟨hm,hl,_,_,hs⟩:=vG h
 refine⟨fun k hk=>?_,fun k hk=>?_⟩
 ·obtain⟨p,M,e,h1,h2,h3,h4,h5⟩:=hs k hk
  rw[e]
  exact J9 h1 h2 h3 (j9 _ _ _) (nK.2 h4)
 ·obtain⟨p,M,e,_⟩:=hs k (by omega)
  obtain⟨p',M',e',_⟩:=hs (k+1) hk
  rw[e,e']
theorem X8 {S α:Type} (step:Nat->S->α->Option S) (I:Nat->S->Prop) (es:List α):∀(l:List α) (i:Nat) (s s':S),I i s->(∀k s a s',l[k - i]? =some a->i<=k->I k s->step k s a=some s'->I (k+1) s')->eI step i s l=some s'->I (i+l.length) s'
 |[],i,s,s',h,_,e=>by simp only[eI] at e;injection e with e;subst e;exact h
 |a::l,i,s,s',h,hs,e=>by
  simp only[eI] at e
  cases ed:step i s a with
  |none=>rw[ed] at e;cases e
  |some s1=>
   rw[ed] at e
   have:=X8 step I es l (i+1) s1 s' (hs i s a s1 (by simp) (Nat.le_refl _) h ed) (fun k s b s' hb hk hI ed=>hs k s b s' (by rw[show k - i=(k - (i+1))+1 by omega];simpa using hb) (by omega) hI ed) e
   rw[List.length_cons,show i+(l.length+1)=i+1+l.length by omega]
   exact this
end Go.Am
end
section
namespace Go.Am
def Wk (m:Int) (s t:bh) (x:Int×Int×List Int):Prop:=x.1=s.2.1*t.2.1/\x.2.1=s.2.1*t.2.1/\s.1*s.2.1<=64/\t.2.1*t.2.2.1<=64
instance (m:Int) (s t:bh) (x:Int×Int×List Int):Decidable (Wk m s t x):=by unfold Wk;infer_instance
end Go.Am
end
section
namespace Go.Am
section
variable {A1 A2 A3 A4 A5 X Y Z T ρ:Type}
end
section
variable {p:Int} {n:Nat} {a b:List Int} {ms:List jn} {N k:Nat}
end
section
variable {p:Int} {n:Nat} {a b:List Int} {ms:List jn} {N k:Nat}
theorem Iu {α:Type} (l r:List α):ai 0 (aW (J l) (J r)) (J (dt l r))=some ():=x6 (by simp[aW,J,dt])
end
end Go.Am
end
section
namespace Go.Am
def GR:ak:=[(.agg,[.int .i64,.int .i64,.int .i64]),(.agg,[.list [.int .i64],.list [.int .i64],.list [.int .i64]]),(.one,[.list [.int .i64]])]
def Ss:ak:=[(.agg,[.list [.int .i64],.list [.int .i64],.list [.int .i64]])]
def aj5:aN:=[]
def Lu (NN:Nat):((Int×(Int×Int))×(((List Int)×((List Int)×(List Int)))×(List Int)))->(Option ((List Int)×((List Int)×(List Int)))):=
 (fun(((i0,i1,i2),(l3,l4,l5),l6):((Int×(Int×Int))×(((List Int)×((List Int)×(List Int)))×(List Int))))=>
 (nF l6).aa (fun l7=>
 (n9 (aI (J l6)) (aI (J l6)) 8).aa (fun k8=>
 cd ((ai 0 0 (J (([]:List Int)))).aa (fun _=>
 (ai 0 0 (J (([]:List Int)))).aa (fun _=>
 (ai 0 0 (J (([]:List Int)))).aa (fun _=>
 (ai 0 (J l7) (J l7)).aa (fun _=>
 (ai 0 k8 (J (dT k8 (0:Int)))).aa (fun _=>
 (ai 0 0 (J (([]:List Int)))).aa (fun _=>
 bN NN (fun(((l9,ff,eS,eZ),(fN,eE,jz),(gn,fP,lM),lO,je,dQ,fm,jU,iv):(((List Int)×((List Int)×(Int×Int)))×((Int×(Int×Int))×(((List Int)×((List Int)×(List Int)))×((List Int)×((List Int)×((List Int)×((List Int)×((List Int)×(List Int))))))))))=>
 aC (bO eZ eS)
 ((dK ff eZ).aa (fun oV=>
 (zF ((gn,fP,lM),oV)).aa (fun uB=>
 (dK fP uB).aa (fun kI=>
 (fj eZ (J jU)).aa (fun Eh=>
 (dv jU (aW 0 Eh)).aa (fun yB=>
 (ai 0 (J lO) (J lO)).aa (fun _=>
 (ai 0 (J je) (J je)).aa (fun _=>
 (ai 0 (J dQ) (J dQ)).aa (fun _=>
 (ai 0 (J fm) (J fm)).aa (fun _=>
 (ai 0 (J jU) (J (bW jU (aW 0 Eh) kI))).aa (fun _=>
 (ai 0 (J iv) (J iv)).aa (fun _=>
 some (Sum.inl ((l9,ff,eS,bS .i64 eZ 1),(fN,eE,jz),(gn,fP,lM),lO,je,dQ,fm,bW jU (aW 0 Eh) kI,iv))))))))))))))
 (((ai 0 (J lO) (J lO)).aa (fun _=>
 (ai 0 (J je) (J je)).aa (fun _=>
 (ai 0 (J dQ) (J dQ)).aa (fun _=>
 (ai 0 (J fm) (J fm)).aa (fun _=>
 (ai 0 (J jU) (J jU)).aa (fun _=>
 (ai 0 (J iv) (J iv)).aa (fun _=>
 some (Sum.inl (l9,(fN,eE,jz),(gn,fP,lM),lO,je,dQ,fm,jU,iv))))))))).aa (fun kj=>
 some (Sum.inr kj))))
 ((l6,l6,aI (J l6),(0:Int)),(i0,i1,i2),(l3,l4,l5),([]:List Int),([]:List Int),([]:List Int),l7,dT k8 (0:Int),([]:List Int)))))))))
 (fun(kl,(gk,oW,lI),(ZU,iy,Ji),kK,iz,g9,fy,hJ,jg)=>
 (zQ ((ZU,iy,Ji),kl)).aa (fun km=>
 (n9 (aI (J kl)) (aI (J kl)) 8).aa (fun Pq=>
 (ai 0 (J km) (J km)).aa (fun _=>
 (ai 0 Pq (J (dT Pq (0:Int)))).aa (fun _=>
 (ai 0 (J kK) (J kK)).aa (fun _=>
 (ai 0 (J iz) (J iz)).aa (fun _=>
 (ai 0 (J g9) (J g9)).aa (fun _=>
 (ai 0 (J fy) (J fy)).aa (fun _=>
 (ai 0 (J hJ) (J hJ)).aa (fun _=>
 (ai 0 (J jg) (J jg)).aa (fun _=>
 bN NN (fun(((wu,oZ,ql),(mM,wB,rO),s0,mN,rP,lP,iB,iC,lQ,jD):((Int×(Int×Int))×(((List Int)×((List Int)×(List Int)))×((List Int)×((List Int)×((List Int)×((List Int)×((List Int)×((List Int)×((List Int)×(List Int)))))))))))=>
 (c6 lQ 0 (J lQ)).aa (fun yN=>
 (c6 jD 0 (J jD)).aa (fun wC=>
 (zH (yN,wC)).aa (fun qm=>
 (xv ((wu,oZ,ql),(mM,wB,rO),qm)).aa (fun Bz=>
 (ai 0 (J iC) (J iC)).aa (fun _=>
 (jt (aW (J iC) (J Bz)) 8).aa (fun _=>
 (c6 iB 0 (J iB)).aa (fun qt=>
 (ai 0 (J jD) (J jD)).aa (fun _=>
 (tt (qt,jD)).aa (fun(b65,ph)=>
 aC (ef b65)
 (((dP lP (J lP)).aa (fun wD=>
 (dP iB (J iB)).aa (fun rQ=>
 (dP (dt iC Bz) (aW (J iC) (J Bz))).aa (fun Ei=>
 some (wD,rQ,Ei))))).aa (fun((qu,mO,mP):((List Int)×((List Int)×(List Int))))=>
 some (Sum.inr (qu,mO,mP))))
 ((ai 0 (J lQ) (J lQ)).aa (fun _=>
 (ai 0 (J jD) (J ph)).aa (fun _=>
 (ai 0 (J s0) (J s0)).aa (fun _=>
 (ai 0 (J mN) (J mN)).aa (fun _=>
 (ai 0 (J rP) (J rP)).aa (fun _=>
 (ai 0 (J lP) (J lP)).aa (fun _=>
 (ai 0 (J iB) (J iB)).aa (fun _=>
 (ai 0 (aW (J iC) (J Bz)) (J (dt iC Bz))).aa (fun _=>
 some (Sum.inl ((wu,oZ,ql),(mM,wB,rO),s0,mN,rP,lP,iB,dt iC Bz,lQ,ph)))))))))))))))))))))
 ((gk,oW,lI),(ZU,iy,Ji),kK,iz,g9,fy,hJ,jg,km,dT Pq (0:Int))))))))))))))))
theorem Kx {r:Rg} {L D A:List Int} (h:jm r (L,D,A)=true):nM L D=true/\cV D<=4096:=by
 simp only[jm,Bool.and_eq_true,decide_eq_true_eq] at h
 obtain⟨h1,h2,h3,h4⟩:=h
 by_cases ha:nM L D=true/\cV D<=4096
 ·exact ha
 ·have e:iE L D= -1:=if_neg ha
  rw[e] at h2
  exact absurd h2 (by decide)
theorem am7 {D:List Int} (hl:D.length<=1048576) (hd:∀x∈D,1<=x/\x<=8) (hp:br D<=4096):VG (D,4096)=some ((br D:Nat):Int):=by
 have hI:=uR (D:=D) fun x hx=>(hd x hx).1
 have e:xI 4096 D=((br D:Nat):Int):=by
  unfold xI
  rw[Hz (by decide) _ 0 1 (fun x hx=>(hd x hx).1) (by decide) (by decide),Int.one_mul,hI,Int.min_eq_left (by omega)]
 rw[<-e]
 exact if_pos ⟨by decide,hl,List.all_eq_true.2 fun v hv=>by have:=hd v hv;exact decide_eq_true (by omega)⟩
theorem Wq (r:Rg) (A:List Int) (off:Nat->Nat):∀n,(j4 r A off n).length<=n*bZ r
 |0=>by simp[j4]
 |n+1=>by
  have ih:=Wq r A off n
  unfold j4
  rw[List.length_append,Nat.add_mul,Nat.one_mul]
  have:(gu A (off n*bZ r) (bZ r)).length<=bZ r:=by unfold gu;rw[List.length_take];omega
  omega
theorem alV {L D S:List Int} (I:gJ L D S) (n:Nat):sN (fun i=>((cP (dB L D S) n).getD i 0).toNat*((ov L D S).getD i 0).toNat) (ov L D S).length=jh L D S n:=by
 rw[show(ov L D S).length=S.length from fR _ _]
 unfold jh
 refine S1 _ fun i hi=>?_
 rw[I6 (by unfold dB;rw[fR];exact hi)]
 unfold gP
 rw[wQ I.nS hi]
 congr 1
 unfold ov
 rw[List.getD_eq_getElem?_getD,mT _ hi]
 exact Int.toNat_natCast _
theorem ao1 {L D S:List Int} (I:gJ L D S) (hp:br D<=4096):zl (ov L D S) 1048576:=by
 refine⟨by unfold ov;rw[fR,I.E4];exact I.dz,fun x hx=>?_⟩
 obtain⟨i,hi,rfl⟩:=List.mem_map.1 hx
 have h1:=I.xG (List.mem_range.1 hi)
 have:=Vb I.iW (i:=c8 L (S.getD i 0)+1) (by have:=I.len;omega)
 omega
theorem ahU {L D S:List Int} (I:gJ L D S) (n:Nat):zl (cP (dB L D S) n) 8:=by
 refine⟨by unfold cP dB;rw[fR,fR,I.E4];exact I.dz,fun x hx=>?_⟩
 obtain⟨i,hi,rfl⟩:=List.mem_map.1 hx
 have hi:i<S.length:=by have:=List.mem_range.1 hi;unfold dB at this;rwa[fR] at this
 have h1:=I.Xe n hi
 have h2:=I.nN _ (jN (l:=D) (i:=c8 L (S.getD i 0)) (by have:=I.xG hi;have:=I.len;omega))
 omega
theorem adH {L D A S:List Int} (I:gJ L D S) {i:Nat} (hi:i<S.length):x3 L (S.getD i 0)=((c8 L (S.getD i 0):Nat):Int):=if_pos (I.xG hi)
def y3 (L D S:List Int) (j:Nat) (i:Nat):Int:=if i<j then D.getD (c8 L (S.getD i 0)) 0 else 0
theorem af3 (x:Rg×T3×List Int) (y:T3) (h:zN x=some y):Lu ax x=some y:=by
 obtain⟨⟨k,p,m⟩,⟨L,D,A⟩,S⟩:=x
 simp only[zN,VH] at h
 split at h
 ·rename_i hc
  rw[<-h]
  obtain⟨ht,hS⟩:=hc
  try dsimp only at ht hS
  have sG:=(Kx ht).1
  have I:=gJ.mk' sG hS
  obtain⟨hr,⟨hl,hd⟩,Bi,⟨uk,mE⟩,hA,hD,ju,hpI,_⟩:=Ky ht
  have hw:=Fx hr
  have AO:=I.dz
  have YY:=I.len
  have gj:=I.E4
  have IX:=I.prod
  have Yo:=I.aeu
  have fK:(dB L D S).length=S.length:=fR _ _
  simp only[Lu]
  rw[show nF S=some S from if_pos (by omega)]
  simp only[bI]
  rw[yT (by simp only[J,dF];omega)]
  simp only[bI,cH]
  rw[show ai 0 0 (J ([]:List Int))=some () from rfl,show ai 0 (J S) (J (dT (J S) (0:Int)))=some () from x6 (by simp[J,dT])]
  simp only[bI]
  rw[fF (r:=Sum.inl (S,(k,p,m),(L,D,A),([]:List Int),([]:List Int),([]:List Int),S,dB L D S,([]:List Int))) (fun j=>((S,S,(S.length:Int),(j:Int)),(k,p,m),(L,D,A),([]:List Int),([]:List Int),([]:List Int),S,bP S.length (y3 L D S j),([]:List Int))) S.length ?a1 ?a2 ?a3 (dC (by omega))]
  case a3=>
   rw[abl]
   rfl
  case a2=>
   dsimp only
   rw[aR (cZ (by omega))]
   try simp only[cH,bI]
   rw[show bP S.length (y3 L D S S.length)=dB L D S from jl fun i hi=>if_pos hi]
  case a1=>
   intro i hi
   dsimp only
   have bQ:=I.xG hi
   rw[aX (dc (by omega)),dY,nb hi]
   simp only[bI]
   rw[show zF ((L,D,A),S.getD i 0)=some (x3 L (S.getD i 0)) from if_pos (by dsimp only;omega),adH (A:=A) I hi]
   simp only[bI]
   rw[dY,nb (l:=D) (i:=c8 L (S.getD i 0)) (by omega)]
   simp only[bI]
   rw[Ap _ hi]
   simp only[bI,gR]
   rw[vO _ hi]
   simp only[bI,cH]
   rw[EO,show ai 0 (J (bP S.length (y3 L D S i))) (J (bP S.length fun q=>if q=i then D.getD (c8 L (S.getD i 0)) 0 else y3 L D S i q))=some () from nR _ _ _]
   simp only[bI]
   rw[fv (by omega) (by omega)]
   rw[show bP S.length (fun q=>if q=i then D.getD (c8 L (S.getD i 0)) 0 else y3 L D S i q)=bP S.length (y3 L D S (i+1)) from jl fun q hq=>by
    unfold y3
    by_cases mG:q=i
    ·subst mG;rw[if_pos rfl,if_pos (by omega)]
    ·rw[if_neg mG]
     by_cases bG:q<i
     ·rw[if_pos bG,if_pos (by omega)]
     ·rw[if_neg bG,if_neg (by omega)]]
   rfl
  simp only[cd,Option.bind]
  rw[show zQ ((L,D,A),S)=some (ov L D S) from if_pos ⟨sG,hS,mE⟩]
  simp only[bI]
  rw[yT (by simp only[J,dF];omega)]
  simp only[bI,cH]
  rw[show ai 0 (J S) (J (dT (J S) (0:Int)))=some () from x6 (by simp[J,dT])]
  simp only[bI]
  have ahc:dT (J S) (0:Int)=cP (dB L D S) 0:=by
   have:=Zw Yo
   rw[show J (dB L D S)=J S from fK] at this
   exact this
  have Y8:∀n,n<br D->zH (ov L D S,cP (dB L D S) n)=some ((jh L D S n:Nat):Int)/\xv ((k,p,m),(L,D,A),((jh L D S n:Nat):Int))=some (gu A (jh L D S n*bZ (k,p,m)) (bZ (k,p,m)))/\
    jt (aW (J (j4 (k,p,m) A (jh L D S) n)) (J (gu A (jh L D S n*bZ (k,p,m)) (bZ (k,p,m))))) 8=some ()/\tt (dB L D S,cP (dB L D S) n)=some (decide (n+1<br D),cP (dB L D S) (n+1)):=by
   intro n hn
   have ho:=I.aaF n
   refine⟨?_,?_,?_,?_⟩
   ·rw[<-alV I n]
    exact if_pos ⟨ao1 I mE,ahU I n,by show(ov L D S).length=(cP (dB L D S) n).length;unfold ov cP;rw[fR,fR,fK]⟩
   ·have h1:(jh L D S n+1)*bZ (k,p,m)<=br D*bZ (k,p,m):=Nat.mul_le_mul_right _ ho
    have h2:br D*bZ (k,p,m)<=4096*6:=Nat.mul_le_mul mE hw.2.2
    rw[show xv ((k,p,m),(L,D,A),((jh L D S n:Nat):Int))=_ from if_pos ⟨hr,by dsimp only;omega,by dsimp only;rw[Int.toNat_natCast];omega,by dsimp only;omega⟩]
    rfl
   ·have h1:=Wq (k,p,m) A (jh L D S) n
    have h2:n*bZ (k,p,m)<=4096*6:=Nat.mul_le_mul (by omega) hw.2.2
    have h3:(gu A (jh L D S n*bZ (k,p,m)) (bZ (k,p,m))).length<=6:=by unfold gu;rw[List.length_take];omega
    exact oK (by simp only[aW,J,dF];omega)
   ·have:=Q4 Yo (n:=n) (by rw[IX];exact hn) (by rw[IX];omega)
    rw[IX] at this
    exact this
  rw[ahc]
  rw[fF (r:=uP (k,p,m) (L,D,A) S) (fun n=>((k,p,m),(L,D,A),([]:List Int),([]:List Int),([]:List Int),S,dB L D S,j4 (k,p,m) A (jh L D S) n,ov L D S,cP (dB L D S) n)) (br D - 1) ?b1 ?b2 ?b3 (dC (by omega))]
  case b3=>rfl
  case b2=>
   obtain⟨q1,q2,q3,q4⟩:=Y8 (br D - 1) (by omega)
   dsimp only
   simp only[iQ,cH,bI]
   rw[q1]
   simp only[bI]
   rw[q2]
   simp only[bI]
   rw[q3]
   simp only[bI]
   rw[q4]
   simp only[bI]
   rw[decide_eq_false (by omega),aX (b:=ef false) rfl]
   simp only[ku,bI]
   rw[acK (by simp[aW,J,dt])]
   simp only[bI]
   show some (Sum.inr (S,dB L D S,j4 (k,p,m) A (jh L D S) (br D - 1)++gu A (jh L D S (br D - 1)*bZ (k,p,m)) (bZ (k,p,m))))=some (Sum.inr (S,dB L D S,j4 (k,p,m) A (jh L D S) (br (dB L D S))))
   rw[IX]
   obtain⟨N,hN⟩:∃N,br D=N+1:=⟨br D - 1,by omega⟩
   rw[hN]
   rfl
  case b1=>
   intro n hn
   obtain⟨q1,q2,q3,q4⟩:=Y8 n (by omega)
   dsimp only
   simp only[iQ,cH,bI]
   rw[q1]
   simp only[bI]
   rw[q2]
   simp only[bI]
   rw[q3]
   simp only[bI]
   rw[q4]
   simp only[bI]
   rw[decide_eq_true (by omega),aR (b:=ef true) rfl]
   rw[show ai 0 (J (cP (dB L D S) n)) (J (cP (dB L D S) (n+1)))=some () from by unfold cP;exact nR _ _ _]
   simp only[bI]
   rw[Iu]
   rfl
 ·cases h
end Go.Am
end
section
namespace Go.Am
def Gw:ak:=[(.agg,[.int .i64,.int .i64,.int .i64]),(.agg,[.list [.int .i64],.list [.int .i64],.list [.int .i64]])]
def R8:ak:=[(.agg,[.list [.int .i64],.list [.int .i64],.list [.int .i64]])]
def ajN:aN:=[]
def Le (NN:Nat):((Int×(Int×Int))×((List Int)×((List Int)×(List Int))))->(Option ((List Int)×((List Int)×(List Int)))):=
 (fun(((i0,i1,i2),l3,l4,l5):((Int×(Int×Int))×((List Int)×((List Int)×(List Int)))))=>
 (vi ((i0,i1,i2),l3,l4,l5)).aa (fun b6=>
 aC (ef b6)
 (some (([]:List Int),([]:List Int),([]:List Int)))
 ((zP l3).aa (fun l7=>
 (c6 l7 0 (J l7)).aa (fun l8=>
 (zN ((i0,i1,i2),(l3,l4,l5),l8)).aa (fun(l9,ff,cB)=>
 (dP l9 (J l9)).aa (fun dz=>
 (dP ff (J ff)).aa (fun eK=>
 (dP cB (J cB)).aa (fun gm=>
 some (dz,eK,gm))))))))))
theorem apE {α:Type} (x:α):c6 [x] 0 1=some [x]:=rfl
theorem afK (x:Rg×T3) (y:T3) (h:zE x=some y):Le ax x=some y:=by
 obtain⟨⟨k,p,m⟩,L,D,A⟩:=x
 simp only[zE,VC] at h
 split at h
 ·rename_i hc
  rw[<-h]
  simp only[Le]
  rw[show vi ((k,p,m),L,D,A)=some (jm (k,p,m) (L,D,A)) from if_pos hc]
  simp only[bI]
  unfold qN
  cases ht:jm (k,p,m) (L,D,A) with
  |false=>rw[aX (b:=ef false) rfl,if_neg (by simp)]
  |true=>
   have AO:=(vB (Kx ht).1).1
   rw[aR (b:=ef true) rfl,if_pos rfl,show zP L=some (fh L L.length) from if_pos AO]
   simp only[bI,iQ]
   rw[show zN ((k,p,m),(L,D,A),fh L L.length)=some (uP (k,p,m) (L,D,A) (fh L L.length)) from if_pos ⟨ht,rfl⟩]
   simp only[bI,uP,ku]
 ·cases h
end Go.Am
end
section
namespace Go.Am
abbrev jL:=Nat×List Int×List bh
def cK (m:Int) (D:List Int) (i:Nat) (st:jL):Nat:=gU m (st.1*(D.getD i 0).toNat) (aM D (i+1)) st.2.1
def sj (m:Int) (D:List Int) (i:Nat) (st:jL):jL:=
 (cK m D i st,sA m (st.1*(D.getD i 0).toNat) (aM D (i+1)) st.2.1,st.2.2++[((st.1:Int),D.getD i 0,(cK m D i st:Int),nP m (st.1*(D.getD i 0).toNat) (aM D (i+1)) st.2.1)])
def Ak (D:List Int) (i:Nat) (st:jL):Bool:=decide (st.1*(D.getD i 0).toNat<=64/\aM D (i+1)<=64)
def ra (m:Int) (D:List Int) (i:Nat) (st:jL) (_:Nat):Option jL:=if Ak D i st=true then(if cK m D i st<=32 then some (sj m D i st) else none) else none
def ko (D:List Int) (st:jL):List bh:=st.2.2++[((st.1:Int),D.getD (D.length - 1) 0,1,st.2.1)]
def L3:(Int×List bh)×Bool:=((0,[]),false)
def agE (m:Int) (D:List Int) (st:jL):(Int×List bh)×Bool:=((m,ko D st),true)
def EP (m:Int) (D A:List Int):(Int×List bh)×Bool:=match eI (ra m D) 0 (1,A,[]) (List.range (D.length - 1)) with|some st=>agE m D st|none=>L3
def Ma (x:Int×T3):(Int×List bh)×Bool:=if jm (2,x.1,0) x.2=true/\1<=x.2.1.length/\x.2.1.length<=8 then EP x.1 (qN (2,x.1,0) x.2).2.1 (qN (2,x.1,0) x.2).2.2 else L3
def KU:Int×T3->Option ((Int×List bh)×Bool):=fun x=>if x.2.1.length<=1048576/\x.2.2.1.length<=1048576/\x.2.2.2.length<=1048576 then some (Ma x) else none
def xo:Int×T3->Option ((Int×List bh)×Bool):=KU
structure ma (m:Int) (D A:List Int):Prop where
 pr:ct m=true
 l1:1<=D.length
 l8:D.length<=8
 nN:∀x∈D,1<=x/\x<=8
 pn:br D<=4096
 len:A.length=br D
 el:eX m A
theorem Ws {r:Rg} {A:List Int} {off:Nat->Nat}:∀n,∀x∈j4 r A off n,x∈A
 |0,x,hx=>by simp[j4] at hx
 |n+1,x,hx=>by
  unfold j4 at hx
  rcases List.mem_append.1 hx with h|h
  ·exact Ws n x h
  ·exact List.mem_of_mem_drop (List.mem_of_mem_take h)
theorem Wr {r:Rg} {A:List Int} {off:Nat->Nat} {N:Nat} (hA:A.length=N*bZ r) (ho:∀n,off n<N):∀n,(j4 r A off n).length=n*bZ r
 |0=>by simp[j4]
 |n+1=>by
  unfold j4
  rw[List.length_append,Wr hA ho n,Nat.add_mul,Nat.one_mul]
  have h1:(off n+1)*bZ r<=N*bZ r:=Nat.mul_le_mul_right _ (ho n)
  rw[Nat.add_mul,Nat.one_mul] at h1
  unfold gu
  rw[List.length_take,List.length_drop]
  omega
theorem aoS {p:Int} {L D A:List Int} (ht:jm (2,p,0) (L,D,A)=true) (h1:1<=L.length) (h8:L.length<=8):ma p (qN (2,p,0) (L,D,A)).2.1 (qN (2,p,0) (L,D,A)).2.2:=by
 have sG:=(Kx ht).1
 have I:=gJ.mk' sG (S:=fh L L.length) rfl
 obtain⟨hr,_,_,⟨_,mE⟩,hA,_,_,_,lF⟩:=Ky ht
 have e:qN (2,p,0) (L,D,A)=uP (2,p,0) (L,D,A) (fh L L.length):=if_pos ht
 have bx:ct p=true:=by
  have:jk (2,p,0)=(ct p&&decide ((0:Int)=0)):=rfl
  rw[this,Bool.and_eq_true] at hr
  exact hr.1
 have hl:(dB L D (fh L L.length)).length=L.length:=by unfold dB;rw[fR,w6]
 rw[e]
 refine⟨bx,by show 1<=(dB L D (fh L L.length)).length;omega,by show(dB L D (fh L L.length)).length<=8;omega,I.Xf,by show br (dB _ _ _)<=_;rw[I.prod];exact mE,?_,?_⟩
 ·show(j4 (2,p,0) A (jh L D (fh L L.length)) (br (dB L D (fh L L.length)))).length=br (dB L D (fh L L.length))
  rw[Wr hA I.aaF,show bZ (2,p,0)=1 from rfl,Nat.mul_one]
 ·intro x hx
  have:=List.all_eq_true.1 lF x (Ws _ x hx)
  have hv:=of_decide_eq_true this
  have ht:eH (2,p,0)=p - 1:=rfl
  rw[ht] at hv
  exact⟨hv.1,by omega⟩
structure ld (m:Int) (D:List Int) (i:Nat) (st:jL):Prop where
 left:st.1<=64
 len:st.2.1.length=st.1*aM D i
 el:eX m st.2.1
 gL:st.2.2.length=i
 sz:qO st.2.2<=i*5000
theorem acF (L:List bh) (s:bh):qO (L++[s])=qO L+1+s.2.2.2.length:=by
 simp only[qO,List.length_append,List.map_append,List.sum_append_nat,List.length_cons,List.length_nil,List.map_cons,List.map_nil,List.sum_cons,List.sum_nil]
 show _=_+1+vb s
 omega
theorem ld.rc {m:Int} {D A:List Int} (h:ma m D A) {i:Nat} (hi:i<D.length - 1) {st:jL} (I:ld m D i st):st.2.1.length=st.1*(D.getD i 0).toNat*aM D (i+1):=by
 rw[I.len,lY (by omega),Nat.mul_assoc]
theorem ld.next {m:Int} {D A:List Int} (h:ma m D A) {i:Nat} (hi:i<D.length - 1) {st:jL} (I:ld m D i st) (hf:Ak D i st=true):ld m D (i+1) (sj m D i st):=by
 have hf:=of_decide_eq_true hf
 obtain⟨_,f1,f2,f3,f4,f5,f6⟩:=ME (eF h.pr) (ld.rc h hi I) I.el
 refine⟨by show gU _ _ _ _<=64;omega,f5,f6,by show(st.2.2++[_]).length=_;rw[List.length_append,I.gL];rfl,?_⟩
 show qO (st.2.2++[_])<=_
 rw[acF]
 show qO st.2.2+1+(nP _ _ _ _).length<=_
 rw[f3]
 have h1:st.1*(D.getD i 0).toNat*gU m (st.1*(D.getD i 0).toNat) (aM D (i+1)) st.2.1<=64*64:=Nat.mul_le_mul hf.1 (by omega)
 have:=I.sz
 omega
structure r9 (m:Int) (D:List Int) (i:Nat) (st:jL):Prop where
 s:ld m D i st
 left:st.1<=32
 ch:eI (mr m) 0 1 st.2.2=some (st.1:Int)
 Ay:bf st.2.2=D.take i
theorem Is {S α:Type} (step:Nat->S->α->Option S) (a:α):∀(l:List α) (i:Nat) (s:S),eI step i s (l++[a])=match eI step i s l with|some s'=>step (i+l.length) s' a|none=>none
 |[],i,s=>by
  simp only[List.nil_append,eI,List.length_nil,Nat.add_zero]
  cases step i s a<;>rfl
 |b::l,i,s=>by
  simp only[List.cons_append,eI]
  cases step i s b with
  |none=>rfl
  |some s1=>
   simp only
   rw[Is step a l (i+1) s1,List.length_cons,show i+1+l.length=i+(l.length+1) by omega]
theorem HW {m:Int} {D A:List Int} (h:ma m D A) {i:Nat} (hi:i<D.length):∃d:Nat,D.getD i 0=(d:Int)/\(D.getD i 0).toNat=d/\1<=d/\d<=8:=by
 have:=h.nN _ (jN hi)
 exact⟨(D.getD i 0).toNat,by omega,rfl,by omega,by omega⟩
theorem r9.next {m:Int} {D A:List Int} (h:ma m D A) {i:Nat} (hi:i<D.length - 1) {st:jL} (I:r9 m D i st) (hf:Ak D i st=true) (hk:cK m D i st<=32):r9 m D (i+1) (sj m D i st):=by
 have hs:=ld.next h hi I.s hf
 obtain⟨d,d1,d2,d3,d4⟩:=HW h (i:=i) (by omega)
 obtain⟨_,f1,f2,f3,f4,f5,f6⟩:=ME (eF h.pr) (ld.rc h hi I.s) I.s.el
 refine⟨hs,hk,?_,?_⟩
 ·show eI (mr m) 0 1 (st.2.2++[_])=some ((cK m D i st:Nat):Int)
  rw[Is,I.ch]
  show mr m _ _ _=_
  refine if_pos ⟨?_,rfl⟩
  have MA:(nP m (st.1*(D.getD i 0).toNat) (aM D (i+1)) st.2.1).length=st.1*(D.getD i 0).toNat*cK m D i st:=f3
  generalize nP m (st.1*(D.getD i 0).toNat) (aM D (i+1)) st.2.1=fa at MA f4⊢
  rw[d2] at MA
  rw[d1]
  exact J9 I.left hk ⟨d3,d4⟩ MA f4
 ·show bf (st.2.2++[_])=_
  unfold bf
  rw[List.map_append]
  show bf st.2.2++[D.getD i 0]=_
  rw[I.Ay,List.take_add_one,nb (by omega)]
  rfl
theorem r9.fin {m:Int} {D A:List Int} (h:ma m D A) {st:jL} (I:r9 m D (D.length - 1) st):e8 (m,ko D st)=true:=by
 have l1:=h.l1
 obtain⟨d,d1,d2,d3,d4⟩:=HW h (i:=D.length - 1) (by omega)
 have hlen:=I.s.len
 rw[lY (by omega),show D.length - 1+1=D.length by omega,nA,Nat.mul_one,d2] at hlen
 have ye:=I.s.gL
 have dr:eI (mr m) 0 1 (ko D st)=some 1:=by
  unfold ko
  rw[Is,I.ch]
  show mr m _ _ _=_
  refine if_pos ⟨?_,rfl⟩
  rw[d1]
  exact J9 (c:=1) I.left (by omega) ⟨d3,d4⟩ (by rw[hlen,Nat.mul_one]) I.s.el
 have nV:bf (ko D st)=D:=by
  unfold ko bf
  rw[List.map_append]
  show bf st.2.2++[D.getD (D.length - 1) 0]=_
  rw[I.Ay]
  have:=List.take_add_one (l:=D) (i:=D.length - 1)
  rw[show D.length - 1+1=D.length by omega,List.take_length,nb (by omega)] at this
  exact this.symm
 have hp:cV D<=4096:=by
  rw[uR fun x hx=>(h.nN x hx).1]
  have:=h.pn
  omega
 have YY:(ko D st).length=D.length:=by
  unfold ko
  rw[List.length_append,ye]
  show D.length - 1+1=_
  omega
 simp only[e8,h.pr,dr,nV,YY,Bool.true_and]
 rw[decide_eq_true ⟨l1,h.l8⟩,decide_eq_true hp]
 rfl
theorem Pf {m:Int} {D A:List Int} (h:ma m D A):r9 m D 0 (1,A,[]):=
 ⟨⟨by show(1:Nat)<=64;decide,by show A.length=1*aM D 0;rw[Nat.one_mul,zt];exact h.len,h.el,rfl,by show qO []<=0;decide⟩,by show(1:Nat)<=32;decide,rfl,rfl⟩
end Go.Am
end
section
namespace Go.Am
theorem WR {n:Nat} (h1:1<=n) (h:n<=1000):eG .i64 (n:Int) 1=((n - 1:Nat):Int):=by rw[lW (by omega) (by omega)];omega
theorem aej {D:List Int} {i:Nat}:gu D i (D.length - i)=D.drop i:=by
 unfold gu
 exact List.take_of_length_le (by rw[List.length_drop];exact Nat.le_refl _)
theorem aei {D:List Int} {i:Nat} (h:i<=D.length):ib (i:Int) (aI (J D)) (J D)=some (i,D.length - i):=by
 unfold ib aI J
 rw[if_pos ⟨by omega,by omega,by omega⟩]
 congr 2
 omega
theorem acJ {m:Int} {D A:List Int} (h:ma m D A) (i:Nat):VG (D.drop i,4096)=some ((aM D i:Nat):Int)/\zL (D.drop i)=some ((aM D i:Nat):Int)/\aM D i<=4096:=by
 have l8:=h.l8
 have hd:∀x∈D.drop i,1<=x/\x<=8:=fun x hx=>h.nN x (List.mem_of_mem_drop hx)
 have hG:iW D:=⟨by omega,fun x hx=>by have:=h.nN x hx;omega⟩
 have hp:br (D.drop i)<=4096:=by
  by_cases hi:i<=D.length
  ·exact Nat.le_trans (Vb hG hi) h.pn
  ·rw[List.drop_eq_nil_of_le (by omega)];decide
 refine⟨am7 (by rw[List.length_drop];omega) hd hp,?_,hp⟩
 have e:cV (D.drop i)=((aM D i:Nat):Int):=uR fun x hx=>(hd x hx).1
 rw[<-e]
 exact if_pos ⟨by rw[List.length_drop];omega,hd⟩
theorem aeh {m:Int} {D A:List Int} (h:ma m D A) {st:jL} (I:ld m D (D.length - 1) st):xf (m,ko D st)<=1048576/\st.2.1.length<=4096:=by
 have l1:=h.l1
 have l8:=h.l8
 obtain⟨d,d1,d2,d3,d4⟩:=HW h (i:=D.length - 1) (by omega)
 have hlen:=I.len
 rw[lY (by omega),show D.length - 1+1=D.length by omega,nA,Nat.mul_one,d2] at hlen
 have h1:st.1*d<=64*8:=Nat.mul_le_mul I.left d4
 have bD:=I.sz
 refine⟨?_,by omega⟩
 show qO (st.2.2++[_])<=_
 rw[acF]
 show qO st.2.2+1+st.2.1.length<=_
 omega
end Go.Am
end
section
namespace Go.Am
def Gg:ak:=[(.one,[.int .i64]),(.agg,[.list [.int .i64],.list [.int .i64],.list [.int .i64]])]
def RS:ak:=[(.agg,[.int .i64,.list [.int .i64,.int .i64,.int .i64,.list [.int .i64]]]),(.one,[.bool])]
def ajC:aN:=[]
def K6 (NN:Nat):(Int×((List Int)×((List Int)×(List Int))))->(Option ((Int×(List (Int×(Int×(Int×(List Int))))))×Bool)):=
 (fun((i0,l1,l2,l3):(Int×((List Int)×((List Int)×(List Int)))))=>
 (vi (((2:Int),i0,(0:Int)),l1,l2,l3)).aa (fun b4=>
 aC (ef b4)
 (some (((0:Int),([]:List (Int×(Int×(Int×(List Int)))))),false))
 (aC (cz (aI (J l1)) (0:Int))
 (some (((0:Int),([]:List (Int×(Int×(Int×(List Int)))))),false))
 (aC (bO (8:Int) (aI (J l1)))
 (some (((0:Int),([]:List (Int×(Int×(Int×(List Int)))))),false))
 ((zE (((2:Int),i0,(0:Int)),l1,l2,l3)).aa (fun(l5,l6,l7)=>
 (dP l5 (J l5)).aa (fun l8=>
 (dP l6 (J l6)).aa (fun l9=>
 (dP l7 (J l7)).aa (fun ff=>
 (ib (0:Int) (eG .i64 (aI (J l9)) (1:Int)) (J l9)).aa (fun(Jf,Bw)=>
 cd ((ai 0 0 (J (([]:List (Int×(Int×(Int×(List Int)))))))).aa (fun _=>
 (ai 0 0 (J (([]:List (Int×(Int×(Int×(List Int)))))))).aa (fun _=>
 bN NN (fun(((fN,eE,eU,iK,fP,g0,gQ),jA,(dQ,fm,jU),wq,f9,fg):((Int×(Int×((List Int)×(Int×((List Int)×(Int×Int))))))×(Int×(((List Int)×((List Int)×(List Int)))×(Int×((List (Int×(Int×(Int×(List Int)))))×(List (Int×(Int×(Int×(List Int)))))))))))=>
 aC (bO gQ g0)
 ((dK fP gQ).aa (fun kI=>
 (ib (bS .i64 gQ 1) (aI (J fm)) (J fm)).aa (fun(Eh,k29)=>
 (zL (gu fm Eh k29)).aa (fun rG=>
 (tq (fN,c7 .i64 eE kI,rG,eU)).aa (fun((nk,gk,jf),(lI,jc,iy),b37)=>
 aC (ef b37)
 (some (Sum.inr (Sum.inr (((0:Int),([]:List (Int×(Int×(Int×(List Int)))))),false))))
 (aC (bO (32:Int) gk)
 (some (Sum.inr (Sum.inr (((0:Int),([]:List (Int×(Int×(Int×(List Int)))))),false))))
 ((dP jf (J jf)).aa (fun kK=>
 (ai 0 (J fg) (J fg)).aa (fun _=>
 (ai 0 1 (J (((eE,kI,gk,kK)::([]:List (Int×(Int×(Int×(List Int))))))))).aa (fun _=>
 (jt (aW (J fg) (J (((eE,kI,gk,kK)::([]:List (Int×(Int×(Int×(List Int))))))))) 48).aa (fun _=>
 (dP iy (J iy)).aa (fun iz=>
 (ai 0 (J f9) (J f9)).aa (fun _=>
 (ai 0 (aW (J fg) (J (((eE,kI,gk,kK)::([]:List (Int×(Int×(Int×(List Int))))))))) (J (dt fg (((eE,kI,gk,kK)::([]:List (Int×(Int×(Int×(List Int)))))))))).aa (fun _=>
 some (Sum.inl ((fN,gk,iz,iK,fP,g0,bS .i64 gQ 1),jA,(dQ,fm,jU),wq,f9,dt fg (((eE,kI,gk,kK)::([]:List (Int×(Int×(Int×(List Int)))))))))))))))))))))))
 (((ai 0 (J f9) (J f9)).aa (fun _=>
 (ai 0 (J fg) (J fg)).aa (fun _=>
 some (Sum.inl ((eE,iK,eU),jA,(dQ,fm,jU),wq,f9,fg))))).aa (fun g9=>
 some (Sum.inr g9))))
 ((i0,(1:Int),ff,eG .i64 (aI (J l9)) (1:Int),gu l9 Jf Bw,aI (J (gu l9 Jf Bw)),(0:Int)),(0:Int),(l8,l9,ff),i0,([]:List (Int×(Int×(Int×(List Int))))),([]:List (Int×(Int×(Int×(List Int)))))))))
 (fun((rH,qj,jg),lJ,(pg,iA,kL),ql,mM,wB)=>
 (dK iA qj).aa (fun rI=>
 (nF jg).aa (fun s0=>
 (dP s0 (J s0)).aa (fun mN=>
 (ai 0 (J wB) (J wB)).aa (fun _=>
 (ai 0 1 (J (((rH,rI,(1:Int),mN)::([]:List (Int×(Int×(Int×(List Int))))))))).aa (fun _=>
 (jt (aW (J wB) (J (((rH,rI,(1:Int),mN)::([]:List (Int×(Int×(Int×(List Int))))))))) 48).aa (fun _=>
 (dP (dt wB (((rH,rI,(1:Int),mN)::([]:List (Int×(Int×(Int×(List Int)))))))) (aW (J wB) (J (((rH,rI,(1:Int),mN)::([]:List (Int×(Int×(Int×(List Int)))))))))).aa (fun rP=>
 some ((ql,rP),true)))))))))))))))))))
theorem afw (x:Int×T3) (y:(Int×List bh)×Bool) (h:xo x=some y):K6 ax x=some y:=by
 obtain⟨m,L0,D0,A0⟩:=x
 simp only[xo,KU] at h
 split at h
 ·rename_i hc
  rw[<-h]
  simp only[K6]
  rw[show vi ((2,m,0),L0,D0,A0)=some (jm (2,m,0) (L0,D0,A0)) from if_pos hc]
  simp only[bI]
  unfold Ma
  have aL:aI (J L0)=(L0.length:Int):=rfl
  cases ht:jm (2,m,0) (L0,D0,A0) with
  |false=>rw[aX (b:=ef false) rfl,if_neg (by simp)];rfl
  |true=>
   rw[aR (b:=ef true) rfl,aL]
   by_cases hl:1<=L0.length/\L0.length<=8
   ·rw[aR (by unfold cz;rw[beq_eq_false_iff_ne];omega),aR (cZ (by omega)),if_pos ⟨rfl,hl⟩]
    rw[show zE ((2,m,0),L0,D0,A0)=some (qN (2,m,0) (L0,D0,A0)) from if_pos hc]
    have HD:=aoS ht hl.1 hl.2
    generalize qN (2,m,0) (L0,D0,A0)=X at HD⊢
    obtain⟨S,D,A⟩:=X
    have HD:ma m D A:=HD
    simp only[bI,ku]
    have l1:=HD.l1
    have l8:=HD.l8
    have hm:=eF HD.pr
    have yt:=HD.pn
    have hAl:=HD.len
    have eR:eG .i64 (aI (J D)) 1=((D.length - 1:Nat):Int):=WR (n:=D.length) l1 (by omega)
    rw[eR]
    rw[show ib (0:Int) ((D.length - 1:Nat):Int) (J D)=some (0,D.length - 1) by
     unfold ib J
     rw[if_pos ⟨by omega,by omega,by omega⟩]
     congr 2]
    simp only[bI,cH]
    rw[show ai 0 0 (J ([]:List (Int×(Int×(Int×(List Int))))))=some () from rfl]
    simp only[bI]
    have wh:gu D 0 (D.length - 1)=D.take (D.length - 1):=by unfold gu;rw[List.drop_zero]
    have htl:(D.take (D.length - 1)).length=D.length - 1:=by rw[List.length_take];omega
    rw[wh,show aI (J (D.take (D.length - 1)))=((D.length - 1:Nat):Int) by show(((D.take (D.length - 1)).length:Nat):Int)=_;rw[htl]]
    have wc:(List.range (D.length - 1)).length=D.length - 1:=List.length_range
    rw[aaa (List.range (D.length - 1)) (fun(st:jL) i=>((m,(st.1:Int),st.2.1,((D.length - 1:Nat):Int),D.take (D.length - 1),((D.length - 1:Nat):Int),(i:Int)),(0:Int),(S,D,A),m,([]:List bh),st.2.2)) (ld m D) (ra m D) (Sum.inr L3) (fun st=>Sum.inl (((st.1:Int),((D.length - 1:Nat):Int),st.2.1),(0:Int),(S,D,A),m,([]:List bh),st.2.2)) ?a1 ?a2 ?a3 (s:=(1,A,[])) (Pf HD).s ?a4 (dC (by rw[wc];omega))]
    case a4=>rfl
    case a2=>
     intro i st a Km ha I ed
     have hi:i<D.length - 1:=by rw[<-wc];exact wG ha
     unfold ra at ed
     split at ed
     ·rename_i hf
      split at ed
      ·injection ed with ed
       subst ed
       exact ld.next HD hi I hf
      ·cases ed
     ·cases ed
    case a3=>
     intro st I
     rw[wc]
     dsimp only
     rw[aR (cZ (by omega))]
     try simp only[cH,bI]
    case a1=>
     intro i st a ha I
     have hi:i<D.length - 1:=by rw[<-wc];exact wG ha
     obtain⟨d,d1,d2,d3,d4⟩:=HW HD (i:=i) (by omega)
     obtain⟨t1,t2,t3⟩:=acJ HD (i+1)
     have dM:=ld.rc HD hi I
     have Ov:=I.left
     have hrd:st.1*d<=64*8:=Nat.mul_le_mul Ov d4
     dsimp only
     rw[aX (dc (by omega)),dY,List.getElem?_take_of_lt hi,nb (l:=D) (i:=i) (by omega)]
     simp only[bI]
     rw[fv (by omega) (by omega),show(i:Int)+1=((i+1:Nat):Int) by omega,aei (by omega)]
     simp only[bI]
     rw[aej,t2]
     simp only[bI]
     have Oz:c7 .i64 (st.1:Int) (D.getD i 0)=((st.1*d:Nat):Int):=by rw[d1,BL (by omega) (by omega)]
     rw[Oz]
     rw[d2] at dM
     unfold ra
     by_cases hf:Ak D i st=true
     ·have gN:=of_decide_eq_true hf
      rw[d2] at gN
      rw[if_pos hf,agB HD.pr gN.2 (by omega) dM I.el,if_pos gN.1]
      simp only[bI]
      rw[aR (b:=ef true) rfl]
      have YC:cK m D i st=gU m (st.1*d) (aM D (i+1)) st.2.1:=by unfold cK;rw[d2]
      by_cases hk:cK m D i st<=32
      ·rw[if_pos hk,aR (cZ (by rw[<-YC];omega))]
       try simp only[bI,cH,ku]
       rw[show∀s:bh,ai 0 1 (J [s])=some () from fun _=>rfl]
       simp only[bI]
       rw[oK (by show(aW st.2.2.length 1)*48<=dF;rw[I.gL];simp only[aW,dF];omega)]
       try simp only[bI,cH,ku]
       rw[Iu]
       simp only[sj,cK]
       rw[d2]
       rfl
      ·rw[if_neg hk,aX (dc (by rw[<-YC];omega))]
       rfl
     ·have gN:¬(st.1*(D.getD i 0).toNat<=64/\aM D (i+1)<=64):=fun e=>hf (decide_eq_true e)
      rw[d2] at gN
      rw[if_neg hf]
      have ca:kN m (((st.1*d:Nat):Int),((aM D (i+1):Nat):Int),st.2.1)=false:=by
       cases hmk:kN m (((st.1*d:Nat):Int),((aM D (i+1):Nat):Int),st.2.1) with
       |false=>rfl
       |true=>
        simp only[kN,Bool.and_eq_true,decide_eq_true_eq] at hmk
        exact absurd ⟨by omega,by omega⟩ gN
      have hlen:st.2.1.length<=64*4096:=by
       rw[I.len]
       exact Nat.mul_le_mul Ov (acJ HD i).2.2
      rw[show tq (m,((st.1*d:Nat):Int),((aM D (i+1):Nat):Int),st.2.1)=some ((0,0,[]),(0,0,[]),false) by
       rw[show tq (m,((st.1*d:Nat):Int),((aM D (i+1):Nat):Int),st.2.1)=_ from if_pos (by show U6 st.2.1<=_;show st.2.1.length<=_;omega)]
       dsimp only
       rw[ca,if_neg (by simp)]]
      simp only[bI]
      rw[aX (b:=ef false) rfl]
      rfl
    have hS:∀st,eI (ra m D) 0 (1,A,[]) (List.range (D.length - 1))=some st->ld m D (D.length - 1) st:=fun st ed=>by
     have:=X8 (ra m D) (ld m D) (List.range (D.length - 1)) (List.range (D.length - 1)) 0 (1,A,[]) st (Pf HD).s (fun k s a s' ha _ hI ed=>by
      have hi:k<D.length - 1:=by have:=wG ha;rw[wc] at this;omega
      unfold ra at ed
      split at ed
      ·rename_i hf
       split at ed
       ·injection ed with ed
        subst ed
        exact ld.next HD hi hI hf
       ·cases ed
      ·cases ed) ed
     rw[wc,Nat.zero_add] at this
     exact this
    show _=some (EP m D A)
    unfold EP
    cases hfo:eI (ra m D) 0 (1,A,[]) (List.range (D.length - 1)) with
    |none=>rfl
    |some st=>
     have hI:=hS st hfo
     have bL:=aeh HD hI
     simp only[cd,Option.bind]
     rw[dY,nb (l:=D) (i:=D.length - 1) (by omega)]
     simp only[bI]
     rw[show nF st.2.1=some st.2.1 from if_pos (by omega)]
     simp only[bI,ku,cH]
     rw[show∀s:bh,ai 0 1 (J [s])=some () from fun _=>rfl]
     simp only[bI]
     rw[oK (by show(aW st.2.2.length 1)*48<=dF;rw[hI.gL];simp only[aW,dF];omega)]
     simp only[bI]
     rw[acK (by simp[aW,J,dt])]
     rfl
   ·rw[if_neg (fun e=>hl e.2)]
    by_cases h0:L0.length=0
    ·rw[aX (by unfold cz;exact beq_iff_eq.2 (by omega))]
     rfl
    ·rw[aR (by unfold cz;rw[beq_eq_false_iff_ne];omega),aX (dc (by omega))]
     rfl
 ·cases h
end Go.Am
end
section
namespace Go.Am
def Hj:ak:=[(.ptr,[.list [.int .u8],.int .i64,.int .i64]),(.one,[.int .i64]),(.one,[.int .i64]),(.one,[.int .i64])]
def SS:ak:=[(.agg,[.int .i64,.int .i64,.list [.int .i64]]),(.ptr,[.list [.int .u8],.int .i64,.int .i64])]
def akq:aN:=[[some .aD]]
def F0 (NN:Nat):(((List Int)×(Int×Int))×(Int×(Int×Int)))->(Option ((Int×(Int×(List Int)))×((List Int)×(Int×Int)))):=
 (fun(((l0,i1,i2),i3,i4,i5):(((List Int)×(Int×Int))×(Int×(Int×Int))))=>
 (xx (i4,i5)).aa (fun(i6,i7,l8)=>
 cd ((ai 0 0 (J (([]:List Int)))).aa (fun _=>
 (ai 0 (J l8) (J l8)).aa (fun _=>
 bN NN (fun(((i9,db,eS,eZ,fN),(gm,jz,iK),(kH,g0),(gQ,jA),dQ,fm):((Int×(Int×(Int×(Int×Int))))×(((List Int)×(Int×Int))×((Int×Int)×((Int×Int)×((List Int)×(List Int)))))))=>
 aC (bO fN eZ)
 ((vp ((gm,jz,iK),(3:Int))).aa (fun(LP,iv,oV,uB)=>
 aC (ef LP)
 ((qV ((iv,oV,uB),n7 i9 (256:Int))).aa (fun(kI,ki,yB,rG)=>
 (fj fN (J fm)).aa (fun Pp=>
 (dv fm (aW 0 Pp)).aa (fun gk=>
 (ai 0 (J dQ) (J dQ)).aa (fun _=>
 (ai 0 (J fm) (J (bW fm (aW 0 Pp) kI))).aa (fun _=>
 some (Sum.inl ((i9,db,eS,eZ,bS .i64 fN 1),(ki,yB,rG),(kH,g0),(gQ,jA),dQ,bW fm (aW 0 Pp) kI))))))))
 ((ai 0 (J dQ) (J dQ)).aa (fun _=>
 (ai 0 (J fm) (J fm)).aa (fun _=>
 some (Sum.inl ((i9,db,eS,eZ,bS .i64 fN 1),(iv,oV,uB),(kH,g0),(gQ,jA),dQ,fm)))))))
 (((ai 0 (J dQ) (J dQ)).aa (fun _=>
 (ai 0 (J fm) (J fm)).aa (fun _=>
 some (Sum.inl ((db,eS),(gm,jz,iK),(kH,g0),(gQ,jA),dQ,fm))))).aa (fun jf=>
 some (Sum.inr jf))))
 ((i3,i4,i5,aI (J l8),(0:Int)),(l0,i1,i2),((0:Int),(0:Int)),(i6,i7),([]:List Int),l8))))
 (fun((lI,jc),(iy,jd,mJ),(nZ,oY),(rH,qj),jg,km)=>
 aC (bO (1:Int) lI)
 ((vp ((iy,jd,mJ),(3:Int))).aa (fun(b45,iA,oZ,ql)=>
 cd (aC (b45)
 ((ai 0 (J jg) (J jg)).aa (fun _=>
 (ai 0 (J km) (J km)).aa (fun _=>
 bN NN (fun(((sQ,o7),(rO,rJ,rK),(o8,Bn),(D6,yC),lQ,jD):((Int×Int)×(((List Int)×(Int×Int))×((Int×Int)×((Int×Int)×((List Int)×(List Int)))))))=>
 aC (bO o7 sQ)
 ((fj o7 (J jD)).aa (fun k60=>
 (dv jD (aW 0 k60)).aa (fun yD=>
 (fj (bS .i64 sQ o7) (J jD)).aa (fun Pt=>
 (dv jD (aW 0 Pt)).aa (fun rM=>
 (ai 0 (J lQ) (J lQ)).aa (fun _=>
 (ai 0 (J jD) (J (bW jD (aW 0 Pt) yD))).aa (fun _=>
 some (Sum.inl ((sQ,bS .i64 o7 1),(rO,rJ,rK),(o8,Bn),(D6,yC),lQ,bW jD (aW 0 Pt) yD)))))))))
 (((ai 0 (J lQ) (J lQ)).aa (fun _=>
 (ai 0 (J jD) (J jD)).aa (fun _=>
 some (Sum.inl ((rO,rJ,rK),(o8,Bn),(D6,yC),lQ,jD))))).aa (fun qt=>
 some (Sum.inr qt))))
 ((jc,(0:Int)),(iA,oZ,ql),(nZ,oY),(rH,qj),jg,km))))
 ((ai 0 (J jg) (J jg)).aa (fun _=>
 (ai 0 (J km) (J km)).aa (fun _=>
 some (Sum.inl ((iA,oZ,ql),(nZ,oY),(rH,qj),jg,km))))))
 (fun((s6,yE,uF),(D8,Bp),(OY,D9),mP,wE)=>
 (c6 wE 0 (J wE)).aa (fun l74=>
 some ((OY,D9,l74),s6,yE,uF)))))
 (cd ((ai 0 (J jg) (J jg)).aa (fun _=>
 (ai 0 (J km) (J km)).aa (fun _=>
 some (Sum.inl ((iy,jd,mJ),(nZ,oY),(rH,qj),jg,km)))))
 (fun((Ej,pb,sR),(sS,sT),(sU,I4),iL,lS)=>
 (c6 lS 0 (J lS)).aa (fun Ek=>
 some ((sU,I4,Ek),Ej,pb,sR)))))))
def z5:(((List Int)×(Int×Int))×(Int×(Int×Int)))->(Option ((Int×(Int×(List Int)))×((List Int)×(Int×Int)))):=F0 ax
theorem ags (x:(((List Int)×(Int×Int))×(Int×(Int×Int)))) (z:((Int×(Int×(List Int)))×((List Int)×(Int×Int)))) (h:z5 x=some z):F0 ax x=some z:=h
theorem aan {p:Int} (h:2<=p):1<=n7 p 256/\n7 p 256<=p:=by rw[aal];omega
theorem PG {α:Type} (l:List α):J l=l.length:=rfl
theorem aeG (c:Cu) (p:Int) (r k:Nat) (h:iS c) (hp:dO p) (hr:r<=100) (hk:k<=100):
  ∃d c',z5 (c,p,(r:Int),(k:Int))=some (((r:Int),(k:Int),d),c')/\d.length=r*k/\eX p d/\iS c':=by
 obtain⟨cl,ci,ch⟩:=c
 have hrk:r*k<=10000:=by
  have:=Nat.mul_le_mul hr hk
  omega
 simp only[z5,F0]
 rw[aaz (by omega) (by omega) (by omega)]
 simp only[av,agL,cH]
 generalize hL:bN ax _ _=o
 obtain⟨s,rfl,c',d,rfl,cv,hl,hd⟩:∃s,o=some s/\∃(c':Cu) (d:List Int),s=Sum.inl (((r:Int),(k:Int)),c',(0,0),((r:Int),(k:Int)),[],d)/\iS c'/\d.length=r*k/\eX p d:=by
  rw[<-hL]
  refine BF (r*k) (fun j (s:((Int×(Int×(Int×(Int×Int))))×(((List Int)×(Int×Int))×((Int×Int)×((Int×Int)×((List Int)×(List Int)))))))=>∃(c':Cu) (d:List Int),s=((p,(r:Int),(k:Int),((r*k:Nat):Int),(j:Int)),c',(0,0),((r:Int),(k:Int)),[],d)/\iS c'/\d.length=r*k/\eX p d) _ ?_ ?_ ?_ (dC (by omega))
  ·rintro j s hj ⟨⟨l1,i1,h1⟩,d,rfl,hc,hl,hd⟩
   dsimp only
   rw[aX (dc (by omega))]
   obtain⟨b,⟨l2,i2,h2⟩,e2,hc⟩:=Rc _ 3 hc (by decide)
   rw[e2]
   simp only[av]
   cases b
   ·rw[aX (show ef false=true from rfl)]
    obtain⟨x,⟨l3,i3,h3⟩,e3,hx,_,hc⟩:=Af _ (n7 p 256) hc (aan hp.1).1
    have hm:=(aan hp.1).2
    rw[e3]
    simp only[av]
    have ir:j<d.length:=by omega
    rw[q9 (show j<J d by rw[PG];exact ir)]
    simp only[av,gR]
    rw[show dv d j=some d[j] from List.getElem?_eq_getElem ir]
    simp only[av]
    rw[show ai 0 (J d) (J (bW d j x))=some () from x6 (by simp[J,bW])]
    simp only[av]
    rw[fv (by omega) (by omega)]
    refine⟨_,rfl,_,_,rfl,hc,by unfold bW;rw[List.length_set];exact hl,?_⟩
    intro e he
    unfold bW at he
    rcases List.mem_or_eq_of_mem_set he with h|h
    ·exact hd e h
    ·subst h;exact⟨hx.1,by omega⟩
   ·rw[aR (show ef true=false from rfl)]
    rw[fv (by omega) (by omega)]
    exact⟨_,rfl,_,_,rfl,hc,hl,hd⟩
  ·rintro s ⟨⟨l1,i1,h1⟩,d,rfl,hc,hl,hd⟩
   dsimp only
   rw[aR (cZ (by omega))]
   exact⟨_,rfl,_,_,rfl,hc,hl,hd⟩
  ·refine⟨_,_,?_,h,j9 r k _,nK.2 (fun i j _ _=>⟨Int.le_refl _,by have:=hp.1;omega⟩)⟩
   rw[show aI (J (aG r k fun _ _=>0))=((r*k:Nat):Int) by unfold aI J;rw[j9]]
   rfl
 obtain⟨l1,i1,h1⟩:=c'
 simp only[cd,Option.bind,Option.aa]
 by_cases hc:1<r
 ·rw[aX (dc (by omega))]
  obtain⟨b,⟨l2,i2,h2⟩,e2,vT⟩:=Rc _ 3 cv (by decide)
  rw[e2]
  dsimp only
  cases b
  ·simp only[C3,cH,iQ]
   exact⟨_,_,rfl,hl,hd,vT⟩
  ·simp only[HN,cH,iQ]
   generalize hL:bN ax _ _=o
   obtain⟨s,rfl,d',rfl,dw,hd'⟩:∃s,o=some s/\∃(d':List Int),s=Sum.inl ((l2,i2,h2),(0,0),((r:Int),(k:Int)),[],d')/\d'.length=r*k/\eX p d':=by
    rw[<-hL]
    refine BF k (fun j (s:((Int×Int)×(((List Int)×(Int×Int))×((Int×Int)×((Int×Int)×((List Int)×(List Int)))))))=>∃(d:List Int),s=(((k:Int),(j:Int)),(l2,i2,h2),(0,0),((r:Int),(k:Int)),[],d)/\d.length=r*k/\eX p d) _ ?_ ?_ ⟨_,rfl,hl,hd⟩ (dC (by omega))
    ·rintro j s hj ⟨d,rfl,hl,hd⟩
     dsimp only
     have apT:2*k<=r*k:=Nat.mul_le_mul_right k hc
     rw[aX (dc (by omega))]
     have On:j<d.length:=by omega
     have YP:k+j<d.length:=by omega
     rw[fv (by omega) (by omega),show((k:Int)+(j:Int))=((k+j:Nat):Int) by push_cast;rfl]
     rw[q9 (show j<J d by rw[PG];exact On),q9 (show k+j<J d by rw[PG];exact YP)]
     simp only[gR]
     rw[show dv d j=some d[j] from List.getElem?_eq_getElem On,show dv d (k+j)=some d[k+j] from List.getElem?_eq_getElem YP]
     dsimp only
     rw[show ai 0 (J d) (J (bW d (k+j) d[j]))=some () from x6 (by simp[J,bW])]
     dsimp only
     rw[fv (by omega) (by omega)]
     refine⟨_,rfl,_,rfl,by unfold bW;rw[List.length_set];exact hl,?_⟩
     intro e he
     unfold bW at he
     rcases List.mem_or_eq_of_mem_set he with h|h
     ·exact hd e h
     ·subst h;exact hd _ (List.getElem_mem On)
    ·rintro s ⟨d,rfl,hl,hd⟩
     dsimp only
     rw[aR (cZ (by omega))]
     exact⟨_,rfl,_,rfl,hl,hd⟩
   simp only[iQ]
   exact⟨_,_,rfl,dw,hd',vT⟩
 ·rw[aR (cZ (by omega))]
  simp only[cH,iQ]
  exact⟨_,_,rfl,hl,hd,cv⟩
theorem am0:ct 2=true:=by decide+kernel
theorem am1:ct 3=true:=by decide+kernel
theorem am2:ct 7=true:=by decide+kernel
theorem amZ:ct 101=true:=by decide+kernel
theorem amY:ct 1000003=true:=by decide+kernel
end Go.Am
end
section
namespace Go.Am
structure CN (p:Int) (r:Nat) (M N:aU) (t k j:Nat) (inv:Int):Prop where
 tk:t<=k
 kr:k<r
 ne:M k j≠0
 one:M k j*inv%p=1
 nt:∀b,N t b=M k b*inv%p
 na:∀a,a<r->a≠t->∀b,N a b=(cR M t k a b+(p - cR M t k a j)*N t b)%p
 first:∀i,t<=i->i<k->M i j=0
theorem Rq {p:Int} {r c:Nat} {s:aU×List Int×Int} {j:Nat} (bx:ct p=true) (I:RI p r c s j) (hj:j<c):
  (jX p r s j=s/\∀i,s.2.1.length<=i->i<r->s.1 i j=0)\/
   ∃k N inv,jX p r s j=(N,s.2.1++[(j:Int)],JN p s.1 s.2.1.length j k s.2.2)/\CN p r s.1 N s.2.1.length k j inv/\s.2.1.length<r:=by
 have hp:dO p:=eF bx
 by_cases hl:s.2.1.length<r
 ·cases hk:pA s.1 j (r - s.2.1.length) s.2.1.length with
  |none=>exact .inl ⟨Rr hl hk,fun i h1 h2=>JJ hk i h1 (by omega)⟩
  |some k=>
   have hq:=EF hk
   have ym:k<r:=by omega
   have hx:fk p (s.1 k j):=I.m k ym j hj
   have hi:=ZE bx hx hq.2.2
   have Bg:cR s.1 s.2.1.length k s.2.1.length j=s.1 k j:=if_pos rfl
   refine .inr ⟨k,_,kg p 1 (s.1 k j) (p - 2).toNat,Rs hl hk,⟨hq.1,ym,hq.2.2,hi,fun b=>?_,fun a ha bQ b=>?_,Ri hk⟩,hl⟩
   ·unfold e9
    rw[if_neg (by omega)]
    unfold od rW
    rw[if_pos rfl,Bg]
    congr 2
    exact if_pos rfl
   ·have e1:∀y,od p s.1 s.2.1.length j k a y=cR s.1 s.2.1.length k a y:=fun y=>by unfold od rW;rw[if_neg bQ]
    show e9 p _ _ _ _ a b=_
    rw[show e9 p (od p s.1 s.2.1.length j k) s.2.1.length j r s.2.1.length b=od p s.1 s.2.1.length j k s.2.1.length b from if_neg (by omega)]
    unfold e9
    rw[if_pos ⟨ha,bQ⟩,e1,e1]
 ·refine .inl ⟨by unfold jX;rw[if_neg hl],fun i h1 h2=>by omega⟩
def pv (L:List Int) (i:Nat):Nat:=(L.getD i 0).toNat
theorem Ro {L:List Int} {x:Int} {i:Nat} (h:i<L.length):pv (L++[x]) i=pv L i:=by
 unfold pv
 rw[List.getD_eq_getElem?_getD,List.getD_eq_getElem?_getD,List.getElem?_append_left h]
theorem y5 {L:List Int} {j:Nat}:pv (L++[(j:Int)]) L.length=j:=by
 unfold pv
 rw[List.getD_eq_getElem?_getD,List.getElem?_append_right (Nat.le_refl _),Nat.sub_self]
 rfl
structure RF (r:Nat) (s:aU×List Int×Int) (j:Nat):Prop where
 lt:∀i,i<s.2.1.length->pv s.2.1 i<j
 mono:∀i i',i<i'->i'<s.2.1.length->pv s.2.1 i<pv s.2.1 i'
 one:∀i,i<s.2.1.length->s.1 i (pv s.2.1 i)=1
 bH:∀i,i<s.2.1.length->∀a,a<r->a≠i->s.1 a (pv s.2.1 i)=0
 low:∀i,i<s.2.1.length->∀b,b<pv s.2.1 i->s.1 i b=0
 zero:∀i,s.2.1.length<=i->i<r->∀b,b<j->s.1 i b=0
theorem RF.step {p:Int} {r c:Nat} {s:aU×List Int×Int} {j:Nat} (bx:ct p=true) (I:RI p r c s j) (hj:j<c) (h:RF r s j):RF r (jX p r s j) (j+1):=by
 have hp:dO p:=eF bx
 rcases Rq bx I hj with⟨e,hz⟩|⟨k,N,inv,e,P,hl⟩
 ·rw[e]
  refine⟨fun i hi=>by have:=h.lt i hi;omega,h.mono,h.one,h.bH,h.low,fun i h1 h2 b hb=>?_⟩
  by_cases x9:b=j
  ·rw[x9];exact hz i h1 h2
  ·exact h.zero i h1 h2 b (by omega)
 ·rw[e]
  obtain⟨M,L,d⟩:=s
  obtain⟨tk,kr,ne,one,nt,na,first⟩:=P
  dsimp only at tk kr ne one nt na first hl e⊢
  have bG:∀i,i<L.length->pv L i<j:=h.lt
  have Bb:∀i,i<L.length->pv (L++[(j:Int)]) i=pv L i:=fun i hi=>Ro hi
  have uk:=hp.1
  have Q7:∀b,b<j->N L.length b=0:=fun b hb=>by
   rw[nt,show M k b=0 from h.zero k tk kr b hb,Int.zero_mul,Int.zero_emod]
  have Q8:N L.length j=1:=by rw[nt];exact one
  have fq:∀a,a<r->a≠L.length->∀b,b<j->N a b=cR M L.length k a b:=fun a ha bQ b hb=>by
   rw[na a ha bQ,Q7 b hb,Int.mul_zero,Int.add_zero]
   have hs:fk p (cR M L.length k a b):=Kq I.m hl kr a ha b (by omega)
   exact Int.emod_eq_of_lt hs.1 hs.2
  have Vn:∀i,i<L.length->∀b,cR M L.length k i b=M i b:=fun i hi b=>by
   unfold cR;rw[if_neg (by omega),if_neg (by omega)]
  have aad:∀a,L.length<=a->a<r->∀b,b<j->cR M L.length k a b=0:=fun a h1 h2 b hb=>by
   unfold cR
   split
   ·exact h.zero k tk kr b hb
   ·split
    ·exact h.zero _ (Nat.le_refl _) hl b hb
    ·exact h.zero a h1 h2 b hb
  refine⟨?_,?_,?_,?_,?_,?_⟩<;>dsimp only
  ·intro i hi
   simp only[List.length_append,List.length_cons,List.length_nil] at hi
   by_cases eY:i<L.length
   ·rw[Bb i eY];have:=bG i eY;omega
   ·rw[show i=L.length by omega,y5];omega
  ·intro i i' h1 h2
   simp only[List.length_append,List.length_cons,List.length_nil] at h2
   rw[Bb i (by omega)]
   by_cases eY:i'<L.length
   ·rw[Bb i' eY];exact h.mono i i' h1 eY
   ·rw[show i'=L.length by omega,y5];exact bG i (by omega)
  ·intro i hi
   simp only[List.length_append,List.length_cons,List.length_nil] at hi
   by_cases eY:i<L.length
   ·rw[Bb i eY,fq i (by omega) (by omega) _ (bG i eY),Vn i eY];exact h.one i eY
   ·rw[show i=L.length by omega,y5];exact Q8
  ·intro i hi a ha hai
   simp only[List.length_append,List.length_cons,List.length_nil] at hi
   by_cases eY:i<L.length
   ·rw[Bb i eY]
    by_cases bQ:a=L.length
    ·rw[bQ];exact Q7 _ (bG i eY)
    ·rw[fq a ha bQ _ (bG i eY)]
     by_cases hal:a<L.length
     ·rw[Vn a hal];exact h.bH i eY a ha hai
     ·exact aad a (by omega) ha _ (bG i eY)
   ·have IM:i=L.length:=by omega
    rw[IM,y5]
    rw[na a ha (by omega),Q8,Int.mul_one]
    rw[show cR M L.length k a j+(p - cR M L.length k a j)=p by omega]
    exact Int.emod_self
  ·intro i hi b hb
   simp only[List.length_append,List.length_cons,List.length_nil] at hi
   by_cases eY:i<L.length
   ·rw[Bb i eY] at hb
    have hlj:=bG i eY
    rw[fq i (by omega) (by omega) _ (by omega),Vn i eY]
    exact h.low i eY b hb
   ·have IM:i=L.length:=by omega
    rw[IM,y5] at hb
    rw[IM]
    exact Q7 b hb
  ·intro i h1 h2 b hb
   simp only[List.length_append,List.length_cons,List.length_nil] at h1
   by_cases x9:b=j
   ·rw[x9,na i h2 (by omega),Q8,Int.mul_one]
    rw[show cR M L.length k i j+(p - cR M L.length k i j)=p by omega]
    exact Int.emod_self
   ·rw[fq i h2 (by omega) b (by omega)]
    exact aad i (by omega) h2 b (by omega)
theorem y9 {p:Int} {r c:Nat} {M:aU} (bx:ct p=true) (hM:de p r c M):∀j,j<=c->RF r (bK p r M j) j
 |0,_=>⟨fun i hi=>absurd hi (Nat.not_lt_zero i),fun i i' _ hi=>absurd hi (Nat.not_lt_zero i'),fun i hi=>absurd hi (Nat.not_lt_zero i),fun i hi=>absurd hi (Nat.not_lt_zero i),fun i hi=>absurd hi (Nat.not_lt_zero i),fun i _ _ b hb=>absurd hb (Nat.not_lt_zero b)⟩
 |j+1,hj=>RF.step bx (oq (eF bx) hM j) (by omega) (y9 bx hM j (by omega))
def Sp (p:Int) (r c:Nat) (M:aU) (x:Nat->Int):Prop:=∃y:Nat->Int,∀b,b<c->x b%p=sm r (fun i=>y i*M i b)%p
theorem mf {p:Int} {r c:Nat} {M:aU} {i:Nat} (hi:i<r):Sp p r c M (M i):=
 ⟨fun k=>if k=i then 1 else 0,fun b _=>by
  have e:sm r (fun k=>(if k=i then 1 else 0)*M k b)=M i b:=by
   rw[u6 (a:=i) r hi (fun k _ aB=>by simp[aB])]
   simp
  exact congrArg (·%p) e.symm⟩
theorem vr {p:Int} {r c:Nat} {M:aU} {x x':Nat->Int} (h:Sp p r c M x) (e:∀b,b<c->x' b%p=x b%p):Sp p r c M x':=by
 obtain⟨y,hy⟩:=h
 exact⟨y,fun b hb=>(e b hb).trans (hy b hb)⟩
theorem LF {p:Int} {r c:Nat} {M:aU} {x x':Nat->Int} (f:Int) (h:Sp p r c M x) (h':Sp p r c M x'):Sp p r c M (fun b=>x b+f*x' b):=by
 obtain⟨y,hy⟩:=h
 obtain⟨y',hy'⟩:=h'
 refine⟨fun i=>y i+f*y' i,fun b hb=>?_⟩
 have e:sm r (fun i=>(y i+f*y' i)*M i b)=sm r (fun i=>y i*M i b)+f*sm r (fun i=>y' i*M i b):=by
  rw[<-zk,<-Kc]
  exact lV fun i _=>by rw[Int.add_mul,Int.mul_assoc]
 rw[e,Int.add_emod,Int.mul_emod,hy b hb,hy' b hb,<-Int.mul_emod,<-Int.add_emod]
theorem adp {p:Int} {r c:Nat} {M:aU}:Sp p r c M (fun _=>0):=⟨fun _=>0,fun b _=>by rw[Ce r fun i _=>Int.zero_mul _]⟩
theorem VV {p:Int} {r c:Nat} {M:aU} {x:Nat->Int} (f:Int) (h:Sp p r c M x):Sp p r c M (fun b=>x b*f):=
 vr (LF f adp h) fun b _=>by rw[Int.zero_add,Int.mul_comm]
theorem pN {p:Int} {r r' c:Nat} {M N:aU} (h:∀i,i<r'->Sp p r c M (N i)) {x:Nat->Int} (hx:Sp p r' c N x):Sp p r c M x:=by
 obtain⟨y,hy⟩:=hx
 have h':∀i,∃y:Nat->Int,i<r'->∀b,b<c->N i b%p=sm r (fun k=>y k*M k b)%p:=by
  intro i
  by_cases hi:i<r'
  ·obtain⟨y,hy⟩:=h i hi
   exact⟨y,fun _=>hy⟩
  ·exact⟨fun _=>0,fun hi'=>absurd hi' hi⟩
 obtain⟨Y,hY⟩:=Classical.axiomOfChoice h'
 refine⟨fun k=>sm r' (fun i=>y i*Y i k),fun b hb=>?_⟩
 rw[hy b hb]
 have e:sm r (fun k=>sm r' (fun i=>y i*Y i k)*M k b)=sm r' (fun i=>y i*sm r (fun k=>Y i k*M k b)):=by
  rw[lV (g:=fun k=>sm r' (fun i=>y i*Y i k*M k b)) fun k _=>(ab2 (M k b) _ r').symm]
  rw[Ux]
  exact lV fun i _=>by rw[<-zk];exact lV fun k _=>Int.mul_assoc _ _ _
 rw[e]
 exact Cd fun i hi=>by rw[Int.mul_emod,hY i hi b hb,<-Int.mul_emod]
theorem CN.span {p:Int} {r c:Nat} {M N:aU} {t k j:Nat} {inv:Int} (h:CN p r M N t k j inv) (ht:t<r) (hj:j<c) (x:Nat->Int):Sp p r c N x↔Sp p r c M x:=by
 obtain⟨tk,kr,ne,one,nt,na,_⟩:=h
 have sw:∀a,a<r->Sp p r c M (cR M t k a):=by
  intro a ha
  unfold cR
  by_cases h1:a=t
  ·simp only[h1,if_true];exact mf kr
  ·by_cases h2:a=k
   ·simp only[h2]
    by_cases h3:k=t
    ·simp only[h3,if_true];exact mf ht
    ·simp only[if_neg h3,if_true];exact mf ht
   ·simp only[if_neg h1,if_neg h2];exact mf ha
 have Ys:Sp p r c M (N t):=vr (VV inv (mf kr)) fun b _=>by rw[nt,Int.emod_emod_of_dvd _ (Int.dvd_refl p)]
 constructor
 ·refine pN fun a ha=>?_
  by_cases bQ:a=t
  ·rw[bQ];exact Ys
  ·exact vr (LF (p - cR M t k a j) (sw a ha) Ys) fun b _=>by rw[na a ha bQ,Int.emod_emod_of_dvd _ (Int.dvd_refl p)]
 ·
  have hk:Sp p r c N (M k):=vr (VV (M k j) (mf ht)) fun b _=>by
   rw[nt,Int.mul_emod,Int.emod_emod_of_dvd _ (Int.dvd_refl p),<-Int.mul_emod]
   rw[show M k b*inv*M k j=M k b*(M k j*inv) by rw[Int.mul_assoc,Int.mul_comm inv]]
   rw[Int.mul_emod,one,Int.mul_one,Int.emod_emod_of_dvd _ (Int.dvd_refl p)]
  have hs:∀a,a<r->Sp p r c N (cR M t k a):=by
   intro a ha
   by_cases bQ:a=t
   ·have e:cR M t k a=M k:=by unfold cR;funext b;rw[if_pos bQ]
    rw[e];exact hk
   ·refine vr (LF (cR M t k a j) (mf ha) (mf ht)) fun b _=>?_
    rw[na a ha bQ,Int.emod_add_emod]
    rw[show cR M t k a b+(p - cR M t k a j)*N t b+cR M t k a j*N t b=cR M t k a b+p*N t b by grind]
    rw[Int.add_mul_emod_self_left]
  refine pN fun a ha=>?_
  by_cases bQ:a=t
  ·have e:M a=cR M t k k:=by
    unfold cR;funext b
    by_cases Ou:k=t
    ·rw[if_pos Ou,bQ,Ou]
    ·rw[if_neg Ou,if_pos rfl,bQ]
   rw[e];exact hs k kr
  ·by_cases Yv:a=k
   ·rw[Yv];exact hk
   ·have e:M a=cR M t k a:=by unfold cR;funext b;rw[if_neg bQ,if_neg Yv]
    rw[e];exact hs a ha
theorem JO {p:Int} {r c:Nat} {M:aU} (bx:ct p=true) (hM:de p r c M) (x:Nat->Int):∀j,j<=c->(Sp p r c (bK p r M j).1 x↔Sp p r c M x)
 |0,_=>Iff.rfl
 |j+1,hj=>by
  rw[<-JO bx hM x j (by omega)]
  show Sp p r c (jX p r (bK p r M j) j).1 x↔_
  rcases Rq bx (oq (eF bx) hM j) (show j<c by omega) with⟨e,_⟩|⟨k,N,inv,e,P,hl⟩
  ·rw[e]
  ·rw[e];exact P.span hl (by omega) x
def adj (p:Int) (x:Nat->Int) (j:Nat):Prop:=(∀b,b<j->x b%p=0)/\x j%p≠0
theorem Rj {p:Int} {r c:Nat} {M:aU} (bx:ct p=true) (hM:de p r c M) {j:Nat} (hj:j<c):
  (∃x,Sp p r c M x/\adj p x j)↔∃i,i<(bK p r M c).2.1.length/\pv (bK p r M c).2.1 i=j:=by
 have hp:dO p:=eF bx
 have uk:=hp.1
 have R:=y9 bx hM c (Nat.le_refl c)
 have I:=oq hp hM c
 have OO:=fun x=>JO bx hM x c (Nat.le_refl c)
 generalize bK p r M c=s at R I OO
 constructor
 ·rintro⟨x,hx,h0,h1⟩
  obtain⟨y,hy⟩:=(OO x).2 hx
  have cf:∀i,i<s.2.1.length->x (pv s.2.1 i)%p=y i%p:=by
   intro i hi
   rw[hy _ (R.lt i hi),u6 (a:=i) r (by have:=I.l;omega) fun a ha aB=>by rw[R.bH i hi a ha aB,Int.mul_zero]]
   rw[R.one i hi,Int.mul_one]
  rw[hy j hj] at h1
  apply Classical.byContradiction
  intro ca
  apply h1
  rw[show(0:Int)=sm r (fun _=>0)%p by rw[Ce r fun _ _=>rfl,Int.zero_emod]]
  refine Cd fun i hi=>?_
  by_cases eY:i<s.2.1.length
  ·rcases Nat.lt_trichotomy (pv s.2.1 i) j with h|h|h
   ·have hz:y i%p=0:=by rw[<-cf i eY];exact h0 _ h
    rw[Int.mul_emod,hz,Int.zero_mul]
   ·exact absurd ⟨i,eY,h⟩ ca
   ·rw[R.low i eY j h,Int.mul_zero]
  ·rw[R.zero i (by omega) hi j hj,Int.mul_zero]
 ·rintro⟨i,hi,rfl⟩
  refine⟨s.1 i,(OO _).1 (mf (by have:=I.l;omega)),fun b hb=>by rw[R.low i hi b hb,Int.zero_emod],?_⟩
  rw[R.one i hi,Int.emod_eq_of_lt (by decide) (by omega)]
  decide
def wA (L:List Int) (j:Nat):Bool:=(List.range L.length).any fun i=>pv L i==j
theorem yI {L:List Int} {j:Nat}:wA L j=true↔∃i,i<L.length/\pv L i=j:=by
 simp only[wA,List.any_eq_true,List.mem_range,beq_iff_eq]
theorem HP (P:Nat->Bool) (j:Nat):(List.range (j+1)).countP P=(List.range j).countP P+(if P j=true then 1 else 0):=by
 rw[List.range_succ,List.countP_append]
 simp[List.countP_cons]
theorem HQ {p:Int} {r c:Nat} {M:aU} (bx:ct p=true) (hM:de p r c M):∀j,j<=c->(List.range j).countP (wA (bK p r M j).2.1)=(bK p r M j).2.1.length
 |0,_=>rfl
 |j+1,hj=>by
  have ih:=HQ bx hM j (by omega)
  have R:=y9 bx hM j (by omega)
  show(List.range (j+1)).countP (wA (jX p r (bK p r M j) j).2.1)=(jX p r (bK p r M j) j).2.1.length
  rw[HP]
  rcases Rq bx (oq (eF bx) hM j) (show j<c by omega) with⟨e,_⟩|⟨k,N,inv,e,P,hl⟩
  ·rw[e,ih]
   have:wA (bK p r M j).2.1 j=false:=by
    rw[Bool.eq_false_iff]
    intro h
    obtain⟨i,hi,he⟩:=yI.1 h
    have:=R.lt i hi
    omega
   rw[this]
   simp
  ·rw[e]
   dsimp only
   have h1:wA ((bK p r M j).2.1++[(j:Int)]) j=true:=yI.2 ⟨_,by simp,y5⟩
   have h2:(List.range j).countP (wA ((bK p r M j).2.1++[(j:Int)]))=(List.range j).countP (wA (bK p r M j).2.1):=by
    refine List.countP_congr fun b hb=>?_
    have hb:=List.mem_range.1 hb
    rw[yI,yI]
    constructor
    ·rintro⟨i,hi,he⟩
     simp only[List.length_append,List.length_cons,List.length_nil] at hi
     by_cases eY:i<(bK p r M j).2.1.length
     ·rw[Ro eY] at he;exact⟨i,eY,he⟩
     ·rw[show i=(bK p r M j).2.1.length by omega,y5] at he;omega
    ·rintro⟨i,hi,he⟩
     exact⟨i,by simp only[List.length_append];omega,by rw[Ro hi];exact he⟩
   rw[h1,h2,ih]
   simp
theorem WZ {P Q:Nat->Bool}:∀n,(∀i,i<n->P i=true->Q i=true)->(List.range n).countP P<=(List.range n).countP Q
 |0,_=>Nat.le_refl _
 |n+1,h=>by
  rw[HP,HP]
  have:=WZ n fun i hi=>h i (by omega)
  cases hP:P n with
  |false=>simp;omega
  |true=>rw[h n (by omega) hP];omega
theorem uT {p:Int} {r r' c:Nat} {M M':aU} (bx:ct p=true) (hM:de p r c M) (oN:de p r' c M') (h:∀x,Sp p r c M x->Sp p r' c M' x):
  (bK p r M c).2.1.length<=(bK p r' M' c).2.1.length:=by
 rw[<-HQ bx hM c (Nat.le_refl c),<-HQ bx oN c (Nat.le_refl c)]
 refine WZ c fun j hj hP=>?_
 obtain⟨x,hx,hl⟩:=(Rj bx hM hj).2 (yI.1 hP)
 exact yI.2 ((Rj bx oN hj).1 ⟨x,h x hx,hl⟩)
end Go.Am
end
section
namespace Go.Am
def GZ:ak:=[(.one,[.list [.int .i64]]),(.one,[.list [.int .i64]])]
def SD:ak:=[(.one,[.bool])]
def akd:aN:=[]
def FM (NN:Nat):((List Int)×(List Int))->(Option Bool):=
 (fun((l0,l1):((List Int)×(List Int)))=>
 cd (bN NN (fun((l2,l3,l4,i5,i6):((List Int)×((List Int)×((List Int)×(Int×Int)))))=>
 aC (bO i6 i5)
 ((dK l4 i6).aa (fun i7=>
 aC (gC (aI (J l3)) i6)
 (some (Sum.inr (Sum.inr false)))
 ((dK l3 i6).aa (fun i8=>
 aC (hZ i8 i7)
 (some (Sum.inr (Sum.inr false)))
 (some (Sum.inl (l2,l3,l4,i5,bS .i64 i6 1)))))))
 (some (Sum.inr (Sum.inl (l2,l3)))))
 (l0,l1,l0,aI (J l0),(0:Int)))
 (fun(l9,ff)=>
 some (cz (aI (J l9)) (aI (J ff)))))
def vm:((List Int)×(List Int))->(Option Bool):=FM ax
theorem agb (x:((List Int)×(List Int))) (z:Bool) (h:vm x=some z):FM ax x=some z:=h
theorem Pc (l:List Int) (h:l.length<=1048576):vm (l,l)=some true:=by
 simp only[vm,FM]
 generalize hL:bN ax _ _=o
 obtain⟨r,rfl,rfl⟩:∃r,o=some r/\r=Sum.inl (l,l):=by
  rw[<-hL]
  refine BF l.length (fun i (x:List Int×List Int×List Int×Int×Int)=>x=(l,l,l,(l.length:Int),(i:Int))) _ ?_ ?_ rfl (dC (by omega))
  ·rintro i x hi rfl
   dsimp only
   rw[aX (dc (by omega)),dY,List.getElem?_eq_getElem hi]
   simp only[av]
   rw[aR (wF (by unfold aI J;omega))]
   rw[show hZ l[i] l[i]=false from bne_self_eq_false _]
   rw[C3,fv (by omega) (by omega)]
   exact⟨_,rfl,rfl⟩
  ·rintro x rfl
   dsimp only
   rw[aR (cZ (by omega))]
   exact⟨_,rfl,rfl⟩
 simp only[cd,Option.bind]
 rw[show cz (aI (J l)) (aI (J l))=true from beq_self_eq_true _]
end Go.Am
end
section
namespace Go.Am
def Hm:ak:=[(.ptr,[.list [.int .u8],.int .i64,.int .i64])]
def SX:ak:=[(.one,[.list [.int .i64]]),(.ptr,[.list [.int .u8],.int .i64,.int .i64])]
def akt:aN:=[[some .aD]]
def F5 (NN:Nat):((List Int)×(Int×Int))->(Option ((List Int)×((List Int)×(Int×Int)))):=
 (fun((l0,i1,i2):((List Int)×(Int×Int)))=>
 (qV ((l0,i1,i2),(4:Int))).aa (fun(i3,l4,i5,i6)=>
 cd ((ai 0 0 (J (([]:List Int)))).aa (fun _=>
 bN NN (fun((i7,(l8,i9,db),cB):(Int×(((List Int)×(Int×Int))×(List Int))))=>
 aC (bO (0:Int) i7)
 ((qV ((l8,i9,db),(3:Int))).aa (fun(eZ,eK,eE,jz)=>
 (ai 0 (J cB) (J cB)).aa (fun _=>
 (c6 ((bS .i64 (1:Int) eZ::([]:List Int))) 0 1).aa (fun gn=>
 (jt (aW (J cB) (J gn)) 8).aa (fun _=>
 (ai 0 (aW (J cB) (J gn)) (J (dt cB gn))).aa (fun _=>
 some (Sum.inl (eG .i64 i7 1,(eK,eE,jz),dt cB gn))))))))
 (((ai 0 (J cB) (J cB)).aa (fun _=>
 some (Sum.inl ((l8,i9,db),cB)))).aa (fun fP=>
 some (Sum.inr fP))))
 (bS .i64 (1:Int) i3,(l4,i5,i6),([]:List Int))))
 (fun((lM,gQ,jA),dQ)=>
 (c6 dQ 0 (J dQ)).aa (fun fm=>
 some (fm,lM,gQ,jA)))))
def z7:((List Int)×(Int×Int))->(Option ((List Int)×((List Int)×(Int×Int)))):=F5 ax
theorem agv (x:((List Int)×(Int×Int))) (z:((List Int)×((List Int)×(Int×Int)))) (h:z7 x=some z):F5 ax x=some z:=h
def G8:ak:=[(.one,[.list [.int .u8]]),(.one,[.int .i64])]
def SJ:ak:=[(.one,[.list [.int .i64]])]
def akh:aN:=[[some .aD]]
def FQ (NN:Nat):((List Int)×Int)->(Option (List Int)):=
 (fun((l0,i1):((List Int)×Int))=>
 (tw (l0,i1)).aa (fun(l2,i3,i4)=>
 (z7 (l2,i3,i4)).aa (fun(l5,l6,i7,i8)=>
 some l5)))
def zV:((List Int)×Int)->(Option (List Int)):=FQ ax
theorem agi (x:((List Int)×Int)) (z:(List Int)) (h:zV x=some z):FQ ax x=some z:=h
def Hl:ak:=[(.ptr,[.list [.int .u8],.int .i64,.int .i64]),(.one,[.int .i64]),(.one,[.list [.int .i64]])]
def SW:ak:=[(.agg,[.int .i64,.list [.int .i64,.int .i64,.int .i64,.list [.int .i64]]]),(.ptr,[.list [.int .u8],.int .i64,.int .i64])]
def aks:aN:=[[some .aD]]
def F4 (NN:Nat):(((List Int)×(Int×Int))×(Int×(List Int)))->(Option ((Int×(List (Int×(Int×(Int×(List Int))))))×((List Int)×(Int×Int)))):=
 (fun(((l0,i1,i2),i3,l4):(((List Int)×(Int×Int))×(Int×(List Int))))=>
 cd ((ai 0 0 (J (([]:List (Int×(Int×(Int×(List Int)))))))).aa (fun _=>
 (ai 0 0 (J (([]:List (Int×(Int×(Int×(List Int)))))))).aa (fun _=>
 bN NN (fun(((i5,l6,i7,l8,i9,db),(cB,eZ,fN),eE,jz,gn,fP):((Int×((List Int)×(Int×((List Int)×(Int×Int)))))×(((List Int)×(Int×Int))×(Int×(Int×((List (Int×(Int×(Int×(List Int)))))×(List (Int×(Int×(Int×(List Int)))))))))))=>
 aC (bO db i9)
 ((dK l8 db).aa (fun g0=>
 (qV ((cB,eZ,fN),(4:Int))).aa (fun(gQ,je,qi,mI)=>
 (vp ((je,qi,mI),(16:Int))).aa (fun(LP,iv,oV,uB)=>
 cd (aC (LP)
 ((ai 0 (J gn) (J gn)).aa (fun _=>
 (ai 0 (J fP) (J fP)).aa (fun _=>
 some (Sum.inl ((db,i7,yS (1:Int) (n7 (4:Int) g0),(0:Int),db,i5,l6,l8,i9),(iv,oV,uB),eE,jz,gn,fP)))))
 ((ai 0 (J gn) (J gn)).aa (fun _=>
 (ai 0 (J fP) (J fP)).aa (fun _=>
 some (Sum.inl ((db,i7,yS (1:Int) (n7 (4:Int) g0),bS .i64 (1:Int) gQ,db,i5,l6,l8,i9),(iv,oV,uB),eE,jz,gn,fP))))))
 (fun((kI,uC,yB,rG,nk,gk,jf,yM,jc),(iy,jd,mJ),nZ,oY,fy,hJ)=>
 cd (aC (cz kI (eG .i64 (aI (J jf)) (1:Int)))
 ((ai 0 (J fy) (J fy)).aa (fun _=>
 (ai 0 (J hJ) (J hJ)).aa (fun _=>
 some (Sum.inl ((uC,yB,(1:Int),nk,gk,jf,yM,jc),(iy,jd,mJ),nZ,oY,fy,hJ)))))
 ((ai 0 (J fy) (J fy)).aa (fun _=>
 (ai 0 (J hJ) (J hJ)).aa (fun _=>
 some (Sum.inl ((uC,yB,rG,nk,gk,jf,yM,jc),(iy,jd,mJ),nZ,oY,fy,hJ))))))
 (fun((mK,lJ,qk,wu,oZ,rN,mM,o7),(rO,rJ,rK),o8,Bn,iB,iC)=>
 (z5 ((rO,rJ,rK),oZ,c7 .i64 mK lJ,qk)).aa (fun((I3,Bo,yN),wC,qm,rM)=>
 (ai 0 (J iC) (J iC)).aa (fun _=>
 (ai 0 1 (J (((mK,lJ,qk,yN)::([]:List (Int×(Int×(Int×(List Int))))))))).aa (fun _=>
 (jt (aW (J iC) (J (((mK,lJ,qk,yN)::([]:List (Int×(Int×(Int×(List Int))))))))) 48).aa (fun _=>
 (ai 0 (J iB) (J iB)).aa (fun _=>
 (ai 0 (aW (J iC) (J (((mK,lJ,qk,yN)::([]:List (Int×(Int×(Int×(List Int))))))))) (J (dt iC (((mK,lJ,qk,yN)::([]:List (Int×(Int×(Int×(List Int)))))))))).aa (fun _=>
 some (Sum.inl ((oZ,rN,qk,mM,o7,bS .i64 wu 1),(wC,qm,rM),o8,Bn,iB,dt iC (((mK,lJ,qk,yN)::([]:List (Int×(Int×(Int×(List Int)))))))))))))))))))))
 (((ai 0 (J gn) (J gn)).aa (fun _=>
 (ai 0 (J fP) (J fP)).aa (fun _=>
 some (Sum.inl ((cB,eZ,fN),eE,jz,gn,fP))))).aa (fun qt=>
 some (Sum.inr qt))))
 ((i3,l4,(1:Int),l4,aI (J l4),(0:Int)),(l0,i1,i2),(0:Int),i3,([]:List (Int×(Int×(Int×(List Int))))),([]:List (Int×(Int×(Int×(List Int)))))))))
 (fun((s6,yE,uF),D8,Bp,qu,mO)=>
 (c6 mO 0 (J mO)).aa (fun mP=>
 some ((Bp,mP),s6,yE,uF))))
def z6:(((List Int)×(Int×Int))×(Int×(List Int)))->(Option ((Int×(List (Int×(Int×(Int×(List Int))))))×((List Int)×(Int×Int)))):=F4 ax
theorem agu (x:(((List Int)×(Int×Int))×(Int×(List Int)))) (z:((Int×(List (Int×(Int×(Int×(List Int))))))×((List Int)×(Int×Int)))) (h:z6 x=some z):F4 ax x=some z:=h
def G7:ak:=[(.one,[.list [.int .u8]]),(.one,[.int .i64]),(.one,[.int .i64]),(.one,[.list [.int .i64]])]
def SI:ak:=[(.agg,[.int .i64,.list [.int .i64,.int .i64,.int .i64,.list [.int .i64]]])]
def akg:aN:=[[some .aD]]
def FO (NN:Nat):((List Int)×(Int×(Int×(List Int))))->(Option (Int×(List (Int×(Int×(Int×(List Int))))))):=
 (fun((l0,i1,i2,l3):((List Int)×(Int×(Int×(List Int)))))=>
 (tw (l0,i1)).aa (fun(l4,i5,i6)=>
 (z6 ((l4,i5,i6),i2,l3)).aa (fun((i7,l8),l9,db,eS)=>
 some (i7,l8))))
def zU:((List Int)×(Int×(Int×(List Int))))->(Option (Int×(List (Int×(Int×(Int×(List Int))))))):=FO ax
theorem agh (x:((List Int)×(Int×(Int×(List Int))))) (z:(Int×(List (Int×(Int×(Int×(List Int))))))) (h:zU x=some z):FO ax x=some z:=h
def G0:ak:=[(.agg,[.list [.int .i64],.list [.int .i64],.list [.int .i64]]),(.agg,[.list [.int .i64],.list [.int .i64],.list [.int .i64]])]
def SE:ak:=[(.one,[.bool])]
def ake:aN:=[]
def FN (NN:Nat):(((List Int)×((List Int)×(List Int)))×((List Int)×((List Int)×(List Int))))->(Option Bool):=
 (fun(((l0,l1,l2),l3,l4,l5):(((List Int)×((List Int)×(List Int)))×((List Int)×((List Int)×(List Int)))))=>
 (vm (l0,l3)).aa (fun b6=>
 aC (b6)
 ((vm (l1,l4)).aa (fun b7=>
 aC (b7)
 ((vm (l2,l5)).aa (fun b8=>
 some b8))
 (some false)))
 (some false)))
def zR:(((List Int)×((List Int)×(List Int)))×((List Int)×((List Int)×(List Int))))->(Option Bool):=FN ax
theorem agc (x:(((List Int)×((List Int)×(List Int)))×((List Int)×((List Int)×(List Int))))) (z:Bool) (h:zR x=some z):FN ax x=some z:=h
def Gl:ak:=[(.agg,[.list [.int .i64],.list [.int .i64],.list [.int .i64]]),(.one,[.int .i64])]
def RX:ak:=[(.one,[.list [.int .i64]]),(.one,[.bool])]
def ajG:aN:=[]
def FF (NN:Nat):(((List Int)×((List Int)×(List Int)))×Int)->(Option ((List Int)×Bool)):=
 (fun(((l0,l1,l2),i3):(((List Int)×((List Int)×(List Int)))×Int))=>
 (vj (l0,l1,l2)).aa (fun i4=>
 aC (cz i4 ((-1:Int)))
 (some (([]:List Int),false))
 (aC (bO i3 (0:Int))
 (some (([]:List Int),false))
 (aC (gC i4 i3)
 (some (([]:List Int),false))
 ((zJ (l1,i3)).aa (fun l5=>
 (dP l5 (J l5)).aa (fun l6=>
 some (l6,true))))))))
def zB:(((List Int)×((List Int)×(List Int)))×Int)->(Option ((List Int)×Bool)):=FF ax
theorem afA (x:(((List Int)×((List Int)×(List Int)))×Int)) (z:((List Int)×Bool)) (h:zB x=some z):FF ax x=some z:=h
theorem aoI (c:Cu) (h:iS c):∃D c',z7 c=some (D,c')/\iS c'/\(1<=D.length/\D.length<=4)/\∀v∈D,1<=v/\v<=3:=by
 obtain⟨l,i,k⟩:=c
 obtain⟨x,⟨l',i',k'⟩,e,hx,_,hc⟩:=Af (l,i,k) 4 h (by decide)
 simp only[z7,F5]
 rw[e]
 simp only[av]
 rw[show ai 0 0 (J ([]:List Int))=some () from rfl]
 simp only[av]
 rw[fv (by omega) (by omega)]
 obtain⟨t,ht⟩:∃t:Nat,1+x=(t:Int):=⟨(1+x).toNat,by omega⟩
 rw[ht]
 generalize hL:bN ax _ _=o
 obtain⟨s,rfl,c',d,rfl,cv,hl,hd⟩:∃s,o=some s/\∃(c':Cu) (d:List Int),s=Sum.inl (c',d)/\iS c'/\d.length=t/\∀v∈d,1<=v/\v<=3:=by
  rw[<-hL]
  refine BF t (fun j (s:(Int×(((List Int)×(Int×Int))×(List Int))))=>∃(c':Cu) (d:List Int),s=((t:Int) - (j:Int),c',d)/\iS c'/\d.length=j/\∀v∈d,1<=v/\v<=3) _ ?_ ?_ ?_ (dC (by omega))
  ·rintro j s hj ⟨⟨l1,i1,h1⟩,d,rfl,hc,hl,hd⟩
   dsimp only
   rw[aX (dc (by omega))]
   obtain⟨y,⟨l3,i3,h3⟩,e3,hy,_,hc⟩:=Af _ 3 hc (by decide)
   rw[e3]
   simp only[av,cH]
   rw[fv (by omega) (by omega),apE]
   simp only[av]
   rw[oK (by show(aW d.length 1)*8<=dF;simp only[aW,dF];omega)]
   simp only[av]
   rw[agK]
   simp only[av]
   rw[lW (by omega) (by omega)]
   refine⟨_,rfl,(l3,i3,h3),dt d [1+y],by rw[show(t:Int) - (j:Int) - 1=(t:Int) - ((j+1:Nat):Int) by omega],hc,by simp[dt,hl],?_⟩
   intro v hv
   rcases List.mem_append.1 hv with hv|hv
   ·exact hd v hv
   ·rw[List.mem_singleton] at hv
    subst hv
    omega
  ·rintro s ⟨⟨l1,i1,h1⟩,d,rfl,hc,hl,hd⟩
   dsimp only
   rw[aR (cZ (by omega))]
   simp only[av,cH]
   exact⟨_,rfl,_,_,rfl,hc,hl,hd⟩
  ·exact⟨(l',i',k'),[],by rw[show(t:Int) - ((0:Nat):Int)=(t:Int) by omega],hc,rfl,fun v hv=>by cases hv⟩
 simp only[cd,Option.bind,iQ,av]
 exact⟨d,c',rfl,cv,by omega,hd⟩
structure vh (p:Int) (D:List Int) (j:Nat) (left:Nat) (L:List bh):Prop where
 lf:left<=4
 fin:j=D.length->left=1
 gL:L.length=j
 Ay:bf L=D.take j
 ch:eI (mr p) 0 1 L=some (left:Int)
 b4:∀s∈L,s.2.2.1<=4
theorem vh.next {p:Int} {D:List Int} {j left right:Nat} {L:List bh} {d:List Int} (I:vh p D j left L) (hj:j<D.length) (hd:∀v∈D,1<=v/\v<=3) (hr:right<=4) (hf:j+1=D.length->right=1)
  (hl:d.length=left*(D.getD j 0).toNat*right) (ha:eX p d):vh p D (j+1) right (L++[((left:Int),D.getD j 0,(right:Int),d)]):=by
 have hv:=hd _ (jN hj)
 have Ov:=I.lf
 refine⟨hr,hf,by rw[List.length_append,I.gL];rfl,?_,?_,?_⟩
 ·unfold bf
  rw[List.map_append]
  show bf L++[D.getD j 0]=_
  rw[I.Ay,List.take_add_one,nb hj]
  rfl
 ·rw[Is,I.ch]
  show mr p _ _ _=_
  refine if_pos ⟨?_,rfl⟩
  obtain⟨e,he⟩:∃e:Nat,D.getD j 0=(e:Int):=⟨(D.getD j 0).toNat,by omega⟩
  rw[he] at hl hv⊢
  rw[Int.toNat_natCast] at hl
  exact J9 (by omega) (by omega) ⟨by omega,by omega⟩ hl ha
 ·intro s hs
  rcases List.mem_append.1 hs with h|h
  ·exact I.b4 s h
  ·rw[List.mem_singleton] at h
   subst h
   show(right:Int)<=4
   omega
theorem vh.ok {p:Int} {D:List Int} {left:Nat} {L:List bh} (I:vh p D D.length left L) (hp:ct p=true) (hl:1<=D.length/\D.length<=4) (hd:∀v∈D,1<=v/\v<=3):e8 (p,L)=true/\bf L=D:=by
 have nV:bf L=D:=by rw[I.Ay,List.take_length]
 have h1:=I.fin rfl
 subst h1
 have bx:cV D<=4096:=by
  rw[uR fun x hx=>(hd x hx).1]
  have:∀(l:List Int),(∀v∈l,1<=v/\v<=3)->br l<=3^l.length:=by
   intro l
   induction l with
   |nil=>intro _;decide
   |cons a l ih=>
    intro h
    have ha:=h a (by simp)
    have:=Nat.mul_le_mul (show a.toNat<=3 by omega) (ih fun v hv=>h v (by simp[hv]))
    simp only[br,List.length_cons,Nat.pow_succ]
    omega
  have h2:=this D hd
  have h3:3^D.length<=3^4:=Nat.pow_le_pow_right (by decide) hl.2
  omega
 refine⟨?_,nV⟩
 simp only[e8,hp,I.ch,nV,I.gL,Bool.true_and]
 rw[decide_eq_true ⟨hl.1,by omega⟩,decide_eq_true bx]
 rfl
theorem ad0 (c:Cu) (p:Int) (D:List Int) (h:iS c) (hp:ct p=true) (hl:1<=D.length/\D.length<=4) (hd:∀v∈D,1<=v/\v<=3):
  ∃L c',z6 (c,p,D)=some ((p,L),c')/\iS c'/\vh p D D.length 1 L:=by
 obtain⟨cl,ci,ck⟩:=c
 simp only[z6,F4]
 rw[show ai 0 0 (J ([]:List (Int×(Int×(Int×(List Int))))))=some () from rfl]
 simp only[av]
 generalize hL:bN ax _ _=o
 obtain⟨s,rfl,c',L,rfl,cv,hI⟩:∃s,o=some s/\∃(c':Cu) (L:List bh),s=Sum.inl (c',(0:Int),p,([]:List bh),L)/\iS c'/\vh p D D.length 1 L:=by
  rw[<-hL]
  refine BF D.length (fun j (s:((Int×((List Int)×(Int×((List Int)×(Int×Int)))))×(((List Int)×(Int×Int))×(Int×(Int×((List (Int×(Int×(Int×(List Int)))))×(List (Int×(Int×(Int×(List Int)))))))))))=>∃(c':Cu) (left:Nat) (L:List bh),s=((p,D,(left:Int),D,(D.length:Int),(j:Int)),c',(0:Int),p,([]:List bh),L)/\iS c'/\vh p D j left L) _ ?_ ?_ ?_ (dC (by omega))
  ·rintro j s hj ⟨⟨l1,i1,h1⟩,left,L,rfl,hc,I⟩
   dsimp only
   have hv:=hd _ (jN hj)
   have YX:=I.lf
   rw[aX (dc (by omega)),dY,nb hj]
   simp only[av]
   obtain⟨y,⟨l2,i2,h2⟩,e2,hy,_,hc⟩:=Af _ 4 hc (by decide)
   rw[e2]
   simp only[av]
   obtain⟨b,⟨l3,i3,h3⟩,e3,hc⟩:=Rc _ 16 hc (by decide)
   rw[e3]
   simp only[av,cH]
   rw[fv (a:=1) (b:=y) (by omega) (by omega)]
   have cX:yS (1:Int) (n7 (4:Int) (D.getD j 0))=D.getD j 0:=by unfold yS n7;omega
   rw[cX]
   have eR:eG .i64 (aI (J D)) 1=((D.length - 1:Nat):Int):=WR (n:=D.length) hl.1 (by omega)
   have cf:∀r:Int,0<=r/\r<=4->∃right:Nat,(right<=4/\(j+1=D.length->right=1))/\(right:Int)=if j=D.length - 1 then 1 else r:=fun r hr=>by
    by_cases e:j=D.length - 1
    ·exact⟨1,⟨by omega,fun _=>rfl⟩,by rw[if_pos e];rfl⟩
    ·exact⟨r.toNat,⟨by omega,fun _=>by omega⟩,by rw[if_neg e];omega⟩
   obtain⟨r,hr,N5⟩:∃r:Int,(0<=r/\r<=4)/\r=if b=true then 0 else 1+y:=by
    cases b
    ·exact⟨1+y,by omega,rfl⟩
    ·exact⟨0,by omega,rfl⟩
   obtain⟨right,⟨g1,g2⟩,g3⟩:=cf r hr
   have YU:c7 .i64 (left:Int) (D.getD j 0)=((left*(D.getD j 0).toNat:Nat):Int):=by
    obtain⟨e,he⟩:∃e:Nat,D.getD j 0=(e:Int):=⟨(D.getD j 0).toNat,by omega⟩
    rw[he,BL (by omega) (by omega)]
    rfl
   have t9:left*(D.getD j 0).toNat<=4*3:=Nat.mul_le_mul YX (by omega)
   obtain⟨d,⟨l4,i4,h4⟩,e4,q1,q2,hc⟩:=aeG (l3,i3,h3) p (left*(D.getD j 0).toNat) right hc (eF hp) (by omega) (by omega)
   have I':=I.next hj hd g1 g2 q1 q2
   by_cases e:j=D.length - 1
   ·rw[if_pos e] at g3
    cases b<;>
    ·first|rw[aR rfl]|rw[aX rfl]
     simp only[cd,Option.bind]
     rw[eR]
     rw[aX (by unfold cz;exact beq_iff_eq.2 (by omega))]
     simp only[cH,av,YU]
     rw[g3] at e4
     rw[e4]
     simp only[av,cH]
     rw[show∀s:bh,ai 0 1 (J [s])=some () from fun _=>rfl]
     simp only[av]
     rw[oK (by show(aW L.length 1)*48<=dF;rw[I.gL];simp only[aW,dF];omega)]
     simp only[av]
     rw[Iu,fv (by omega) (by omega)]
     exact⟨_,rfl,(l4,i4,h4),right,L++[((left:Int),D.getD j 0,(right:Int),d)],by rw[g3];rfl,hc,I'⟩
   ·rw[if_neg e,N5] at g3
    cases b<;>
    ·first|rw[aR rfl]|rw[aX rfl]
     simp only[cd,Option.bind]
     rw[eR]
     rw[aR (by unfold cz;rw[beq_eq_false_iff_ne];omega)]
     simp only[cH,av,YU]
     simp only[Bool.false_eq_true,if_false,if_true] at g3
     rw[g3] at e4
     rw[e4]
     simp only[av,cH]
     rw[show∀s:bh,ai 0 1 (J [s])=some () from fun _=>rfl]
     simp only[av]
     rw[oK (by show(aW L.length 1)*48<=dF;rw[I.gL];simp only[aW,dF];omega)]
     simp only[av]
     rw[Iu,fv (by omega) (by omega)]
     exact⟨_,rfl,(l4,i4,h4),right,L++[((left:Int),D.getD j 0,(right:Int),d)],by rw[g3];rfl,hc,I'⟩
  ·rintro s ⟨⟨l1,i1,h1⟩,left,L,rfl,hc,I⟩
   dsimp only
   rw[aR (cZ (by omega))]
   simp only[av,cH]
   have:=I.fin rfl
   subst this
   exact⟨_,rfl,_,_,rfl,hc,I⟩
  ·exact⟨(cl,ci,ck),1,[],rfl,h,⟨by decide,fun _=>rfl,rfl,rfl,rfl,fun s hs=>by cases hs⟩⟩
 simp only[cd,Option.bind,iQ,av]
 exact⟨L,c',rfl,cv,hI⟩
end Go.Am
end
section
namespace Go.Am
def d2 (a b c d:Int):Int:=a*d - b*c
def d3 (a b c d e f g h i:Int):Int:=a*d2 e f h i - b*d2 d f g i+c*d2 d e g h
theorem bV.sub {p a b c d:Int} (h:bV p a b) (h':bV p c d):bV p (a - c) (b - d):=by
 obtain⟨q,rfl⟩:=h;obtain⟨q',rfl⟩:=h';exact⟨q - q',by grind⟩
end Go.Am
end
section
namespace Go.Am
section
variable {p:Int} {n:Nat} {M0:aU}
end
end Go.Am
end
section
namespace Go.Am
def BM (n:Nat) (X Y:aU):aU:=fun a b=>sm n (fun i=>X a i*Y i b)
theorem pV {p a b:Int}:bV p a b↔a%p=b%p:=by
 constructor
 ·rintro⟨q,rfl⟩;exact Int.add_mul_emod_self_left b p q
 ·intro h;exact((AD p a).symm).trans (by rw[h];exact AD p b)
theorem nO {p:Int} {f g:Nat->Int} {n:Nat} (h:∀i,i<n->bV p (f i) (g i)):bV p (sm n f) (sm n g):=pV.2 (Cd fun i hi=>pV.1 (h i hi))
structure adn (p:Int) (n:Nat) (A B:aU) (t k:Nat) (inv:Int) (f:Nat->Int):Prop where
 bt:∀b,b<n->bV p (B t b) (inv*A k b)
 ba:∀a,a<n->a≠t->∀b,b<n->bV p (B a b) (cR A t k a b+f a*B t b)
theorem CN.uY {p:Int} {n:Nat} {M N:aU} {t k j:Nat} {inv:Int} (P:CN p n M N t k j inv) (Y:aU):adn p n (BM n M Y) (BM n N Y) t k inv (fun a=>p - cR M t k a j):=by
 constructor
 ·intro b _
  unfold BM
  rw[<-zk]
  refine nO fun i _=>?_
  rw[P.nt i]
  refine(bV.mul (AD p _) (bV.refl p (Y i b))).trans ?_
  exact⟨0,by grind⟩
 ·intro a ha bQ b _
  have e:cR (BM n M Y) t k a b=sm n (fun i=>cR M t k a i*Y i b):=by
   unfold cR BM
   split
   ·rfl
   ·split<;>rfl
  rw[e]
  unfold BM
  rw[<-zk,<-Kc]
  refine nO fun i _=>?_
  rw[P.na a ha bQ i]
  refine(bV.mul (AD p _) (bV.refl p (Y i b))).trans ?_
  exact⟨0,by grind⟩
theorem WY {P:Nat->Bool}:∀n,(List.range n).countP P=n↔∀i,i<n->P i=true
 |0=>by simp
 |n+1=>by
  rw[HP]
  have h:=WY (P:=P) n
  have iY:(List.range n).countP P<=n:=by have:=List.countP_le_length (p:=P) (l:=List.range n);simpa using this
  constructor
  ·intro hh
   cases hP:P n with
   |false=>rw[hP] at hh;simp at hh;omega
   |true=>
    rw[hP] at hh
    simp only[if_true] at hh
    have:=h.1 (by omega)
    intro i hi
    by_cases fx:i=n
    ·rw[fx];exact hP
    ·exact this i (by omega)
  ·intro hh
   rw[hh n (by omega),h.2 fun i hi=>hh i (by omega)]
   simp
theorem akv (p:Int) (k:Nat) (A B:aU) (i j:Nat):bV p (aar p k A B i j) (sm k (fun t=>A i t*B t j)):=by
 unfold aar
 rw[Xi]
 exact AD _ _
theorem abt {p:Int} {r c:Nat} {M:aU} (bx:ct p=true) (hM:de p r c M) {i j:Nat} (hi:i<r) (hj:j<c):
  bV p (sm (bK p r M c).2.1.length (fun t=>M i (pv (bK p r M c).2.1 t)*(bK p r M c).1 t j)) (M i j):=by
 have hp:dO p:=eF bx
 have R:=y9 bx hM c (Nat.le_refl c)
 have I:=oq hp hM c
 obtain⟨y,hy⟩:=(JO bx hM (M i) c (Nat.le_refl c)).2 (mf hi)
 generalize bK p r M c=s at R I hy
 have cf:∀t,t<s.2.1.length->bV p (M i (pv s.2.1 t)) (y t):=fun t ht=>by
  refine pV.2 ?_
  rw[hy _ (R.lt t ht),u6 (a:=t) r (by have:=I.l;omega) fun a ha aB=>by rw[R.bH t ht a ha aB,Int.mul_zero]]
  rw[R.one t ht,Int.mul_one]
 have e1:bV p (sm s.2.1.length (fun t=>M i (pv s.2.1 t)*s.1 t j)) (sm s.2.1.length (fun t=>y t*s.1 t j)):=nO fun t ht=>bV.mul (cf t ht) (bV.refl _ _)
 refine e1.trans (pV.2 ?_)
 rw[hy j hj,Uw (m:=s.2.1.length) r I.l fun a ha hla=>by rw[R.zero a hla ha j hj,Int.mul_zero]]
theorem acU {p:Int} {r c:Nat} {M:aU} (bx:ct p=true) (hM:de p r c M):(bK p c (tn M) r).2.1.length<=(bK p r M c).2.1.length:=by
 have hp:dO p:=eF bx
 have R:=y9 bx hM c (Nat.le_refl c)
 have hT:de p c r (tn M):=fun j hj i hi=>hM i hi j hj
 have hB:de p (bK p r M c).2.1.length r (fun t i=>M i (pv (bK p r M c).2.1 t)):=fun t ht i hi=>hM i hi _ (R.lt t ht)
 refine Nat.le_trans (uT bx hT hB fun x hx=>pN (fun j hj=>?_) hx) (oq hp hB r).l
 refine⟨fun t=>(bK p r M c).1 t j,fun i hi=>?_⟩
 show M i j%p=_
 rw[<-pV.1 (abt bx hM hi hj)]
 congr 1
 exact lV fun t _=>Int.mul_comm _ _
theorem apq {p:Int} {r c:Nat} {M:aU} (bx:ct p=true) (hM:de p r c M):(bK p c (tn M) r).2.1.length=(bK p r M c).2.1.length:=
 Nat.le_antisymm (acU bx hM) (acU (M:=tn M) bx (fun j hj i hi=>hM i hi j hj))
end Go.Am
end
section
namespace Go.Am
theorem Kd (N k:Nat) (y g:Nat->Int) (L:aU):sm N (fun u=>y u*sm k (fun t=>L u t*g t))=sm k (fun t=>sm N (fun u=>y u*L u t)*g t):=by
 have e1:sm N (fun u=>y u*sm k (fun t=>L u t*g t))=sm N (fun u=>sm k (fun t=>y u*L u t*g t)):=lV fun u _=>by
  rw[<-zk]
  exact lV fun t _=>by rw[Int.mul_assoc]
 rw[e1,Ux]
 exact lV fun t _=>by rw[ab2]
theorem aeE (p:Int) (f g:Nat->Int) (n:Nat):bV p (lB p f g n) (sm n (fun t=>f t*g t)):=akv p n (fun _=>f) (fun t _=>g t) 0 0
theorem ab3 {k t:Nat} (g:Nat->Int) (ht:t<k):sm k (fun b=>(if b=t then(1:Int) else 0)*g b)=g t:=by
 rw[u6 (a:=t) k ht (fun i _ aB=>by simp[aB])]
 simp
theorem Db {p a b:Int} (h:a=b):bV p a b:=h▸bV.refl p a
theorem H9 {p a:Int}:bV p (a%p) a:=AD p a
def LI (m:Int) (N k:Nat) (L:aU):Prop:=∀x:Nat->Int,Sp m N k L x
def qn:aU:=fun a b=>if b=a then 1 else 0
theorem ado {m:Int} {k:Nat} (x:Nat->Int):Sp m k k qn x:=⟨x,fun b hb=>by
 have:sm k (fun i=>x i*qn i b)=x b:=by
  rw[u6 (a:=b) k hb (fun i _ aB=>by unfold qn;rw[if_neg (fun h=>aB h.symm),Int.mul_zero])]
  unfold qn
  rw[if_pos rfl,Int.mul_one]
 rw[this]⟩
theorem VQ {m:Int} {N k:Nat} {L:aU} (h:∀t,t<k->∃i,i<N/\∀b,b<k->qn t b%m=L i b%m):LI m N k L:=fun x=>
 pN (fun t ht=>by
  obtain⟨i,hi,e⟩:=h t ht
  exact vr (mf hi) e) (ado x)
theorem adi {m:Int} {N k N' k' K:Nat} {L A L':aU} (hL:LI m N k L) (hA:LI m K k' A)
  (h:∀a,a<K->∃(t:Nat) (φ ψ:Nat->Nat),t<k/\ψ t=a/\(∀u,u<N->φ u<N')/\∀u,u<N->∀b,b<k'->bV m (L' (φ u) b) (sm k (fun t=>L u t*A (ψ t) b))):LI m N' k' L':=fun x=>by
 refine pN (fun a ha=>?_) (hA x)
 obtain⟨t,φ,ψ,ht,hψ,hφ,e⟩:=h a ha
 refine pN (N:=fun u=>L' (φ u)) (r':=N) (fun u hu=>mf (hφ u hu)) ?_
 obtain⟨y,hy⟩:=hL (fun b=>if b=t then 1 else 0)
 refine⟨y,fun b hb=>pV.1 (bV.symm ?_)⟩
 refine(nO fun u hu=>bV.mul (bV.refl _ (y u)) (e u hu b hb)).trans ?_
 rw[Kd]
 refine(nO fun q hq=>bV.mul (pV.2 (hy q hq).symm) (bV.refl _ (A (ψ q) b))).trans ?_
 rw[ab3 (fun q=>A (ψ q) b) ht,hψ]
 exact bV.refl _ _
theorem Zv {m:Int} (hm:dO m) (k:Nat):de m k k qn:=fun a _ b _=>by
 have:=hm.1
 unfold qn fk
 split<;>omega
theorem anl {m:Int} {k:Nat} (bx:ct m=true):(bK m k qn k).2.1.length=k:=by
 have hm:=eF bx
 have h2:=hm.1
 have hI:=Zv hm k
 rw[<-HQ bx hI k (Nat.le_refl k)]
 refine(WY k).2 fun j hj=>yI.2 ((Rj bx hI hj).1 ⟨qn j,mf hj,fun b hb=>?_,?_⟩)
 ·unfold qn
  rw[if_neg (by omega)]
  exact Int.zero_emod _
 ·unfold qn
  rw[if_pos rfl,Int.emod_eq_of_lt (by omega) (by omega)]
  decide
theorem ani {m:Int} {N k:Nat} {L:aU} (bx:ct m=true) (hL:de m N k L) (h:LI m N k L):(bK m N L k).2.1.length=k:=by
 have hm:=eF bx
 refine Nat.le_antisymm (oq hm hL k).lj ?_
 have:=uT bx (Zv hm k) hL fun x _=>h x
 rwa[anl bx] at this
theorem adh {m:Int} {N k:Nat} {L L':aU} (h:LI m N k L) (e:∀u,u<N->∀b,b<k->bV m (L' u b) (L u b)):LI m N k L':=fun x=>by
 obtain⟨y,hy⟩:=h x
 refine⟨y,fun b hb=>(hy b hb).trans (pV.1 (nO fun u hu=>bV.mul (bV.refl _ _) (e u hu b hb).symm))⟩
theorem anj {m:Int} {N k c:Nat} {U L R:aU} (bx:ct m=true) (hU:de m N c U) (hL:LI m N k L) (hR:LI m c k (tn R)) (h:∀u,u<N->∀w,w<c->bV m (U u w) (sm k (fun t=>L u t*R t w))):
  (bK m N U c).2.1.length=k:=by
 have hm:=eF bx
 have h2:=hm.1
 let R':aU:=fun t w=>R t w%m
 have vS:de m k c R':=fun t _ w _=>⟨Int.emod_nonneg _ (by omega),Int.emod_lt_of_pos _ (by omega)⟩
 have hT:de m c k (tn R'):=fun w hw t ht=>vS t ht w hw
 have k1:(bK m c (tn R') k).2.1.length=k:=ani bx hT (adh hR fun w _ t _=>H9)
 rw[apq bx vS] at k1
 refine Nat.le_antisymm ?_ ?_
 ·refine Nat.le_trans (uT bx hU vS fun x hx=>pN (fun u hu=>?_) hx) (Nat.le_of_eq k1)
  refine⟨fun t=>L u t,fun w hw=>?_⟩
  refine pV.1 ((h u hu w hw).trans (nO fun t _=>bV.mul (bV.refl _ _) H9.symm))
 ·rw[<-k1]
  refine(uT bx vS hU fun x hx=>pN (fun t ht=>?_) hx)
  obtain⟨y,hy⟩:=hL (fun b=>if b=t then 1 else 0)
  refine⟨y,fun w hw=>pV.1 (bV.symm ?_)⟩
  refine(nO fun u hu=>bV.mul (bV.refl _ (y u)) (h u hu w hw)).trans ?_
  rw[Kd]
  refine(nO fun q hq=>bV.mul (pV.2 (hy q hq).symm) (bV.refl _ (R q w))).trans ?_
  rw[ab3 (fun q=>R q w) ht]
  exact H9.symm
theorem anm {m:Int} {N k c:Nat} {U L R:aU} (bx:ct m=true) (hU:de m N c U) (h:∀u,u<N->∀w,w<c->bV m (U u w) (sm k (fun t=>L u t*R t w))):(bK m N U c).2.1.length<=k:=by
 have hm:=eF bx
 have h2:=hm.1
 have vS:de m k c (fun t w=>R t w%m):=fun t _ w _=>⟨Int.emod_nonneg _ (by omega),Int.emod_lt_of_pos _ (by omega)⟩
 refine Nat.le_trans (uT bx hU vS fun x hx=>pN (fun u hu=>?_) hx) (oq hm vS c).l
 refine⟨fun t=>L u t,fun w hw=>pV.1 ((h u hu w hw).trans (nO fun t _=>bV.mul (bV.refl _ _) H9.symm))⟩
theorem agC {m:Int} {r c:Nat} {d:List Int} (bx:ct m=true) (hl:d.length=r*c) (hd:eX m d) {i j:Nat} (hi:i<r) (hj:j<c):
  bV m (bY c d i j) (sm (gU m r c d) (fun t=>bY (gU m r c d) (nP m r c d) i t*bY c (sA m r c d) t j)):=by
 have hM:=Ab hl hd
 refine(abt bx hM hi hj).symm.trans (nO fun t ht=>?_)
 have h1:bY (gU m r c d) (nP m r c d) i t=bY c d i (pv (bK m r (bY c d) c).2.1 t):=pu _ hi ht
 have h2:bY c (sA m r c d) t j=(bK m r (bY c d) c).1 t j:=pu _ ht hj
 rw[h1,h2]
 exact bV.refl _ _
theorem agx {m:Int} {r c:Nat} {d:List Int} (bx:ct m=true) (hl:d.length=r*c) (hd:eX m d):LI m r (gU m r c d) (bY (gU m r c d) (nP m r c d)):=fun x=>by
 have hM:=Ab hl hd
 have R:=y9 bx hM c (Nat.le_refl c)
 have I:=oq (eF bx) hM c
 have hs:Sp m r c (bK m r (bY c d) c).1 (fun b=>sm (gU m r c d) (fun s=>x s*(bK m r (bY c d) c).1 s b)):=by
  refine pN (N:=(bK m r (bY c d) c).1) (r':=gU m r c d) (fun i hi=>mf (Nat.lt_of_lt_of_le hi I.l)) ⟨x,fun b _=>rfl⟩
 obtain⟨y,hy⟩:=(JO bx hM _ c (Nat.le_refl c)).1 hs
 refine⟨y,fun t ht=>?_⟩
 have e1:=hy (pv (bK m r (bY c d) c).2.1 t) (R.lt t ht)
 have e2:sm (gU m r c d) (fun s=>x s*(bK m r (bY c d) c).1 s (pv (bK m r (bY c d) c).2.1 t))=x t:=by
  rw[u6 (a:=t) _ ht (fun s hs aB=>by rw[R.bH t ht s (Nat.lt_of_lt_of_le hs I.l) aB,Int.mul_zero]),R.one t ht,Int.mul_one]
 have e1:=(congrArg (·%m) e2).symm.trans e1
 refine Eq.trans e1 ?_
 congr 1
 refine lV fun i hi=>?_
 have h1:bY (gU m r c d) (nP m r c d) i t=bY c d i (pv (bK m r (bY c d) c).2.1 t):=pu _ hi ht
 rw[h1]
theorem agy {m:Int} {r c:Nat} {d:List Int} (bx:ct m=true) (hl:d.length=r*c) (hd:eX m d):LI m c (gU m r c d) (tn (bY c (sA m r c d))):=by
 have hM:=Ab hl hd
 have R:=y9 bx hM c (Nat.le_refl c)
 have I:=oq (eF bx) hM c
 refine VQ fun t ht=>⟨_,R.lt t ht,fun b hb=>?_⟩
 have h2:tn (bY c (sA m r c d)) (pv (bK m r (bY c d) c).2.1 t) b=(bK m r (bY c d) c).1 b (pv (bK m r (bY c d) c).2.1 t):=pu _ hb (R.lt t ht)
 rw[h2]
 unfold qn
 by_cases h:b=t
 ·rw[if_pos h,h,R.one t ht]
 ·rw[if_neg h,R.bH t ht b (Nat.lt_of_lt_of_le hb I.l) h]
theorem aaD (c p:Nat) (l:List Int) (a v j:Nat):bY c l (a*p+v) j=bY (p*c) l a (v*c+j):=by
 unfold bY
 congr 1
 rw[Nat.add_mul,Nat.mul_assoc,Nat.add_assoc]
def lN (m:Int) (l:List bh) (D:List Int):Nat->Nat->Nat->Int
 |0,_=>fun _=>1
 |i+1,u=>uY m (lN m l D i (u/(D.getD i 0).toNat)) (l.getD i dZ) (u%(D.getD i 0).toNat)
def rL:List bh->aU
 |[]=>fun _ _=>1
 |s::l=>fun t w=>sm s.2.2.1.toNat (fun j=>w5 s (w/br (bf l)) t j*rL l j (w%br (bf l)))
theorem abq {m:Int} {l:List bh} {D:List Int} {n:Nat}:∀i,i<=D.length->qJ m l (cP D n) i=lN m l D i (n/aM D i)
 |0,_=>rfl
 |i+1,hi=>by
  show uY m (qJ m l (cP D n) i) _ _=uY m (lN m l D i (n/aM D (i+1)/(D.getD i 0).toNat)) _ _
  rw[abq i (by omega),I6 (by omega),Nat.div_div_eq_div_mul,lY (show i<D.length by omega),Nat.mul_comm]
  rfl
theorem El {m:Int} (hm:dO m) (l:List bh) (D:List Int):∀i u j,fk m (lN m l D i u j)
 |0,_,_=>by have:=hm.1;exact⟨by show(0:Int)<=1;decide,by show(1:Int)<m;omega⟩
 |i+1,_,_=>Mv hm _ _ _
theorem ZX {m:Int} {l:List bh} {D:List Int} {i u v j:Nat} (hv:v<(D.getD i 0).toNat):
  bV m (lN m l D (i+1) (u*(D.getD i 0).toNat+v) j) (sm (l.getD i dZ).1.toNat (fun t=>lN m l D i u t*w5 (l.getD i dZ) v t j)):=by
 show bV m (uY m (lN m l D i ((u*(D.getD i 0).toNat+v)/(D.getD i 0).toNat)) _ ((u*(D.getD i 0).toNat+v)%(D.getD i 0).toNat) j) _
 rw[I7 hv,I8 hv]
 exact aeE _ _ _ _
theorem ZW {m:Int} {l l':List bh} {D:List Int}:∀i,(∀k,k<i->l.getD k dZ=l'.getD k dZ)->lN m l D i=lN m l' D i
 |0,_=>rfl
 |i+1,h=>by
  funext u
  show uY m (lN m l D i _) _ _=uY m (lN m l' D i _) _ _
  rw[ZW i (fun k hk=>h k (by omega)),h i (by omega)]
def oz (m:Int) (l:List bh) (n:Nat):Int:=lN m l (bf l) l.length n 0
theorem L9 {m:Int} {l:List bh} (n:Nat):m5 m l (cP (bf l) n)=oz m l n:=by
 unfold m5 oz
 rw[abq l.length (by rw[gy];exact Nat.le_refl _),<-gy l,nA,Nat.div_one]
structure Ch (m:Int) (D:List Int) (L:List bh):Prop where
 fit:MG m L
 nN:bf L=D
 len:1<=L.length
 fst:(L.getD 0 dZ).1=1
 lst:(L.getD (L.length - 1) dZ).2.2.1=1
theorem Ch.left {m:Int} {D:List Int} {L:List bh} (h:Ch m D L):∀{k:Nat},k<L.length->(L.getD k dZ).1.toNat=dk L k
 |0,_=>by rw[h.fst];rfl
 |k+1,hk=>by rw[h.fit.2 k hk];rfl
theorem Ch.Xg {m:Int} {D:List Int} {L:List bh} (h:Ch m D L):D.length=L.length:=by rw[<-h.nN];exact gy L
theorem Ch.last {m:Int} {D:List Int} {L:List bh} (h:Ch m D L):dk L L.length=1:=by
 have:=h.len
 have e:L.length=L.length - 1+1:=by omega
 rw[e]
 show(L.getD (L.length - 1) dZ).2.2.1.toNat=1
 rw[h.lst]
 rfl
theorem aeH (L:List bh) (k:Nat):br (bf (L.drop k))=aM (bf L) k:=by
 unfold aM bf
 rw[List.map_drop]
theorem aeI {L:List bh} {k:Nat} (hk:k<L.length):L.drop k=L.getD k dZ::L.drop (k+1):=by
 rw[List.drop_eq_getElem_cons hk]
 congr 1
 rw[List.getD_eq_getElem?_getD,List.getElem?_eq_getElem hk]
 rfl
theorem ang {m:Int} {D:List Int} {L:List bh} (h:Ch m D L) {i t v w:Nat} (hi:i<L.length) (hw:w<aM D (i+1)):
  rL (L.drop i) t (v*aM D (i+1)+w)=sm (dk L (i+1)) (fun j=>w5 (L.getD i dZ) v t j*rL (L.drop (i+1)) j w):=by
 rw[aeI hi]
 show sm _ (fun j=>w5 (L.getD i dZ) ((v*aM D (i+1)+w)/br (bf (L.drop (i+1)))) t j*rL (L.drop (i+1)) j ((v*aM D (i+1)+w)%br (bf (L.drop (i+1)))))=_
 rw[aeH,h.nN,I7 hw,I8 hw]
 rfl
theorem Ch.split {m:Int} {D:List Int} {L:List bh} (h:Ch m D L):∀(q i:Nat),i+q=L.length->∀u w,w<aM D i->
  bV m (lN m L D L.length (u*aM D i+w) 0) (sm (dk L i) (fun t=>lN m L D i u t*rL (L.drop i) t w))
 |0,i,hi,u,w,hw=>by
  have hi:i=L.length:=hi
  subst hi
  have e:aM D L.length=1:=by rw[<-h.Xg];exact nA D
  rw[e] at hw⊢
  have:w=0:=by omega
  subst this
  rw[h.last,List.drop_length,Nat.mul_one,Nat.add_zero]
  refine Db ?_
  show _=0+_*1
  rw[Int.mul_one,Int.zero_add]
 |q+1,i,hi,u,w,hw=>by
  have eY:i<L.length:=by omega
  have ih:=Ch.split h q (i+1) (by omega)
  rw[lY (by rw[h.Xg];exact eY)] at hw⊢
  have hP:0<aM D (i+1):=by
   rcases Nat.eq_zero_or_pos (aM D (i+1)) with h0|h0
   ·rw[h0,Nat.mul_zero] at hw;omega
   ·exact h0
  have hv:w/aM D (i+1)<(D.getD i 0).toNat:=Nat.div_lt_of_lt_mul (by rw[Nat.mul_comm];exact hw)
  have hr:w%aM D (i+1)<aM D (i+1):=Nat.mod_lt _ hP
  have ew:w=w/aM D (i+1)*aM D (i+1)+w%aM D (i+1):=by rw[Nat.mul_comm];exact(Nat.div_add_mod _ _).symm
  generalize w/aM D (i+1)=v at hv ew
  generalize w%aM D (i+1)=w' at hr ew
  subst ew
  have e:u*((D.getD i 0).toNat*aM D (i+1))+(v*aM D (i+1)+w')=(u*(D.getD i 0).toNat+v)*aM D (i+1)+w':=by
   rw[Nat.add_mul,Nat.mul_assoc,Nat.add_assoc]
  rw[e]
  refine(ih _ _ hr).trans ?_
  refine(nO fun j _=>bV.mul (ZX hv) (bV.refl _ _)).trans (Db ?_)
  rw[h.left eY,<-Kd]
  exact lV fun t _=>by rw[ang h eY hr]
def KC (m:Int) (L:List bh) (D:List Int) (i:Nat):aU:=fun u w=>lN m L D L.length (u*aM D i+w) 0
theorem Ch.uT {m:Int} {D:List Int} {L:List bh} (h:Ch m D L) (bx:ct m=true) {i:Nat} (hi:i<=L.length) (N:Nat):(bK m N (KC m L D i) (aM D i)).2.1.length<=dk L i:=
 anm bx (fun _ _ _ _=>El (eF bx) _ _ _ _ _) fun u _ w hw=>Ch.split h (L.length - i) i (by omega) u w hw
def fb (D:List Int):Nat->Nat
 |0=>1
 |i+1=>fb D i*(D.getD i 0).toNat
theorem head_tail (D:List Int):∀i,i<=D.length->fb D i*aM D i=br D
 |0,_=>by rw[zt];exact Nat.one_mul _
 |i+1,hi=>by
  rw[<-head_tail D i (by omega),lY (show i<D.length by omega),<-Nat.mul_assoc]
  rfl
end Go.Am
end
section
namespace Go.Am
def kv (D A:List Int) (i:Nat):aU:=bY (aM D i) A
structure sa (m:Int) (D A:List Int) (i:Nat) (st:jL):Prop where
 c:r9 m D i st
 b4:st.1<=4
 val:∀u,u<fb D i->∀w,w<aM D i->bV m (kv D A i u w) (sm st.1 (fun t=>lN m st.2.2 D i u t*bY (aM D i) st.2.1 t w))
 li:LI m (fb D i) st.1 (lN m st.2.2 D i)
 rk:∀k,k<i->(bK m (fb D (k+1)) (kv D A (k+1)) (aM D (k+1))).2.1.length=((st.2.2.getD k dZ).2.2.1).toNat
theorem NK {l l':List bh} {k:Nat} (h:k<l.length):(l++l').getD k dZ=l.getD k dZ:=by
 rw[List.getD_eq_getElem?_getD,List.getD_eq_getElem?_getD,List.getElem?_append_left h]
theorem Yi {l:List bh} {s:bh} {k:Nat} (h:l.length=k):(l++[s]).getD k dZ=s:=by
 rw[List.getD_eq_getElem?_getD,List.getElem?_append_right (by omega),h,Nat.sub_self]
 rfl
theorem UG {d u N:Nat} (hu:u<N*d):∃u' v,u=u'*d+v/\u'<N/\v<d:=by
 have hd:0<d:=by
  rcases Nat.eq_zero_or_pos d with h|h
  ·rw[h,Nat.mul_zero] at hu;omega
  ·exact h
 exact⟨u/d,u%d,by rw[Nat.mul_comm];exact(Nat.div_add_mod _ _).symm,Nat.div_lt_of_lt_mul (by rw[Nat.mul_comm];exact hu),Nat.mod_lt _ hd⟩
theorem Vl {m:Int} {D A:List Int} (h:ma m D A) {i:Nat} (hi:i<=D.length):de m (fb D i) (aM D i) (kv D A i):=
 Ab (by rw[h.len,head_tail D i hi]) h.el
theorem UD {m:Int} {D:List Int} {l:List bh} {a k i u v z:Nat} {fa:List Int} (hl:l.length=i) (hv:v<(D.getD i 0).toNat):
  bV m (lN m (l++[((a:Int),D.getD i 0,(k:Int),fa)]) D (i+1) (u*(D.getD i 0).toNat+v) z) (sm a (fun t=>lN m l D i u t*bY k fa (t*(D.getD i 0).toNat+v) z)):=by
 refine(ZX hv).trans (Db ?_)
 rw[Yi hl,ZW (l:=l++[((a:Int),D.getD i 0,(k:Int),fa)]) (l':=l) i (fun q hq=>NK (by omega))]
 rfl
theorem sa.next {m:Int} {D A:List Int} (h:ma m D A) (yf:∀x∈D,x<=3) (hn:D.length<=4) {i:Nat} (hi:i<D.length - 1)
  (hr:(bK m (fb D (i+1)) (kv D A (i+1)) (aM D (i+1))).2.1.length<=4) {st:jL} (I:sa m D A i st):Ak D i st=true/\cK m D i st<=4/\sa m D A (i+1) (sj m D i st):=by
 have hi':i<D.length:=by omega
 have h3:(D.getD i 0).toNat<=3:=by have:=yf _ (jN hi');omega
 have dM:=ld.rc h (by omega) I.c.s
 have bx:=h.pr
 have gh:Ak D i st=true:=by
  refine decide_eq_true ⟨Nat.le_trans (Nat.mul_le_mul I.b4 h3) (by decide),?_⟩
  have cf:∀q i,i+q=D.length->1<=i->aM D i<=3^q:=by
   intro q
   induction q with
   |zero=>intro i hi _;have:i=D.length:=hi;subst this;rw[nA];decide
   |succ q ih=>
    intro i hi h1
    rw[lY (by omega),Nat.pow_succ,Nat.mul_comm]
    have h3:(D.getD i 0).toNat<=3:=by have:=yf _ (jN (l:=D) (i:=i) (by omega));omega
    exact Nat.mul_le_mul (ih (i+1) (by omega) (by omega)) h3
  have:=cf (D.length - (i+1)) (i+1) (by omega) (by omega)
  have h4:3^(D.length - (i+1))<=3^3:=Nat.pow_le_pow_right (by decide) (by omega)
  have:(3:Nat)^3=27:=by decide
  omega
 have hN:fb D (i+1)=fb D i*(D.getD i 0).toNat:=rfl
 have hT:aM D i=(D.getD i 0).toNat*aM D (i+1):=lY hi'
 have ye:=I.c.s.gL
 have acY:∀u,u<fb D (i+1)->∀w,w<aM D (i+1)->bV m (kv D A (i+1) u w) (sm (cK m D i st) (fun t=>lN m (sj m D i st).2.2 D (i+1) u t*bY (aM D (i+1)) (sj m D i st).2.1 t w)):=by
  intro u hu w hw
  obtain⟨u',v,rfl,kG,hv⟩:=UG hu
  have e1:kv D A (i+1) (u'*(D.getD i 0).toNat+v) w=kv D A i u' (v*aM D (i+1)+w):=by
   unfold kv
   rw[aaD,<-hT]
  rw[e1]
  have hw2:v*aM D (i+1)+w<aM D i:=by rw[hT];exact uG hv hw
  refine(I.val u' kG _ hw2).trans ?_
  have e2:∀t,t<st.1->bV m (bY (aM D i) st.2.1 t (v*aM D (i+1)+w)) (sm (cK m D i st) (fun z=>bY (cK m D i st) (nP m (st.1*(D.getD i 0).toNat) (aM D (i+1)) st.2.1) (t*(D.getD i 0).toNat+v) z*bY (aM D (i+1)) (sj m D i st).2.1 z w)):=by
   intro t ht
   rw[hT,<-aaD]
   exact agC bx dM I.c.s.el (uG ht hv) hw
  refine(nO fun t ht=>bV.mul (bV.refl _ _) (e2 t ht)).trans ?_
  rw[Kd]
  exact nO fun z _=>bV.mul (UD ye hv).symm (bV.refl _ _)
 have ZZ:LI m (fb D (i+1)) (cK m D i st) (lN m (sj m D i st).2.2 D (i+1)):=by
  refine adi I.li (agx bx dM I.c.s.el) fun a ha=>?_
  obtain⟨t,v,rfl,ht,hv⟩:=UG ha
  refine⟨t,fun u=>u*(D.getD i 0).toNat+v,fun t=>t*(D.getD i 0).toNat+v,ht,rfl,fun u hu=>uG hu hv,fun u hu b hb=>UD ye hv⟩
 have hk:(bK m (fb D (i+1)) (kv D A (i+1)) (aM D (i+1))).2.1.length=cK m D i st:=
  anj bx (Vl h (by omega)) ZZ (agy bx dM I.c.s.el) acY
 have DS:cK m D i st<=4:=by omega
 refine⟨gh,DS,r9.next h hi I.c gh (by omega),DS,acY,ZZ,fun k cW=>?_⟩
 by_cases yl:k<i
 ·rw[I.rk k yl]
  show _=((st.2.2++[_]).getD k dZ).2.2.1.toNat
  rw[NK (by omega)]
 ·have:k=i:=by omega
  subst this
  rw[hk]
  show _=((st.2.2++[_]).getD k dZ).2.2.1.toNat
  rw[Yi ye]
  rfl
theorem sa.run {m:Int} {D A:List Int} (h:ma m D A) (yf:∀x∈D,x<=3) (hn:D.length<=4)
  (hr:∀i,i<D.length - 1->(bK m (fb D (i+1)) (kv D A (i+1)) (aM D (i+1))).2.1.length<=4):∀(es:List Nat) (i:Nat) (st:jL),i+es.length=D.length - 1->sa m D A i st->
  ∃Km,eI (ra m D) i st es=some Km/\sa m D A (D.length - 1) Km
 |[],i,st,hi,I=>by
  rw[List.length_nil,Nat.add_zero] at hi
  subst hi
  exact⟨st,rfl,I⟩
 |e::es,i,st,hi,I=>by
  rw[List.length_cons] at hi
  obtain⟨h1,h2,h3⟩:=sa.next h yf hn (i:=i) (by omega) (hr i (by omega)) I
  simp only[eI]
  rw[show ra m D i st e=some (sj m D i st) by unfold ra;rw[if_pos h1,if_pos (by omega)]]
  exact sa.run h yf hn hr es (i+1) _ (by omega) h3
theorem Jl {m:Int} {D A:List Int} (h:ma m D A) {st:jL} (I:r9 m D (D.length - 1) st):bf (ko D st)=D:=by
 have l1:=h.l1
 unfold ko bf
 rw[List.map_append]
 show bf st.2.2++[D.getD (D.length - 1) 0]=_
 rw[I.Ay]
 have:=List.take_add_one (l:=D) (i:=D.length - 1)
 rw[show D.length - 1+1=D.length by omega,List.take_length,nb (by omega)] at this
 exact this.symm
theorem anM {m:Int} {D A:List Int} (h:ma m D A) (yf:∀x∈D,x<=3) (hn:D.length<=4)
  (hr:∀i,i<D.length - 1->(bK m (fb D (i+1)) (kv D A (i+1)) (aM D (i+1))).2.1.length<=4):
  ∃L,EP m D A=((m,L),true)/\e8 (m,L)=true/\bf L=D/\(∀n,n<br D->oz m L n=A.getD n 0)/\
   ∀k,k<D.length - 1->(bK m (fb D (k+1)) (kv D A (k+1)) (aM D (k+1))).2.1.length=((L.getD k dZ).2.2.1).toNat:=by
 have l1:=h.l1
 have hm:=eF h.pr
 have I0:sa m D A 0 (1,A,[]):=by
  refine⟨Pf h,by show 1<=4;decide,fun u hu w hw=>Db ?_,VQ fun t ht=>⟨0,Nat.one_pos,fun b hb=>?_⟩,fun k hk=>absurd hk (Nat.not_lt_zero k)⟩
  ·have hu:u<1:=hu
   have:u=0:=by omega
   subst this
   show kv D A 0 0 w=0+1*kv D A 0 0 w
   omega
  ·have:t=0:=by have ht:t<1:=ht;omega
   have aY:b=0:=by have hb:b<1:=hb;omega
   subst this aY
   rfl
 obtain⟨st,h1,I⟩:=sa.run h yf hn hr (List.range (D.length - 1)) 0 _ (by rw[List.length_range,Nat.zero_add]) I0
 have ye:=I.c.s.gL
 refine⟨ko D st,?_,r9.fin h I.c,Jl h I.c,fun n bj=>?_,fun k hk=>?_⟩
 ·unfold EP
  rw[h1]
  rfl
 ·have hT:aM D (D.length - 1)=(D.getD (D.length - 1) 0).toNat:=by
   rw[lY (by omega),show D.length - 1+1=D.length by omega,nA,Nat.mul_one]
  have hH:fb D (D.length - 1)*(D.getD (D.length - 1) 0).toNat=br D:=by rw[<-hT,head_tail D _ (by omega)]
  rw[<-hH] at bj
  obtain⟨u,v,rfl,hu,hv⟩:=UG bj
  have e1:A.getD (u*(D.getD (D.length - 1) 0).toNat+v) 0=kv D A (D.length - 1) u v:=by
   unfold kv bY
   rw[hT]
  have e2:oz m (ko D st)=fun n=>lN m (ko D st) D D.length n 0:=by
   unfold oz
   rw[Jl h I.c]
   have:(ko D st).length=D.length:=by rw[<-Jl h I.c,gy];rw[Jl h I.c]
   rw[this]
  rw[e1,e2]
  refine aeO ?_ (El hm _ _ _ _ _) (Vl h (by omega) u hu v (by rw[hT];exact hv))
  refine bV.trans ?_ (I.val u hu v (by rw[hT];exact hv)).symm
  have e3:D.length=D.length - 1+1:=by omega
  show bV m (lN m (ko D st) D D.length _ 0) _
  rw[show lN m (ko D st) D D.length=lN m (ko D st) D (D.length - 1+1) by rw[<-e3]]
  refine(UD (k:=1) ye hv).trans (Db (lV fun t _=>?_))
  congr 1
  unfold bY
  rw[hT,Nat.mul_one,Nat.add_zero]
 ·rw[I.rk k hk]
  unfold ko
  rw[NK (by omega)]
end Go.Am
end
section
namespace Go.Am
def Bd (L:List bh):Prop:=∀k,k<L.length->(L.getD k dZ).1.toNat<=4/\(L.getD k dZ).2.1.toNat<=3/\(L.getD k dZ).2.2.1.toNat<=4
theorem afr {l l':List Int} (hl:l.length=l'.length) (h:∀k,k<l.length->l.getD k 0=l'.getD k 0):l=l':=
 List.ext_getElem hl fun k h1 h2=>by
  have:=h k h1
  rw[List.getD_eq_getElem?_getD,List.getD_eq_getElem?_getD,List.getElem?_eq_getElem h1,List.getElem?_eq_getElem h2] at this
  exact this
structure Two (m:Int) (D:List Int) (L L':List bh) (i:Nat):Prop where
 len:L'.length=L.length
 ch:Ch m D L'
 bd:∀k,k<=L.length->k≠i+1->dk L' k=dk L k
 val:∀k,k<=L.length->k≠i+1->∀u j,j<dk L k->lN m L' D k u j=lN m L D k u j
 b4:Bd L'
structure FwI (m:Int) (D:List Int) (l L:List bh) (i:Nat):Prop where
 ch:Ch m D L
 len:L.length=l.length
 b4:Bd L
 val:∀u,lN m L D l.length u 0=lN m l D l.length u 0
 li:∀k,k<=i->LI m (fb D k) (dk L k) (lN m L D k)
structure BwI (m:Int) (D:List Int) (l L:List bh) (i:Nat):Prop where
 f:FwI m D l L (l.length - 1)
 ri:∀k,i<k->k<=l.length->LI m (aM D k) (dk L k) (tn (rL (L.drop k)))
theorem Ch.of {m:Int} {l:List bh} (h:e8 (m,l)=true):Ch m (bf l) l:=by
 obtain⟨_,⟨h1,h8⟩,_,hb,hs⟩:=vG h
 refine⟨Iq h,rfl,h1,?_,?_⟩
 ·obtain⟨p,M,e,_⟩:=hs 0 (by omega)
  rw[e]
  rfl
 ·obtain⟨p,M,e,_⟩:=hs (l.length - 1) (by omega)
  have e1:l.length - 1+1=l.length:=by omega
  rw[e,e1,hb]
  rfl
theorem Ch.ok {m:Int} {D:List Int} {L:List bh} (h:Ch m D L) (bx:ct m=true) (h8:L.length<=8) (hp:cV D<=4096):e8 (m,L)=true:=by
 have dr:eI (mr m) 0 1 L=some 1:=by
  refine(L8 L 0 1 1).2 ⟨fun k hk=>⟨h.fit.1 k hk,?_⟩,?_⟩
  ·cases k with
   |zero=>exact h.fst
   |succ k=>exact h.fit.2 k hk
  ·have:=h.len
   rw[show L.length=L.length - 1+1 by omega]
   exact h.lst.symm
 simp only[e8,bx,dr,h.nN,Bool.true_and]
 rw[decide_eq_true ⟨h.len,h8⟩,decide_eq_true hp]
 rfl
theorem WA {m:Int} {l:List bh} (h:e8 (m,l)=true):ct m=true/\l.length<=8/\cV (bf l)<=4096:=by
 obtain⟨_,h8,hp,_⟩:=vG h
 refine⟨?_,h8.2,hp⟩
 simp only[e8,Bool.and_eq_true] at h
 exact h.1
end Go.Am
end
section
namespace Go.Am
theorem ajr {p:Int} {r c:Nat} {M:aU} (bx:ct p=true) (hr:r<=64) (hc:c<=64) (hM:de p r c M):kN p ((r:Int),(c:Int),aG r c M)=true:=by
 simp only[kN,Bool.and_eq_true,decide_eq_true_eq]
 exact⟨bx,⟨by omega,by omega⟩,⟨by omega,by omega⟩,by rw[j9];push_cast;rfl,anC.2 (nK.2 hM)⟩
theorem ao9 {r c:Nat} {M:aU} (hr:r<=64) (hc:c<=64):Ks ((r:Int),(c:Int),aG r c M)<=1048576:=by
 show(aG r c M).length<=_
 rw[j9]
 have:=Nat.mul_le_mul hr hc
 omega
theorem ank {p:Int} {r c:Nat} {M:aU} (bx:ct p=true) (hr:r<=64) (hc:c<=64) (hM:de p r c M) (e:M=bY c (aG r c M)):
  xq (p,(r:Int),(c:Int),aG r c M)=some ((bK p r M c).2.1.length:Int):=by
 simp only[xq,KX]
 rw[if_pos (ao9 hr hc),if_pos (ajr bx hr hc hM),Rt e]
theorem aa8 {p:Int} {r c:Nat} {A B:aU} (bx:ct p=true) (hA:de p r c A) (hB:de p r c B) (h:∀a,a<r->∀b,b<c->A a b=B a b):(bK p r A c).2.1.length=(bK p r B c).2.1.length:=by
 apply Nat.le_antisymm
 ·exact uT bx hA hB fun x hx=>pN (fun i hi=>vr (mf hi) fun b hb=>by rw[h i hi b hb]) hx
 ·exact uT bx hB hA fun x hx=>pN (fun i hi=>vr (mf hi) fun b hb=>by rw[h i hi b hb]) hx
end Go.Am
end
section
namespace Go.Am
theorem fT {α β:Type} (x:α) (f:α->Option β):(some x).aa f=f x:=by
 have h:∀o:Option α,o=some x->o.aa f=f x:=by intro o h;subst h;rfl
 exact h _ rfl
theorem Mm {α:Type} (x y:α):aC true x y=x:=rfl
theorem Av {α:Type} (x y:α):aC false x y=y:=rfl
theorem agG {m:Int} {L:List bh} (F:MG m L) (h:L.length<=8):xf (m,L)<=131072:=by
 show L.length+(L.map vb).sum<=_
 have cf:∀l:List bh,(∀e∈l,vb e<=8192)->(l.map vb).sum<=l.length*8192:=by
  intro l
  induction l with
  |nil=>intro _;simp
  |cons a l ih=>
   intro hl
   have h1:=hl a List.mem_cons_self
   have h2:=ih fun e he=>hl e (List.mem_cons_of_mem _ he)
   rw[List.map_cons,List.sum_cons,List.length_cons,Nat.add_mul]
   omega
 have:=cf L fun e he=>by
  obtain⟨k,hk⟩:=List.mem_iff_getElem?.1 he
  have hl:=wG hk
  obtain⟨b,p,c,d,e1,h1,h2,h3,h4,_⟩:=abY (F.1 k hl)
  have e2:=getD_some dZ hl
  rw[hk] at e2
  injection e2 with e2
  rw[<-e2] at e1
  subst e1
  show d.length<=_
  have q1:b*p<=32*8:=Nat.mul_le_mul h1 h3.2
  have q2:b*p*c<=(32*8)*32:=Nat.mul_le_mul q1 h2
  omega
 have h2:L.length*8192<=8*8192:=Nat.mul_le_mul_right _ h
 omega
theorem JB {m:Int} {L:List bh} (h:e8 (m,L)=true):xf (m,L)<=1048576:=by
 have:=agG (Iq h) (WA h).2.1
 omega
theorem alX {m:Int} {L:List bh} (h:e8 (m,L)=true):pK (m,L)=some true:=by
 show(if _ then some (e8 (m,L)) else none)=_
 rw[if_pos (JB h),h]
theorem adQ {m:Int} {L:List bh} (h:e8 (m,L)=true):xm (m,L)=some (mg L):=by
 simp only[xm]
 rw[if_pos (JB h),if_pos h]
theorem Ve {m:Int} {L:List bh} (h:e8 (m,L)=true):tp (m,L)=some (ic m L):=by
 simp only[tp,KV]
 rw[if_pos (JB h),if_pos h]
theorem apo {m:Int} {L L':List bh} (hd:bf L'=bf L) (hv:∀n,n<br (bf L)->oz m L' n=oz m L n):ic m L'=ic m L:=by
 have hl:L'.length=L.length:=by rw[<-gy,<-gy,hd]
 unfold ic
 rw[hl]
 congr 2
 ·rw[hd]
  refine jl fun n hn=>?_
  have e1:=L9 (m:=m) (l:=L') n
  rw[hd] at e1
  rw[e1,L9,hv n hn]
theorem Kz {m:Int} {L:List bh} (h:e8 (m,L)=true):(ic m L).1.length=L.length/\(ic m L).2.1.length=L.length/\(ic m L).2.2.length=br (bf L)/\L.length<=8/\br (bf L)<=4096:=by
 obtain⟨_,⟨_,hp⟩,h8,_⟩:=HY h
 rw[gy] at h8
 exact⟨fR _ _,gy L,fR _ _,h8,hp⟩
theorem an0 (t:List Int×List Int×List Int) (h1:t.1.length<=1048576) (h2:t.2.1.length<=1048576) (h3:t.2.2.length<=1048576):zR (t,t)=some true:=by
 obtain⟨a,b,c⟩:=t
 simp only[zR,FN]
 rw[Pc a h1]
 simp only[fT,Mm]
 rw[Pc b h2]
 simp only[fT,Mm]
 rw[Pc c h3]
 rfl
theorem EW {n k:Nat} (h:k<n):(dG n).getD k 0=(k:Int):=by
 unfold dG
 rw[List.getD_eq_getElem?_getD,mT _ h]
 rfl
theorem aou {l:List Int} (h:∀k,k+1<l.length->l.getD k 0<=l.getD (k+1) 0):∀k,k<l.length->nw k l=l
 |0,_=>rfl
 |k+1,hk=>by
  unfold nw
  rw[if_neg (by have:=h k hk;omega)]
theorem acb {l:List Int} (h:∀k,k+1<l.length->l.getD k 0<=l.getD (k+1) 0):∀i,i<=l.length->fh l i=l
 |0,_=>rfl
 |i+1,hi=>by
  show nw i (fh l i)=l
  rw[acb h i (by omega),aou h i (by omega)]
theorem aoJ (n:Nat):fh (dG n) n=dG n:=by
 have hl:(dG n).length=n:=fR _ _
 have:=acb (l:=dG n) (fun k hk=>by rw[hl] at hk;rw[EW (by omega),EW hk];omega) n (by rw[hl];exact Nat.le_refl n)
 exact this
theorem adG {D:List Int} (hl:D.length<=12) (hd:∀x∈D,1<=x/\x<=8):nM (dG D.length) D=true:=by
 have hs:(dG D.length).length=D.length:=fR _ _
 simp only[nM,Bool.and_eq_true,decide_eq_true_eq]
 refine⟨by omega,hs,fun j hj=>⟨?_,hd _ (jN (by omega)),?_⟩⟩
 ·rw[EW (by omega)];omega
 ·rw[EW (by omega)]
  intro hm
  obtain⟨k,hk,e⟩:=List.mem_iff_getElem.1 hm
  rw[List.length_take,hs] at hk
  rw[List.getElem_take] at e
  have e2:=EW (n:=D.length) (k:=k) (by omega)
  rw[List.getD_eq_getElem?_getD,List.getElem?_eq_getElem (by omega)] at e2
  have e2:(dG D.length)[k]'(by omega)=(k:Int):=e2
  rw[e2] at e
  omega
theorem anx {p:Int} (h:ct p=true):jk (2,p,0)=true:=by
 have:jk (2,p,0)=(ct p&&decide ((0:Int)=0)):=rfl
 rw[this,h]
 rfl
theorem apm {p:Int} {L D A:List Int} (hp:ct p=true) (sG:nM L D=true) (hP:br D<=4096) (hA:A.length=br D) (ha:eX p A):jm (2,p,0) (L,D,A)=true:=by
 have hd:=CT sG
 have hI:=uR (D:=D) fun x hx=>(hd x hx).1
 have ht:iE L D=cV D:=if_pos ⟨sG,by omega⟩
 simp only[jm,Bool.and_eq_true,decide_eq_true_eq]
 refine⟨anx hp,by rw[ht,hI];omega,?_,?_⟩
 ·rw[ht,hI,hA]
  show _=(br D:Int)*1
  omega
 ·refine List.all_eq_true.2 fun x hx=>decide_eq_true ?_
  have h1:=ha x hx
  have h2:eH (2,p,0)=p - 1:=rfl
  rw[h2]
  exact⟨h1.1,by have:=h1.2;omega⟩
theorem Wt {p:Int} {A:List Int} {off:Nat->Nat}:∀n,n<=A.length->(∀k,k<n->off k=k)->j4 (2,p,0) A off n=A.take n
 |0,_,_=>rfl
 |n+1,hn,h=>by
  unfold j4
  rw[Wt n (by omega) fun k hk=>h k (by omega),h n (by omega),show bZ (2,p,0)=1 from rfl,Nat.mul_one]
  unfold gu
  have bj:n<A.length:=by omega
  have e1:A.take (n+1)=A.take n++[A[n]]:=by rw[List.take_add_one,List.getElem?_eq_getElem bj];rfl
  rw[e1,List.drop_eq_getElem_cons bj]
  rfl
theorem aoT {p:Int} {D A:List Int} (ht:jm (2,p,0) (dG D.length,D,A)=true):qN (2,p,0) (dG D.length,D,A)=(dG D.length,D,A):=by
 have sG:=(Kx ht).1
 have hs:(dG D.length).length=D.length:=fR _ _
 have hS:fh (dG D.length) (dG D.length).length=dG D.length:=by rw[hs];exact aoJ _
 have I:=gJ.mk' sG (S:=dG D.length) hS.symm
 obtain⟨_,_,_,_,hA,hG,_⟩:=Ky ht
 have Y3:dB (dG D.length) D (dG D.length)=D:=by
  unfold dB
  rw[hs]
  refine afr (fR _ _) fun k hk=>?_
  rw[fR] at hk
  rw[List.getD_eq_getElem?_getD,mT _ hk]
  show D.getD (c8 (dG D.length) ((dG D.length).getD k 0)) 0=_
  rw[wQ I.nL (by rw[hs];exact hk)]
 have A9:∀k,k<br D->jh (dG D.length) D (dG D.length) k=k:=fun k hk=>by
  rw[<-I.off k]
  have e:uO (dG D.length) D (dG D.length) k=cP D k:=by
   unfold uO cP
   refine jl fun q hq=>?_
   rw[Y3,wQ I.nL (by rw[hs];exact hq)]
  rw[e,Q9 hG hk D.length (Nat.le_refl _),nA,Nat.div_one]
 have e:qN (2,p,0) (dG D.length,D,A)=uP (2,p,0) (dG D.length,D,A) (dG D.length):=by
  unfold qN
  rw[if_pos ht]
  show uP _ _ (fh (dG D.length) (dG D.length).length)=_
  rw[hS]
 rw[e]
 unfold uP
 have Iz:A.length=br D:=by rw[hA,show bZ (2,p,0)=1 from rfl,Nat.mul_one]
 show(dG D.length,dB (dG D.length) D (dG D.length),j4 (2,p,0) A (jh (dG D.length) D (dG D.length)) (br (dB (dG D.length) D (dG D.length))))=_
 rw[Y3,Wt _ (by omega) A9,<-Iz,List.take_length]
structure DC (p:Int) (L:List bh):Prop where
 ok:e8 (p,L)=true
 b4:Bd L
 n4:L.length<=4
theorem DC.pr {p:Int} {L:List bh} (h:DC p L):ct p=true:=(WA h.ok).1
theorem DC.d3 {p:Int} {L:List bh} (h:DC p L):∀x∈bf L,1<=x/\x<=3:=fun x hx=>by
 obtain⟨hG,_⟩:=HY h.ok
 obtain⟨k,hk,e⟩:=List.mem_iff_getElem.1 hx
 have e2:(bf L).getD k 0=x:=by rw[List.getD_eq_getElem?_getD,List.getElem?_eq_getElem hk];exact e
 rw[HX] at e2
 rw[gy] at hk
 have:=(h.b4 k hk).2.1
 have:=(hG.2 x hx).1
 omega
theorem DC.len {p:Int} {L:List bh} (h:DC p L):1<=L.length:=(Ch.of h.ok).len
theorem Vr {p:Int} (hp:ct p=true) (L:List bh) (n:Nat):fk p (oz p L n):=El (eF hp) _ _ _ _ _
theorem Fp {m:Int} {L:List bh}:ic m L=(dG (bf L).length,bf L,bP (br (bf L)) (oz m L)):=by
 unfold ic
 rw[gy]
 congr 2
 exact jl fun n _=>L9 n
theorem RM {p:Int} {n:Nat} {f:Nat->Int} (h:∀k,fk p (f k)):eX p (bP n f):=fun x hx=>by
 unfold bP at hx
 obtain⟨k,_,rfl⟩:=List.mem_map.1 hx
 exact h k
theorem DC.Vd {p:Int} {L:List bh} (h:DC p L):jm (2,p,0) (ic p L)=true:=by
 have n4:=h.n4
 obtain⟨_,_,_,_,hP⟩:=Kz h.ok
 rw[Fp]
 refine apm h.pr (adG (by rw[gy];omega) fun x hx=>?_) hP (fR _ _) (RM fun k=>Vr h.pr L k)
 have:=h.d3 x hx
 omega
theorem DC.da {p:Int} {L:List bh} (h:DC p L):ma p (bf L) (bP (br (bf L)) (oz p L)):=by
 have n4:=h.n4
 have l1:=h.len
 obtain⟨_,_,_,_,hP⟩:=Kz h.ok
 refine⟨h.pr,by rw[gy];exact l1,by rw[gy];omega,fun x hx=>?_,hP,fR _ _,RM fun k=>Vr h.pr L k⟩
 have:=h.d3 x hx
 omega
theorem DC.ie {p:Int} {L:List bh} (h:DC p L) {i:Nat} (hi:i<=L.length):
  (bK p (fb (bf L) i) (kv (bf L) (bP (br (bf L)) (oz p L)) i) (aM (bf L) i)).2.1.length=(bK p (fb (bf L) i) (KC p L (bf L) i) (aM (bf L) i)).2.1.length:=by
 refine aa8 h.pr (Vl h.da (by rw[gy];exact hi)) (fun _ _ _ _=>El (eF h.pr) _ _ _ _ _) fun u hu w hw=>?_
 have hn:u*aM (bf L) i+w<br (bf L):=by
  rw[<-head_tail (bf L) i (by rw[gy];exact hi)]
  exact uG hu hw
 unfold kv bY
 rw[List.getD_eq_getElem?_getD,mT _ hn]
 rfl
theorem DC.ad3 {p:Int} {L:List bh} (h:DC p L):∃L',xo (p,ic p L)=some ((p,L'),true)/\e8 (p,L')=true/\bf L'=bf L/\ic p L'=ic p L/\
  ∀k,k<L.length - 1->(bK p (fb (bf L) (k+1)) (KC p L (bf L) (k+1)) (aM (bf L) (k+1))).2.1.length=((L'.getD k dZ).2.2.1).toNat:=by
 have n4:=h.n4
 have l1:=h.len
 have hC:=Ch.of h.ok
 have hd:(bf L).length=L.length:=gy L
 obtain⟨t1,t2,t3,t8,hP⟩:=Kz h.ok
 have hr:∀i,i<(bf L).length - 1->(bK p (fb (bf L) (i+1)) (kv (bf L) (bP (br (bf L)) (oz p L)) (i+1)) (aM (bf L) (i+1))).2.1.length<=4:=fun i hi=>by
  rw[h.ie (by omega)]
  exact Nat.le_trans (hC.uT h.pr (by omega) _) (h.b4 i (by omega)).2.2
 obtain⟨L',e1,e2,e3,e4,e5⟩:=anM h.da (fun x hx=>(h.d3 x hx).2) (by omega) hr
 refine⟨L',?_,e2,e3,apo e3 fun n hn=>?_,fun k hk=>?_⟩
 ·simp only[xo,KU]
  rw[if_pos ⟨by omega,by omega,by omega⟩]
  unfold Ma
  simp only
  rw[if_pos ⟨h.Vd,by omega,by omega⟩]
  have ht:=h.Vd
  rw[Fp] at ht⊢
  rw[aoT ht,e1]
 ·rw[e4 n hn,List.getD_eq_getElem?_getD,mT _ hn]
  rfl
 ·rw[<-h.ie (by omega)]
  exact e5 k (by omega)
theorem adR {L:List bh} {k:Nat} (hk:k<L.length - 1):(mg L).getD k 0=(L.getD k dZ).2.2.1:=by
 unfold mg
 rw[List.getD_eq_getElem?_getD,List.getElem?_map,List.getElem?_take_of_lt hk,getD_some dZ (show k<L.length by omega)]
 rfl
theorem adS (L:List bh):(mg L).length=L.length - 1:=by
 unfold mg
 rw[List.length_map,List.length_take]
 omega
theorem ahZ {p:Int} {L D A:List Int} {k:Nat} (h:jm (2,p,0) (L,D,A)=true) (hl:L.length<=12) (hk:k<br D):zB ((L,D,A),(k:Int))=some (cP D k,true):=by
 obtain⟨_,⟨AO,_⟩,Bi,⟨_,hP⟩,hA,hG,_⟩:=Ky h
 simp only[zB,FF]
 have e1:vj (L,D,A)=some (iE L D):=if_pos ⟨by show L.length<=_;omega,by show D.length<=_;omega⟩
 rw[e1]
 simp only[fT]
 rw[Bi,aR (sx (by omega)),aR (cZ (by omega)),aR (wF (by omega))]
 have e2:zJ (D,(k:Int))=some (cP D k):=by
  simp only[zJ,FD]
  rw[if_pos ⟨hG,by omega,by omega⟩,Int.toNat_natCast]
 rw[e2]
 simp only[fT]
 rw[ku]
 rfl
theorem aev (l:List Int) (n:Int) (h:l.length<=1048576) (hn:0<=n):∃D,zV (l,n)=some D/\(1<=D.length/\D.length<=4)/\∀v∈D,1<=v/\v<=3:=by
 obtain⟨⟨a,b,c⟩,e,hc⟩:=Hr l n h hn
 obtain⟨D,⟨a',b',c'⟩,e2,_,h1,h2⟩:=aoI _ hc
 refine⟨D,?_,h1,h2⟩
 simp only[zV,FQ]
 rw[e]
 simp only[fT]
 rw[e2]
 rfl
theorem ad4 (l:List Int) (n p:Int) (D:List Int) (h:l.length<=1048576) (hn:0<=n) (hp:ct p=true) (hl:1<=D.length/\D.length<=4) (hd:∀v∈D,1<=v/\v<=3):
  ∃L,zU (l,n,p,D)=some (p,L)/\DC p L/\bf L=D:=by
 obtain⟨⟨a,b,c⟩,e,hc⟩:=Hr l n h hn
 obtain⟨L,⟨a',b',c'⟩,e2,_,I⟩:=ad0 _ p D hc hp hl hd
 obtain⟨h1,h2⟩:=I.ok hp hl hd
 refine⟨L,?_,⟨h1,fun k hk=>?_,by rw[<-gy,h2];exact hl.2⟩,h2⟩
 ·simp only[zU,FO]
  rw[e]
  simp only[fT]
  rw[e2]
  rfl
 ·have hF:=Iq h1
  have hb:∀k,k<L.length->(L.getD k dZ).2.2.1.toNat<=4:=fun k hk=>by
   have:=I.b4 (L.getD k dZ) (List.mem_of_getElem? (getD_some dZ hk))
   omega
  refine⟨?_,?_,hb k hk⟩
  ·have hC:=Ch.of h1
   cases k with
   |zero=>rw[hC.fst];decide
   |succ k=>rw[hF.2 k hk];exact hb k (by omega)
  ·rw[<-HX,h2]
   have:=hd _ (jN (l:=D) (i:=k) (by rw[<-h2,gy];exact hk))
   omega
end Go.Am
end
