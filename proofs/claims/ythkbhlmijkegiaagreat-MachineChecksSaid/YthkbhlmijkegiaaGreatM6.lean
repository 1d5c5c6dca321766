/- A part of the proof: conditions of the code, contracts, the plain law. -/
import Derived.Test.YthkbhlmijkegiaaGreatMem
import Derived.Deep.AppendSrc
open Nat (mod ble le_of_ble_eq_true eq_of_beq_eq_true le_refl add_mul zero_add le_trans)
open Bool (and_eq_true or_eq_true)
open List (map_cons length_cons length_append length_take)
open Option (map_none map_some)
open Array (ext')
namespace Go.Am
open Go.Vc
open Go.RowKit (Below)
structure Bx (α:Type) where
 get:α
def iJ {α R:Type} (b:Bx α) (f:α->Option R):Option R:=Bx.casesOn (motive:=fun _=>Option R) b f
theorem XK {α R:Type} (b:Bx α) (f:α->Option R):iJ b f=f b.get:=rfl
structure N8 (α:Type) where
 a0:α
 a1:α
 a2:α
 a3:α
 a4:α
 a5:α
 a6:α
 a7:α
def N8.pr {α:Type} :Nat->Bx (N8 α->α)
 |0=>⟨N8.a0⟩|1=>⟨N8.a1⟩|2=>⟨N8.a2⟩|3=>⟨N8.a3⟩|4=>⟨N8.a4⟩|5=>⟨N8.a5⟩|6=>⟨N8.a6⟩|_=>⟨N8.a7⟩
def N8.put {α:Type} (t:N8 α) (x:α):Nat->N8 α
 |0=>⟨x,t.a1,t.a2,t.a3,t.a4,t.a5,t.a6,t.a7⟩|1=>⟨t.a0,x,t.a2,t.a3,t.a4,t.a5,t.a6,t.a7⟩|2=>⟨t.a0,t.a1,x,t.a3,t.a4,t.a5,t.a6,t.a7⟩|3=>⟨t.a0,t.a1,t.a2,x,t.a4,t.a5,t.a6,t.a7⟩|4=>⟨t.a0,t.a1,t.a2,t.a3,x,t.a5,t.a6,t.a7⟩|5=>⟨t.a0,t.a1,t.a2,t.a3,t.a4,x,t.a6,t.a7⟩|6=>⟨t.a0,t.a1,t.a2,t.a3,t.a4,t.a5,x,t.a7⟩|_=>⟨t.a0,t.a1,t.a2,t.a3,t.a4,t.a5,t.a6,x⟩
def N8.up {α R:Type} :Nat->Bx (N8 α->(α->(α->Option R)->Option R)->(N8 α->Option R)->Option R)
 |0=>⟨fun t f K=>N8.casesOn (motive:=fun _=>Option R) t fun a0 a1 a2 a3 a4 a5 a6 a7=>f a0 fun x=>K ⟨x,a1,a2,a3,a4,a5,a6,a7⟩⟩
 |1=>⟨fun t f K=>N8.casesOn (motive:=fun _=>Option R) t fun a0 a1 a2 a3 a4 a5 a6 a7=>f a1 fun x=>K ⟨a0,x,a2,a3,a4,a5,a6,a7⟩⟩
 |2=>⟨fun t f K=>N8.casesOn (motive:=fun _=>Option R) t fun a0 a1 a2 a3 a4 a5 a6 a7=>f a2 fun x=>K ⟨a0,a1,x,a3,a4,a5,a6,a7⟩⟩
 |3=>⟨fun t f K=>N8.casesOn (motive:=fun _=>Option R) t fun a0 a1 a2 a3 a4 a5 a6 a7=>f a3 fun x=>K ⟨a0,a1,a2,x,a4,a5,a6,a7⟩⟩
 |4=>⟨fun t f K=>N8.casesOn (motive:=fun _=>Option R) t fun a0 a1 a2 a3 a4 a5 a6 a7=>f a4 fun x=>K ⟨a0,a1,a2,a3,x,a5,a6,a7⟩⟩
 |5=>⟨fun t f K=>N8.casesOn (motive:=fun _=>Option R) t fun a0 a1 a2 a3 a4 a5 a6 a7=>f a5 fun x=>K ⟨a0,a1,a2,a3,a4,x,a6,a7⟩⟩
 |6=>⟨fun t f K=>N8.casesOn (motive:=fun _=>Option R) t fun a0 a1 a2 a3 a4 a5 a6 a7=>f a6 fun x=>K ⟨a0,a1,a2,a3,a4,a5,x,a7⟩⟩
 |_=>⟨fun t f K=>N8.casesOn (motive:=fun _=>Option R) t fun a0 a1 a2 a3 a4 a5 a6 a7=>f a7 fun x=>K ⟨a0,a1,a2,a3,a4,a5,a6,x⟩⟩
theorem N8.HR {α R:Type} (i:Nat) (t:N8 α) (f:α->(α->Option R)->Option R) (K:N8 α->Option R):(N8.up i).get t f K=f ((N8.pr i).get t) fun x=>K (t.put x i):=by
 match i with
 |0|1|2|3|4|5|6|_+7=>rfl
theorem N8.jJ {α:Type} (t:N8 α) (x:α):∀(i j:Nat),i<8->j<8->(N8.pr j).get (t.put x i)=if j=i then x else(N8.pr j).get t
 |0,0,_,_=>rfl
 |0,1,_,_=>rfl
 |0,2,_,_=>rfl
 |0,3,_,_=>rfl
 |0,4,_,_=>rfl
 |0,5,_,_=>rfl
 |0,6,_,_=>rfl
 |0,7,_,_=>rfl
 |1,0,_,_=>rfl
 |1,1,_,_=>rfl
 |1,2,_,_=>rfl
 |1,3,_,_=>rfl
 |1,4,_,_=>rfl
 |1,5,_,_=>rfl
 |1,6,_,_=>rfl
 |1,7,_,_=>rfl
 |2,0,_,_=>rfl
 |2,1,_,_=>rfl
 |2,2,_,_=>rfl
 |2,3,_,_=>rfl
 |2,4,_,_=>rfl
 |2,5,_,_=>rfl
 |2,6,_,_=>rfl
 |2,7,_,_=>rfl
 |3,0,_,_=>rfl
 |3,1,_,_=>rfl
 |3,2,_,_=>rfl
 |3,3,_,_=>rfl
 |3,4,_,_=>rfl
 |3,5,_,_=>rfl
 |3,6,_,_=>rfl
 |3,7,_,_=>rfl
 |4,0,_,_=>rfl
 |4,1,_,_=>rfl
 |4,2,_,_=>rfl
 |4,3,_,_=>rfl
 |4,4,_,_=>rfl
 |4,5,_,_=>rfl
 |4,6,_,_=>rfl
 |4,7,_,_=>rfl
 |5,0,_,_=>rfl
 |5,1,_,_=>rfl
 |5,2,_,_=>rfl
 |5,3,_,_=>rfl
 |5,4,_,_=>rfl
 |5,5,_,_=>rfl
 |5,6,_,_=>rfl
 |5,7,_,_=>rfl
 |6,0,_,_=>rfl
 |6,1,_,_=>rfl
 |6,2,_,_=>rfl
 |6,3,_,_=>rfl
 |6,4,_,_=>rfl
 |6,5,_,_=>rfl
 |6,6,_,_=>rfl
 |6,7,_,_=>rfl
 |7,0,_,_=>rfl
 |7,1,_,_=>rfl
 |7,2,_,_=>rfl
 |7,3,_,_=>rfl
 |7,4,_,_=>rfl
 |7,5,_,_=>rfl
 |7,6,_,_=>rfl
 |7,7,_,_=>rfl
 |i+8,j,hi,_=>by omega
 |i,j+8,_,hj=>by omega
theorem HS (a b:Nat):Nat.div a b=a/b:=rfl
theorem HT (a b:Nat):mod a b=a%b:=rfl
abbrev Tr (α:Type):Type:=N8 (N8 (N8 (N8 (N8 (N8 (Option α))))))
def Tr.gB {α:Type} (k:Nat):Bx (Tr α->Option α):=cond (ble k 262143) (match N8.pr (Nat.div k 32768),N8.pr (mod (Nat.div k 4096) 8),N8.pr (mod (Nat.div k 512) 8),N8.pr (mod (Nat.div k 64) 8),N8.pr (mod (Nat.div k 8) 8),N8.pr (mod k 8)with|⟨p1⟩,⟨p2⟩,⟨p3⟩,⟨p4⟩,⟨p5⟩,⟨p6⟩=>⟨fun t=>p6 (p5 (p4 (p3 (p2 (p1 t)))))⟩) ⟨fun _=>none⟩
def Tr.get {α:Type} (t:Tr α) (k:Nat):Option α:=(Tr.gB k).get t
def Tr.sB {α R:Type} (k:Nat):Bx (Tr α->Option α->(Tr α->Option R)->Option R):=cond (ble k 262143) (match N8.up (R:=R) (Nat.div k 32768),N8.up (R:=R) (mod (Nat.div k 4096) 8),N8.up (R:=R) (mod (Nat.div k 512) 8),N8.up (R:=R) (mod (Nat.div k 64) 8),N8.up (R:=R) (mod (Nat.div k 8) 8),N8.up (R:=R) (mod k 8)with|⟨u1⟩,⟨u2⟩,⟨u3⟩,⟨u4⟩,⟨u5⟩,⟨u6⟩=>⟨fun t x K=>u1 t (fun t K=>u2 t (fun t K=>u3 t (fun t K=>u4 t (fun t K=>u5 t (fun t K=>u6 t (fun _ K=>K x) K) K) K) K) K) K⟩) ⟨fun _ _ _=>none⟩
theorem Tr.get_eq {α:Type} (t:Tr α) (k:Nat):Tr.get t k=cond (ble k 262143) ((N8.pr (mod k 8)).get ((N8.pr (mod (Nat.div k 8) 8)).get ((N8.pr (mod (Nat.div k 64) 8)).get ((N8.pr (mod (Nat.div k 512) 8)).get ((N8.pr (mod (Nat.div k 4096) 8)).get ((N8.pr (Nat.div k 32768)).get t)))))) none:=by unfold Tr.get Tr.gB;cases ble k 262143<;>rfl
theorem Tr.zx {α R:Type} (k:Nat) (hk:ble k 262143=true) (t:Tr α) (x:Option α) (K:Tr α->Option R):(Tr.sB k).get t x K=K (N8.put t (N8.put ((N8.pr (Nat.div k 32768)).get t) (N8.put ((N8.pr (mod (Nat.div k 4096) 8)).get ((N8.pr (Nat.div k 32768)).get t)) (N8.put ((N8.pr (mod (Nat.div k 512) 8)).get ((N8.pr (mod (Nat.div k 4096) 8)).get ((N8.pr (Nat.div k 32768)).get t))) (N8.put ((N8.pr (mod (Nat.div k 64) 8)).get ((N8.pr (mod (Nat.div k 512) 8)).get ((N8.pr (mod (Nat.div k 4096) 8)).get ((N8.pr (Nat.div k 32768)).get t)))) (N8.put ((N8.pr (mod (Nat.div k 8) 8)).get ((N8.pr (mod (Nat.div k 64) 8)).get ((N8.pr (mod (Nat.div k 512) 8)).get ((N8.pr (mod (Nat.div k 4096) 8)).get ((N8.pr (Nat.div k 32768)).get t))))) x (mod k 8)) (mod (Nat.div k 8) 8)) (mod (Nat.div k 64) 8)) (mod (Nat.div k 512) 8)) (mod (Nat.div k 4096) 8)) (Nat.div k 32768)):=by unfold Tr.sB;rw [hk];simp only [cond_true,N8.HR]
theorem Tr.Vg {α:Type} (k j:Nat) (hk:ble k 262143=true) (t:Tr α) (x:Option α):Tr.get (N8.put t (N8.put ((N8.pr (Nat.div k 32768)).get t) (N8.put ((N8.pr (mod (Nat.div k 4096) 8)).get ((N8.pr (Nat.div k 32768)).get t)) (N8.put ((N8.pr (mod (Nat.div k 512) 8)).get ((N8.pr (mod (Nat.div k 4096) 8)).get ((N8.pr (Nat.div k 32768)).get t))) (N8.put ((N8.pr (mod (Nat.div k 64) 8)).get ((N8.pr (mod (Nat.div k 512) 8)).get ((N8.pr (mod (Nat.div k 4096) 8)).get ((N8.pr (Nat.div k 32768)).get t)))) (N8.put ((N8.pr (mod (Nat.div k 8) 8)).get ((N8.pr (mod (Nat.div k 64) 8)).get ((N8.pr (mod (Nat.div k 512) 8)).get ((N8.pr (mod (Nat.div k 4096) 8)).get ((N8.pr (Nat.div k 32768)).get t))))) x (mod k 8)) (mod (Nat.div k 8) 8)) (mod (Nat.div k 64) 8)) (mod (Nat.div k 512) 8)) (mod (Nat.div k 4096) 8)) (Nat.div k 32768)) j=if j=k then x else Tr.get t j:=by
 rw [Tr.get_eq,Tr.get_eq];have tV:=le_of_ble_eq_true hk;cases hj:ble j 262143 with
 |false=>
  have:j≠k:=fun e=>by subst e;rw [hk]at hj;cases hj
  simp [this]
 |true=>
  have nB:=le_of_ble_eq_true hj;simp only [cond_true,HS,HT];by_cases e0:(j/32768)=(k/32768)
  case neg=>
   have:j≠k:=fun e=>by subst e;exact e0 rfl
   rw [N8.jJ _ _ _ _ (by omega) (by omega),if_neg e0,if_neg this]
  rw [N8.jJ _ _ _ _ (by omega) (by omega),if_pos e0];by_cases e1:(j/4096%8)=(k/4096%8)
  case neg=>
   have:j≠k:=fun e=>by subst e;exact e1 rfl
   rw [N8.jJ _ _ _ _ (by omega) (by omega),if_neg e1,if_neg this];simp only [e0]
  rw [N8.jJ _ _ _ _ (by omega) (by omega),if_pos e1];by_cases e2:(j/512%8)=(k/512%8)
  case neg=>
   have:j≠k:=fun e=>by subst e;exact e2 rfl
   rw [N8.jJ _ _ _ _ (by omega) (by omega),if_neg e2,if_neg this];simp only [e0,e1]
  rw [N8.jJ _ _ _ _ (by omega) (by omega),if_pos e2];by_cases e3:(j/64%8)=(k/64%8)
  case neg=>
   have:j≠k:=fun e=>by subst e;exact e3 rfl
   rw [N8.jJ _ _ _ _ (by omega) (by omega),if_neg e3,if_neg this];simp only [e0,e1,e2]
  rw [N8.jJ _ _ _ _ (by omega) (by omega),if_pos e3];by_cases e4:(j/8%8)=(k/8%8)
  case neg=>
   have:j≠k:=fun e=>by subst e;exact e4 rfl
   rw [N8.jJ _ _ _ _ (by omega) (by omega),if_neg e4,if_neg this];simp only [e0,e1,e2,e3]
  rw [N8.jJ _ _ _ _ (by omega) (by omega),if_pos e4];by_cases e5:(j%8)=(k%8)
  case neg=>
   have:j≠k:=fun e=>by subst e;exact e5 rfl
   rw [N8.jJ _ _ _ _ (by omega) (by omega),if_neg e5,if_neg this];simp only [e0,e1,e2,e3,e4]
  rw [N8.jJ _ _ _ _ (by omega) (by omega),if_pos e5];rw [if_pos (by omega)]
def Tr.n1 {α:Type} :N8 (Option α):=⟨none,none,none,none,none,none,none,none⟩
def Tr.n2 {α:Type} :N8 (N8 (Option α)):=⟨Tr.n1,Tr.n1,Tr.n1,Tr.n1,Tr.n1,Tr.n1,Tr.n1,Tr.n1⟩
def Tr.n3 {α:Type} :N8 (N8 (N8 (Option α))):=⟨Tr.n2,Tr.n2,Tr.n2,Tr.n2,Tr.n2,Tr.n2,Tr.n2,Tr.n2⟩
def Tr.n4 {α:Type} :N8 (N8 (N8 (N8 (Option α)))):=⟨Tr.n3,Tr.n3,Tr.n3,Tr.n3,Tr.n3,Tr.n3,Tr.n3,Tr.n3⟩
def Tr.n5 {α:Type} :N8 (N8 (N8 (N8 (N8 (Option α))))):=⟨Tr.n4,Tr.n4,Tr.n4,Tr.n4,Tr.n4,Tr.n4,Tr.n4,Tr.n4⟩
def Tr.nil {α:Type} :Tr α:=(⟨Tr.n5,Tr.n5,Tr.n5,Tr.n5,Tr.n5,Tr.n5,Tr.n5,Tr.n5⟩:N8 _)
theorem N8.HU {α:Type} (x:α) (i:Nat):(N8.pr i).get ⟨x,x,x,x,x,x,x,x⟩=x:=by
 match i with
 |0|1|2|3|4|5|6|_+7=>rfl
theorem Tr.get_nil {α:Type} (k:Nat):(Tr.nil:Tr α).get k=none:=by
 rw [Tr.get_eq];simp only [Tr.nil,Tr.n5,Tr.n4,Tr.n3,Tr.n2,Tr.n1,N8.HU];cases ble k 262143<;>rfl
def Tr.iK {α R:Type} (_f:Nat) (t:Tr α) (k:Nat) (x:Option α) (K:Tr α->Option R):Option R:=iJ (Tr.sB k) fun s=>s t x K
theorem Tr.jn {α R:Type} {r:R} {f:Nat} {t:Tr α} {k:Nat} {x:Option α} {K:Tr α->Option R} (h:Tr.iK f t k x K=some r): ∃t',K t'=some r/\∀j,t'.get j=if j=k then x else t.get j:=by
 unfold Tr.iK at h;rw [XK]at h;cases hk:ble k 262143 with
 |false=>simp only [Tr.sB,hk,cond_false]at h;cases h
 |true=>
  rw [Tr.zx k hk]at h;exact⟨_,h,fun j=>Tr.Vg k j hk t x⟩
inductive AV where
 |lit (v:Value)
 |ptr (b o:Nat)
 |slice (b o n sz c:Nat) (x:Bool)
 |agg (l:List AV)
 |tuple (l:List AV)
 |func (f:FuncId) (first captured:List AV)
 |map (b:Nat)
 |iface (t:TypeId) (x:AV)
 |yield (b:Nat)
 |nC (k:IntKind) (lo hi:Int)
 |mH
 |same (i:Nat) (k:IntKind) (lo hi:Int)
instance:Inhabited AV:=⟨.lit default⟩
abbrev Tm:Type:=N8 (N8 (N8 (Option AV)))
def Tm.gB (k:Nat):Bx (Tm->Option AV):=cond (ble k 511) (match N8.pr (Nat.div k 64),N8.pr (mod (Nat.div k 8) 8),N8.pr (mod k 8)with|⟨p1⟩,⟨p2⟩,⟨p3⟩=>⟨fun t=>p3 (p2 (p1 t))⟩) ⟨fun _=>none⟩
def Tm.get (t:Tm) (k:Nat):Option AV:=(Tm.gB k).get t
def Tm.sB {R:Type} (k:Nat):Bx (Tm->Option AV->(Tm->Option R)->Option R):=cond (ble k 511) (match N8.up (R:=R) (Nat.div k 64),N8.up (R:=R) (mod (Nat.div k 8) 8),N8.up (R:=R) (mod k 8)with|⟨u1⟩,⟨u2⟩,⟨u3⟩=>⟨fun t x K=>u1 t (fun t K=>u2 t (fun t K=>u3 t (fun _ K=>K x) K) K) K⟩) ⟨fun _ _ _=>none⟩
theorem Tm.get_eq (t:Tm) (k:Nat):Tm.get t k=cond (ble k 511) ((N8.pr (mod k 8)).get ((N8.pr (mod (Nat.div k 8) 8)).get ((N8.pr (Nat.div k 64)).get t))) none:=by unfold Tm.get Tm.gB;cases ble k 511<;>rfl
theorem Tm.zx {R:Type} (k:Nat) (hk:ble k 511=true) (t:Tm) (x:Option AV) (K:Tm->Option R):(Tm.sB k).get t x K=K (N8.put t (N8.put ((N8.pr (Nat.div k 64)).get t) (N8.put ((N8.pr (mod (Nat.div k 8) 8)).get ((N8.pr (Nat.div k 64)).get t)) x (mod k 8)) (mod (Nat.div k 8) 8)) (Nat.div k 64)):=by unfold Tm.sB;rw [hk];simp only [cond_true,N8.HR]
theorem Tm.Vg (k j:Nat) (hk:ble k 511=true) (t:Tm) (x:Option AV):Tm.get (N8.put t (N8.put ((N8.pr (Nat.div k 64)).get t) (N8.put ((N8.pr (mod (Nat.div k 8) 8)).get ((N8.pr (Nat.div k 64)).get t)) x (mod k 8)) (mod (Nat.div k 8) 8)) (Nat.div k 64)) j=if j=k then x else Tm.get t j:=by
 rw [Tm.get_eq,Tm.get_eq];have tV:=le_of_ble_eq_true hk;cases hj:ble j 511 with
 |false=>
  have:j≠k:=fun e=>by subst e;rw [hk]at hj;cases hj
  simp [this]
 |true=>
  have nB:=le_of_ble_eq_true hj;simp only [cond_true,HS,HT];by_cases e0:(j/64)=(k/64)
  case neg=>
   have:j≠k:=fun e=>by subst e;exact e0 rfl
   rw [N8.jJ _ _ _ _ (by omega) (by omega),if_neg e0,if_neg this]
  rw [N8.jJ _ _ _ _ (by omega) (by omega),if_pos e0];by_cases e1:(j/8%8)=(k/8%8)
  case neg=>
   have:j≠k:=fun e=>by subst e;exact e1 rfl
   rw [N8.jJ _ _ _ _ (by omega) (by omega),if_neg e1,if_neg this];simp only [e0]
  rw [N8.jJ _ _ _ _ (by omega) (by omega),if_pos e1];by_cases e2:(j%8)=(k%8)
  case neg=>
   have:j≠k:=fun e=>by subst e;exact e2 rfl
   rw [N8.jJ _ _ _ _ (by omega) (by omega),if_neg e2,if_neg this];simp only [e0,e1]
  rw [N8.jJ _ _ _ _ (by omega) (by omega),if_pos e2];rw [if_pos (by omega)]
def Tm.nil:Tm:=(⟨Tr.n2,Tr.n2,Tr.n2,Tr.n2,Tr.n2,Tr.n2,Tr.n2,Tr.n2⟩:N8 _)
theorem Tm.get_nil (k:Nat):Tm.nil.get k=none:=by
 rw [Tm.get_eq];simp only [Tm.nil,Tr.n2,Tr.n1,N8.HU];cases ble k 511<;>rfl
theorem Tm.zy {R:Type} {r:R} {t:Tm} {k:Nat} {x:Option AV} {K:Tm->Option R} (h:(Tm.sB k).get t x K=some r): ∃t',K t'=some r/\∀j,t'.get j=if j=k then x else t.get j:=by
 cases hk:ble k 511 with
 |false=>simp only [Tm.sB,hk,cond_false]at h;cases h
 |true=>
  rw [Tm.zx k hk]at h;exact⟨_,h,fun j=>Tm.Vg k j hk t x⟩
abbrev Env:Type:=Nat->Option (Nat×Nat)
def rZ (B t:Nat):Int:=match t with
 |0=>Int.ofNat B|_=>Int.negSucc B
mutual
def AV.rep (e:Env):AV->Value->Prop
 | .lit u,v=>v=u| .ptr b o,v=>∃B t,e b=some (B,t)/\v= .pointer (some ⟨B,o,none⟩)| .slice b o n sz c x,v=>∃B t k A,e b=some (B,t)/\v= .slice (some A) n k/\(A=⟨B,o,none⟩\/k=0)/\n<=k/\c<=k/\(x=true->k=c)/\o+k*sz<=t| .agg l,v=>∃vs,v= .agg ⟨vs⟩/\AV.bF e l vs| .tuple l,v=>∃vs,v= .tuple ⟨vs⟩/\AV.bF e l vs| .func f l m,v=>∃vs us,v= .func (.func f) ⟨vs⟩ ⟨us⟩/\AV.bF e l vs/\AV.bF e m us
 | .map b,v=>∃B t,e b=some (B,t)/\v= .map (some B)| .iface t x,v=>∃u,v= .iface t u/\AV.rep e x u| .yield b,v=>∃B t,e b=some (B,t)/\v= .func (.yield B) #[] #[]
 | .nC k lo hi,v=>∃n,v= .int k n/\lo<=n/\n<=hi| .mH,v=>v.oneCell'=true| .same i k lo hi,v=>∃B t,e i=some (B,t)/\v= .int k (rZ B t)/\lo<=rZ B t/\rZ B t<=hi
def AV.bF (e:Env):List AV->List Value->Prop
 |[],vs=>vs=[]|a::l,vs=>∃x xs,vs=x::xs/\AV.rep e a x/\AV.bF e l xs
end
def Az (e e':Env):Prop:=∀(b:Nat) (x:Nat×Nat),e b=some x->e' b=some x
theorem Az.refl (e:Env):Az e e:=fun _ _ h=>h
theorem Az.trans {e e' r_:Env} (h:Az e e') (k:Az e' r_):Az e r_:=fun b x hb=>k b x (h b x hb)
def Env.put (e:Env) (n:Nat) (x:Nat×Nat):Env:=fun b=>if b=n then some x else e b
theorem Gd (e:Env) (n:Nat) (x:Nat×Nat):e.put n x n=some x:=if_pos rfl
theorem Pz {e:Env} {n b:Nat} (h:b≠n) (x:Nat×Nat):e.put n x b=e b:=if_neg h
theorem Az.put {e:Env} {n:Nat} (h:e n=none) (x:Nat×Nat):Az e (e.put n x):=fun b y hb=>by
 by_cases HV:b=n
 ·subst HV;rw [h]at hb;cases hb
 ·rw [Pz HV];exact hb
mutual
theorem E6 {e e':Env} (h:Az e e'):∀ {a:AV} {v:Value},a.rep e v->a.rep e' v
 | .lit _,_,hr=>by simp only [AV.rep]at hr⊢;exact hr
 | .ptr _ _,_,hr=>by simp only [AV.rep]at hr⊢;obtain⟨B,t,h1,h2⟩:=hr;exact⟨B,t,h _ _ h1,h2⟩
 | .slice ..,_,hr=>by simp only [AV.rep]at hr⊢;obtain⟨B,t,k,A,h1,h2⟩:=hr;exact⟨B,t,k,A,h _ _ h1,h2⟩
 | .agg _,_,hr=>by simp only [AV.rep]at hr⊢;obtain⟨vs,h1,h2⟩:=hr;exact⟨vs,h1,Ej h h2⟩
 | .tuple _,_,hr=>by simp only [AV.rep]at hr⊢;obtain⟨vs,h1,h2⟩:=hr;exact⟨vs,h1,Ej h h2⟩
 | .func ..,_,hr=>by simp only [AV.rep]at hr⊢;obtain⟨vs,us,h1,h2,h3⟩:=hr;exact⟨vs,us,h1,Ej h h2,Ej h h3⟩
 | .map _,_,hr=>by simp only [AV.rep]at hr⊢;obtain⟨B,t,h1,h2⟩:=hr;exact⟨B,t,h _ _ h1,h2⟩
 | .iface _ _,_,hr=>by simp only [AV.rep]at hr⊢;obtain⟨u,h1,h2⟩:=hr;exact⟨u,h1,E6 h h2⟩
 | .yield _,_,hr=>by simp only [AV.rep]at hr⊢;obtain⟨B,t,h1,h2⟩:=hr;exact⟨B,t,h _ _ h1,h2⟩
 | .nC ..,_,hr=>by simp only [AV.rep]at hr⊢;exact hr
 | .mH,_,hr=>by simp only [AV.rep]at hr⊢;exact hr
 | .same ..,_,hr=>by simp only [AV.rep]at hr⊢;obtain⟨B,t,h1,h2⟩:=hr;exact⟨B,t,h _ _ h1,h2⟩
theorem Ej {e e':Env} (h:Az e e'):∀ {l:List AV} {vs:List Value},AV.bF e l vs->AV.bF e' l vs
 |[],_,hr=>by simp only [AV.bF]at hr⊢;exact hr
 |_::_,_,hr=>by simp only [AV.bF]at hr⊢;obtain⟨x,xs,h1,h2,h3⟩:=hr;exact⟨x,xs,h1,E6 h h2,Ej h h3⟩
end
theorem A5 {e:Env} :∀ {l:List AV} {vs:List Value},AV.bF e l vs->vs.length=l.length
 |[],_,h=>by simp only [AV.bF]at h;subst h;rfl
 |_::l,_,h=>by simp only [AV.bF]at h;obtain⟨x,xs,rfl,_,h⟩:=h;simp [A5 h]
theorem Jd {e:Env} :∀ {l:List AV} {vs:List Value} {i:Nat} {a:AV},AV.bF e l vs->l[i]? =some a->∃v,vs[i]? =some v/\a.rep e v
 |[],_,_,_,_,hi=>by simp at hi
 |_::l,_,i,a,h,hi=>by
  simp only [AV.bF]at h;obtain⟨x,xs,rfl,h1,h2⟩:=h;cases i with
  |zero=>simp at hi;subst hi;exact⟨x,by simp,h1⟩
  |succ i=>simp at hi;obtain⟨v,hv,hr⟩:=Jd h2 hi;exact⟨v,by simpa using hv,hr⟩
theorem zz {e:Env} :∀ {l:List AV} {vs:List Value},vs.length=l.length->(∀(i:Nat) (a:AV),l[i]? =some a->∃v,vs[i]? =some v/\AV.rep e a v)->AV.bF e l vs
 |[],vs,hl,_=>by simp only [AV.bF];exact List.eq_nil_of_length_eq_zero (by simpa using hl)
 |a::l,vs,hl,h=>by
  cases vs with
  |nil=>simp at hl
  |cons v vs=>
   simp only [AV.bF];obtain⟨v',hv,hr⟩:=h 0 a (by simp);simp at hv;subst hv;exact⟨v,vs,rfl,hr,zz (by simpa using hl) fun i b hb=>by have:=h (i+1) b (by simpa using hb);simpa using this⟩
theorem D1 {e:Env} :∀ {l m:List AV} {vs us:List Value},AV.bF e l vs->AV.bF e m us->AV.bF e (l++m) (vs++us)
 |[],_,_,_,h,k=>by simp only [AV.bF]at h;subst h;exact k
 |_::l,_,_,_,h,k=>by
  simp only [AV.bF]at h;obtain⟨x,xs,rfl,h1,h2⟩:=h;simp only [List.cons_append,AV.bF];exact⟨x,_,rfl,h1,D1 h2 k⟩
theorem Et {e:Env} :∀ {n:Nat} {l:List AV} {vs:List Value},AV.bF e l vs->AV.bF e (l.take n) (vs.take n)
 |0,_,_,_=>by simp [AV.bF]
 |n+1,[],_,h=>by simp only [AV.bF]at h;subst h;simp [AV.bF]
 |n+1,_::l,_,h=>by
  simp only [AV.bF]at h;obtain⟨x,xs,rfl,h1,h2⟩:=h;simp only [List.take_succ_cons,AV.bF];exact⟨x,_,rfl,h1,Et h2⟩
theorem F3 {e:Env} :∀ {n:Nat} {l:List AV} {vs:List Value},AV.bF e l vs->AV.bF e (l.drop n) (vs.drop n)
 |0,_,_,h=>by simpa using h
 |n+1,[],_,h=>by simp only [AV.bF]at h;subst h;simp [AV.bF]
 |n+1,_::l,_,h=>by
  simp only [AV.bF]at h;obtain⟨x,xs,rfl,h1,h2⟩:=h;simpa using F3 h2
theorem XL {e:Env} {l:List AV} {vs:List Value} (h:AV.bF e l vs) (i:Nat) {a:AV} {v:Value} (hr:a.rep e v):AV.bF e (l.set i a) (vs.set i v):=by
 refine zz (by simp [A5 h]) fun j b hb=> ?_
 rw [List.getElem?_set]at hb;split at hb
 ·rename_i lG;subst lG;split at hb
  ·rename_i aO;cases hb
   exact⟨v,by rw [List.getElem?_set];simp [A5 h,aO],hr⟩
  ·cases hb
 ·rename_i lG;obtain⟨u,hu,XM⟩:=Jd h hb;exact⟨u,by rw [List.getElem?_set,if_neg lG];exact hu,XM⟩
mutual
def AV.val? :AV->Option Value
 | .lit v=>some v| .agg l=>match AV.vals? l with|some vs=>some (.agg ⟨vs⟩)|none=>none
 | .tuple l=>match AV.vals? l with|some vs=>some (.tuple ⟨vs⟩)|none=>none
 | .iface t x=>match AV.val? x with|some v=>some (.iface t v)|none=>none
 |_=>none
def AV.vals? :List AV->Option (List Value)
 |[]=>some []|a::l=>match AV.val? a,AV.vals? l with|some v,some vs=>some (v::vs)|_,_=>none
end
mutual
theorem zA {e:Env} :∀ {a:AV} {u v:Value},a.val? =some u->a.rep e v->v=u
 | .lit _,_,_,h,hr=>by simp only [AV.val?]at h;cases h;simpa only [AV.rep] using hr
 | .agg l,_,_,h,hr=>by
  simp only [AV.val?]at h;split at h
  ·rename_i vs kb;cases h
   simp only [AV.rep]at hr;obtain⟨us,rfl,iL⟩:=hr;rw [P0 kb iL]
  ·cases h
 | .tuple l,_,_,h,hr=>by
  simp only [AV.val?]at h;split at h
  ·rename_i vs kb;cases h
   simp only [AV.rep]at hr;obtain⟨us,rfl,iL⟩:=hr;rw [P0 kb iL]
  ·cases h
 | .iface t x,_,_,h,hr=>by
  simp only [AV.val?]at h;split at h
  ·rename_i v hv;cases h
   simp only [AV.rep]at hr;obtain⟨u,rfl,hu⟩:=hr;rw [zA hv hu]
  ·cases h
 | .ptr ..,_,_,h,_=>by simp [AV.val?]at h
 | .slice ..,_,_,h,_=>by simp [AV.val?]at h
 | .func ..,_,_,h,_=>by simp [AV.val?]at h
 | .map ..,_,_,h,_=>by simp [AV.val?]at h
 | .yield ..,_,_,h,_=>by simp [AV.val?]at h
 | .nC ..,_,_,h,_=>by simp [AV.val?]at h
 | .mH,_,_,h,_=>by simp [AV.val?]at h
 | .same ..,_,_,h,_=>by simp [AV.val?]at h
theorem P0 {e:Env} :∀ {l:List AV} {us vs:List Value},AV.vals? l=some us->AV.bF e l vs->vs=us
 |[],_,_,h,hr=>by simp only [AV.vals?]at h;cases h;simpa only [AV.bF] using hr
 |_::_,_,_,h,hr=>by
  simp only [AV.vals?]at h;split at h
  ·rename_i v vs hv kb;cases h
   simp only [AV.bF]at hr;obtain⟨x,xs,rfl,h1,h2⟩:=hr;rw [zA hv h1,P0 kb h2]
  ·cases h
end
def AV.cells:AV->List AV
 | .agg l=>l| .lit (.agg cs)=>cs.toList.map .lit|a=>[a]
theorem Ky {e:Env} :∀(vs:List Value),AV.bF e (vs.map .lit) vs
 |[]=>by simp [AV.bF]
 |v::vs=>by simp only [map_cons,AV.bF];exact⟨v,vs,rfl,by simp [AV.rep],Ky vs⟩
theorem M8 {e:Env} {a:AV} {v:Value} (h:a.rep e v):AV.bF e a.cells v.cells.toList:=by
 have one:∀ {b:AV} {x:Value},b.rep e x->AV.bF e [b] [x]:=fun hb=>by simp only [AV.bF];exact⟨_,[],rfl,hb,rfl⟩
 cases a with
 |lit u=>
  have hu:v=u:=by simpa only [AV.rep] using h
  subst hu;cases v with
  |agg cs=>exact Ky cs.toList
  |_=>exact one h
 |agg l=>simp only [AV.rep]at h;obtain⟨vs,rfl,h⟩:=h;exact h
 |ptr b o=>have h':=h;simp only [AV.rep]at h;obtain⟨_,_,_,rfl⟩:=h;exact one h'
 |slice b o n sz c x=>have h':=h;simp only [AV.rep]at h;obtain⟨_,_,_,_,_,rfl,_⟩:=h;exact one h'
 |tuple l=>have h':=h;simp only [AV.rep]at h;obtain⟨_,rfl,_⟩:=h;exact one h'
 |func f l m=>have h':=h;simp only [AV.rep]at h;obtain⟨_,_,rfl,_⟩:=h;exact one h'
 |map b=>have h':=h;simp only [AV.rep]at h;obtain⟨_,_,_,rfl⟩:=h;exact one h'
 |iface t x=>have h':=h;simp only [AV.rep]at h;obtain⟨_,rfl,_⟩:=h;exact one h'
 |yield b=>have h':=h;simp only [AV.rep]at h;obtain⟨_,_,_,rfl⟩:=h;exact one h'
 |nC k lo hi=>have h':=h;simp only [AV.rep]at h;obtain⟨_,rfl,_⟩:=h;exact one h'
 |mH=>have h':=h;simp only [AV.rep]at h;cases v<;>first|exact one h'|cases h
 |same i k lo hi=>have h':=h;simp only [AV.rep]at h;obtain⟨_,_,_,rfl,_⟩:=h;exact one h'
def AV.one:AV->Bool
 | .lit v=>v.oneCell'| .agg _| .tuple _=>false|_=>true
theorem XN {e:Env} {a:AV} {v:Value} (h:a.one=true) (hr:a.rep e v):v.oneCell'=true:=by
 cases a with
 |lit u=>have hu:v=u:=by simpa only [AV.rep] using hr
         subst hu;exact h
 |agg l=>cases h
 |tuple l=>cases h
 |ptr b o=>simp only [AV.rep]at hr;obtain⟨_,_,_,rfl⟩:=hr;rfl
 |slice b o n sz c x=>simp only [AV.rep]at hr;obtain⟨_,_,_,_,_,rfl,_⟩:=hr;rfl
 |func f l m=>simp only [AV.rep]at hr;obtain⟨_,_,rfl,_⟩:=hr;rfl
 |map b=>simp only [AV.rep]at hr;obtain⟨_,_,_,rfl⟩:=hr;rfl
 |iface t x=>simp only [AV.rep]at hr;obtain⟨_,rfl,_⟩:=hr;rfl
 |yield b=>simp only [AV.rep]at hr;obtain⟨_,_,_,rfl⟩:=hr;rfl
 |nC k lo hi=>simp only [AV.rep]at hr;obtain⟨_,rfl,_⟩:=hr;rfl
 |mH=>simpa only [AV.rep] using hr
 |same i k lo hi=>simp only [AV.rep]at hr;obtain⟨_,_,_,rfl,_⟩:=hr;rfl
inductive hH where
 |normal|ret|exit (id:Nat)
def hH.nD:hH->Exit
 | .normal=> .normal| .ret=> .ret| .exit id=> .exit id
def hH.jump:hH->Option Code
 | .normal=>none| .ret=>some .ret| .exit id=>some (.exit id)
structure Z5 where
 tm:Tm
 sz:Nat
 ps:List Nat
 assign:Code
 body:Code
 st:Nat
 ot:hH
def py:Nat->LoopState
 |0=> .ready|1=> .busy|2=> .done|_=> .exhausted
inductive aI where
 |cells (l:List AV) (rw:Bool)
 |map (es:List (Value×AV)) (clock:Nat)
 |loop (r:Z5)
def B4 (e:Env):List (Value×AV)->List MapEntry->Prop
 |[],ms=>ms=[]|(k,a)::es,ms=>∃m iv,ms=m::iv/\m.key=k/\a.rep e m.val/\B4 e es iv
structure Base where
 w:World
 X:Nat->Prop
 lt:∀k,X k->k<w.heap.size
 R:Nat->Prop
structure Kept (b:Base) (w:World):Prop where
 os:w.os=b.w.os
 tape:w.tape=b.w.tape
 output:w.output=b.w.output
 size:b.w.heap.size<=w.heap.size
 block:∀k,b.X k->w.heap[k]? =b.w.heap[k]?
def Lk (w:World) (b:Nat) (rw:Bool) (l:List Value):Prop:=∃T fr,w.heap[b]? =some (.cells ⟨l⟩ T fr)/\(fr=(0,0)\/(rw=false/\l.length<=fr.1))
theorem Lk.lt {w:World} {b:Nat} {rw:Bool} {l:List Value} (h:Lk w b rw l):b<w.heap.size:=by
 obtain⟨T,fr,h,_⟩:=h;exact(Array.getElem?_eq_some_iff.1 h).1
theorem HW {w:World} {b:Nat} {rw:Bool} {l:List Value} (h:df w b l):Lk w b rw l:=by
 obtain⟨T,h,_⟩:=h;exact⟨T,_,h,.inl rfl⟩
theorem Lk.frozen {w:World} {b:Nat} {rw:Bool} {l:List Value} (h:Lk w b rw l) {i:Nat} (hi:i<l.length):w.frozen? ⟨b,i,none⟩=false:=by
 obtain⟨T,fr,h,hf⟩:=h;rcases hf with rfl|⟨_,hf⟩
 ·simp [World.frozen?,h]
 ·simp [World.frozen?,h];omega
theorem Lk.set {w w':World} {b i:Nat} {rw:Bool} {l:List Value} {v:Value} (h:Lk w b rw l) (e:w'=w.setCell ⟨b,i,none⟩ v):Lk w' b rw (l.set i v):=by
 subst e;obtain⟨T,fr,h,hf⟩:=h;exact⟨T,fr,by rw [heap_setCell,if_pos rfl,h];simp,by simpa using hf⟩
theorem Lk.cell {w:World} {b:Nat} {rw:Bool} {l:List Value} (h:Lk w b rw l) {i:Nat} {v:Value} (hv:l[i]? =some v):w.cell? ⟨b,i,none⟩=some v:=by
 obtain⟨T,fr,h,_⟩:=h;simp [World.cell?,h,hv]
theorem Lk.cells {w:World} {b:Nat} {rw:Bool} {l:List Value} (h:Lk w b rw l) (i:Nat) {m:List Value} (hm:∀j (hj:j<m.length),l[i+j]? =some m[j]):Ad w ⟨b,i,none⟩ m:=by
 intro j hj;rw [Fc];exact h.cell (hm j hj)
structure sa (e:Env) (r:Z5) (R:Loop):Prop where
 state:R.state=py r.st
 pending:R.pending=r.ot.jump
 size:R.tmps.size=r.sz
 tmps:∀t av,r.tm.get t=some av->t<R.tmps.size/\av.rep e (R.tmps.getD t undef)
 params:R.params=⟨r.ps⟩
 assign:R.assign=r.assign
 body:R.body=r.body
theorem sa.later {e e':Env} {r:Z5} {R:Loop} (h:sa e r R) (k:Az e e'):sa e' r R:=
 ⟨h.state,h.pending,h.size,fun t av ht=>⟨(h.tmps t av ht).1,E6 k (h.tmps t av ht).2⟩,h.params,h.assign,h.body⟩
def nE (e:Env) (b0:Base) (w:World) (b:Nat):aI->Prop
 | .cells l rw=>∃B t vs rest,e b=some (B,t)/\Lk w B rw (vs++rest)/\(vs++rest).length=t/\AV.bF e l vs/\¬b0.X B| .map es clock=>∃B t ms,e b=some (B,t)/\w.heap[B]? =some (.map ⟨ms⟩ clock)/\B4 e es ms/\¬b0.X B| .loop r=>∃B t R,e b=some (B,t)/\w.heap[B]? =some (.loop R)/\sa e r R/\¬b0.X B
theorem P1 {e e':Env} (h:Az e e'):∀ {es:List (Value×AV)} {ms:List MapEntry},B4 e es ms->B4 e' es ms
 |[],_,hr=>hr
 |(_,_)::_,_,hr=>by
  obtain⟨m,iv,h1,h2,h3,h4⟩:=hr;exact⟨m,iv,h1,h2,E6 h h3,P1 h h4⟩
theorem nE.at {e:Env} {b0:Base} {w:World} {b:Nat} {x:aI} (h:nE e b0 w b x):∃B t,e b=some (B,t)/\B<w.heap.size/\¬b0.X B:=by
 cases x with
 |cells l rw=>obtain⟨B,t,vs,rest,h1,h2,_,_,h5⟩:=h;exact⟨B,t,h1,h2.lt,h5⟩
 |map es c=>obtain⟨B,t,ms,h1,h2,_,h4⟩:=h;exact⟨B,t,h1,(Array.getElem?_eq_some_iff.1 h2).1,h4⟩
 |loop r=>obtain⟨B,t,R,h1,h2,_,h4⟩:=h;exact⟨B,t,h1,(Array.getElem?_eq_some_iff.1 h2).1,h4⟩
theorem nE.aP {e e':Env} {b0 b1:Base} {w w':World} {b:Nat} {x:aI} (h:nE e b0 w b x) (he:Az e e') (hX:∀B t,e b=some (B,t)->¬b0.X B->¬b1.X B) (hw:∀B t,e b=some (B,t)->w'.heap[B]? =w.heap[B]?):nE e' b1 w' b x:=by
 cases x with
 |cells l rw=>
  obtain⟨B,t,vs,rest,h1,⟨T,fr,h2,hf⟩,h3,h4,h5⟩:=h;exact⟨B,t,vs,rest,he _ _ h1,⟨T,fr,(hw B t h1).trans h2,hf⟩,h3,Ej he h4,hX B t h1 h5⟩
 |map es c=>
  obtain⟨B,t,ms,h1,h2,h3,h4⟩:=h;exact⟨B,t,ms,he _ _ h1,(hw B t h1).trans h2,P1 he h3,hX B t h1 h4⟩
 |loop r=>
  obtain⟨B,t,R,h1,h2,h3,h4⟩:=h;exact⟨B,t,R,he _ _ h1,(hw B t h1).trans h2,h3.later he,hX B t h1 h4⟩
abbrev Mm:Type:=Nat->Option aI
structure Bb (b0:Base) (e:Env) (M:Mm) (n:Nat) (w:World):Prop where
 new:∀b,n<=b\/b0.R b->e b=none
 res:∀b,b0.R b->b<n
 bG:∀b x,M b=some x->nE e b0 w b x
 eO:∀b b' x x',b≠b'->M b=some x->M b'=some x'->∀B B' t t',e b=some (B,t)->e b'=some (B',t')->B≠B'
 kept:Kept b0 w
def base (w:World):Base:=⟨w,fun k=>k<w.heap.size,fun _ h=>h,fun _=>False⟩
theorem Bb.start (w:World):Bb (base w) (fun _=>none) (Tr.nil:Tr aI).get 0 w:=⟨fun _ _=>rfl,fun _ h=>h.elim,fun _ _ h=>(by rw [Tr.get_nil]at h;cases h),fun _ _ _ _ _ h=>(by rw [Tr.get_nil]at h;cases h),⟨rfl,rfl,rfl,le_refl _,fun _ _=>rfl⟩⟩
theorem Bb.below {w w':World} {e:Env} {M:Mm} {n:Nat} (h:Bb (base w) e M n w'):Below w.heap.size w w':=⟨h.kept.os,h.kept.tape,h.kept.output,h.kept.size,h.kept.block⟩
theorem Bb.drew {b0:Base} {w:World} {e:Env} {M:Mm} {n:Nat} (h:Bb b0 e M n w) (k:Nat):Bb b0 e M n { w with drawn:=k } :=
 ⟨h.new,h.res,fun b x hx=>(h.bG b x hx).aP (Az.refl e) (fun _ _ _ h=>h) fun _ _ _=>rfl,h.eO,⟨h.kept.os,h.kept.tape,h.kept.output,h.kept.size,h.kept.block⟩⟩
theorem Bb.sub {b0:Base} {w:World} {e:Env} {M M':Mm} {n:Nat} (h:Bb b0 e M n w) (hs:∀j x,M' j=some x->M j=some x):Bb b0 e M' n w:=
 ⟨h.new,h.res,fun b x hx=>h.bG b x (hs b x hx),fun b b' x x' hb hx kA=>h.eO b b' x x' hb (hs b x hx) (hs b' x' kA),h.kept⟩
theorem Bb.more {b0:Base} {w:World} {e:Env} {M:Mm} {n n':Nat} (h:Bb b0 e M n w) (hn:n<=n'):Bb b0 e M n' w:=
 ⟨fun b hb=>h.new b (hb.imp (fun hb=>le_trans hn hb) id),fun b hb=>Nat.lt_of_lt_of_le (h.res b hb) hn,h.bG,h.eO,h.kept⟩
theorem Bb.same {b0:Base} {w:World} {e:Env} {M M':Mm} {n:Nat} (h:Bb b0 e M n w) (hs:∀j,M' j=M j):Bb b0 e M' n w:=h.sub fun j x hx=>by rw [←hs];exact hx
theorem Bb.HY {b0:Base} {w w':World} {e:Env} {M M':Mm} {n n' i t:Nat} {x:aI} (h:Bb b0 e M n w) (hE:w.grownBy w' none) (hi:e i=none) (hR:¬b0.R i) (hn:n<=n') (kT:i<n') (hM:∀j,M' j=if j=i then some x else M j) (hx:nE (e.put i (w.heap.size,t)) b0 w' i x):Bb b0 (e.put i (w.heap.size,t)) M' n' w':=by
 have old:∀ {c z C s},c≠i->M' c=some z->(e.put i (w.heap.size,t)) c=some (C,s)->M c=some z/\e c=some (C,s)/\C<w.heap.size:=by
  intro c z C s hc hz zB;rw [hM,if_neg hc]at hz;rw [Pz hc]at zB;obtain⟨C',s',h1,h2,_⟩:=(h.bG c z hz).at;rw [zB]at h1;cases h1;exact⟨hz,zB,h2⟩
 have new:∀ {C s},(e.put i (w.heap.size,t)) i=some (C,s)->C=w.heap.size:=by
  intro C s hc;rw [Gd]at hc;cases hc;rfl
 refine⟨fun b hb=> ?_,fun b hb=>Nat.lt_of_lt_of_le (h.res b hb) hn,fun b y hy=> ?_,fun b b' y y' hb hy HZ B B' s s' he kS=> ?_,⟨hE.os.trans h.kept.os,hE.tape.trans h.kept.tape,hE.output.trans h.kept.output,le_trans h.kept.size hE.size,fun k hk=> ?_⟩⟩
 ·have oo:b≠i:=by
   rintro rfl;rcases hb with hb|hb
   ·omega
   ·exact hR hb
  rw [Pz oo];exact h.new b (hb.imp (fun hb=>by omega) id)
 ·rw [hM]at hy;split at hy
  ·rename_i hb;subst hb;cases hy;exact hx
  ·have hb:=h.bG b y hy;refine hb.aP (Az.put hi _) (fun _ _ _ h=>h) fun B s he=> ?_
   obtain⟨B',s',h1,h2,_⟩:=hb.at;rw [he]at h1;cases h1;exact hE.block B h2 (by simp)
 ·by_cases hn:b=i
  ·subst hn;obtain⟨_,_,h3⟩:=old (Ne.symm hb) HZ kS;have:=new he;omega
  ·obtain⟨g1,g2,g3⟩:=old hn hy he;by_cases sb:b'=i
   ·subst sb;have:=new kS;omega
   ·obtain⟨k1,k2,_⟩:=old sb HZ kS;exact h.eO b b' y y' hb g1 k1 B B' s s' g2 k2
 ·rw [hE.block k (Nat.lt_of_lt_of_le (b0.lt k hk) h.kept.size) (by simp)];exact h.kept.block k hk
theorem Bb.push {b0:Base} {w w':World} {e:Env} {M M':Mm} {n n' i t:Nat} {x:aI} {ob:Obj} (h:Bb b0 e M n w) (hw:w'=w.alloc ob) (hi:e i=none) (hR:¬b0.R i) (hn:n<=n') (kT:i<n') (hM:∀j,M' j=if j=i then some x else M j) (hx:nE (e.put i (w.heap.size,t)) b0 w' i x):Bb b0 (e.put i (w.heap.size,t)) M' n' w':=
 h.HY (hw▸World.grownBy_alloc w ob none) hi hR hn kT hM hx
theorem H_ {b0:Base} {w w':World} {B:Nat} (h:Kept b0 w) (hB:¬b0.X B) (hw:w.grownBy w' (some B)):Kept b0 w':=
 ⟨hw.os.trans h.os,hw.tape.trans h.tape,hw.output.trans h.output,le_trans h.size hw.size,fun j hj=>by
  rw [hw.block j (Nat.lt_of_lt_of_le (b0.lt j hj) h.size) (fun hh=>by have:=Option.some.inj hh;subst this;exact hB hj)];exact h.block j hj⟩
theorem Bb.kB {b0:Base} {w w':World} {e:Env} {M M':Mm} {n b B t:Nat} {x y:aI} (h:Bb b0 e M n w) (hx:M b=some x) (he:e b=some (B,t)) (hB:¬b0.X B) (hw:w.grownBy w' (some B)) (hM:∀j,M' j=if j=b then some y else M j) (hy:nE e b0 w' b y):Bb b0 e M' n w':=by
 refine⟨h.new,h.res,fun c z hz=> ?_,fun c c' z z' hc hz lH C C' s s' k k'=> ?_,H_ h.kept hB hw⟩
 ·rw [hM]at hz;split at hz
  ·rename_i hc;subst hc;cases hz;exact hy
  ·rename_i hc;refine(h.bG c z hz).aP (Az.refl e) (fun _ _ _ h=>h) fun C s hC=> ?_
   obtain⟨C',s',h1,h2,_⟩:=(h.bG c z hz).at;rw [hC]at h1;cases h1;exact hw.block C h2 fun hh=>h.eO c b z x hc hz hx C B s t hC he (Option.some.inj hh)
 ·have:∀ {d u},M' d=some u->∃u',M d=some u':=by
   intro d u hd;rw [hM]at hd;split at hd
   ·rename_i XO;subst XO;exact⟨x,hx⟩
   ·exact⟨u,hd⟩
  obtain⟨_,g⟩:=this hz;obtain⟨_,g'⟩:=this lH;exact h.eO c c' _ _ hc g g' C C' s s' k k'
theorem Bb.drop {b0:Base} {w:World} {e:Env} {M M':Mm} {n b:Nat} (h:Bb b0 e M n w) (hM:∀j,M' j=if j=b then none else M j):Bb b0 e M' n w:=h.sub fun d u hd=>by
 rw [hM]at hd;split at hd
 ·cases hd
 ·exact hd
theorem Bb.move {b0:Base} {w w':World} {e:Env} {M M':Mm} {n b B t:Nat} {x y:aI} (h:Bb b0 e M n w) (hx:M b=some x) (he:e b=some (B,t)) (hB:¬b0.X B) (hw:w.grownBy w' (some B)) (hM:∀j,M' j=if j=n then some y else if j=b then none else M j) (hy:nE (e.put n (B,t)) b0 w' n y):Bb b0 (e.put n (B,t)) M' (n+1) w':=by
 have jo:e n=none:=h.new n (.inl (le_refl _));have old:∀ {c z},c≠n->M' c=some z->c≠b/\M c=some z:=by
  intro c z hc hz;rw [hM,if_neg hc]at hz;split at hz
  ·cases hz
  ·rename_i qD;exact⟨qD,hz⟩
 refine⟨fun c hc=> ?_,fun b hb=>Nat.lt_succ_of_lt (h.res b hb),fun c z hz=> ?_,fun c c' z z' hc hz lH C C' s s' k k'=> ?_,H_ h.kept hB hw⟩
 ·have wM:c≠n:=by
   rintro rfl;rcases hc with hc|hc
   ·omega
   ·exact Nat.lt_irrefl _ (h.res c hc)
  rw [Pz wM];exact h.new c (hc.imp (fun hc=>by omega) id)
 ·by_cases wM:c=n
  ·subst wM;rw [hM,if_pos rfl]at hz;cases hz;exact hy
  ·obtain⟨qD,hz⟩:=old wM hz;refine(h.bG c z hz).aP (Az.put jo _) (fun _ _ _ h=>h) fun C s hC=> ?_
   obtain⟨C',s',h1,h2,_⟩:=(h.bG c z hz).at;rw [hC]at h1;cases h1;exact hw.block C h2 fun hh=>h.eO c b z x qD hz hx C B s t hC he (Option.some.inj hh)
 ·have new:∀ {C s},(e.put n (B,t)) n=some (C,s)->C=B:=by
   intro C s hc;rw [Gd]at hc;cases hc;rfl
  by_cases hn:c=n
  ·subst hn;obtain⟨qD,g⟩:=old (Ne.symm hc) lH;have h1:=new k;subst h1;rw [Pz (Ne.symm hc)]at k';exact fun hh=>h.eO c' b z' x qD g hx C' C s' t k' he hh.symm
  ·obtain⟨qD,g⟩:=old hn hz;rw [Pz hn]at k;by_cases sb:c'=n
   ·subst sb;have h1:=new k';subst h1;exact h.eO c b z x qD g hx C C' s t k he
   ·obtain⟨_,g'⟩:=old sb lH;rw [Pz sb]at k';exact h.eO c c' z z' hc g g' C C' s s' k k'
theorem Bb.frame {b0:Base} {w:World} {e:Env} {F f:Mm} {n:Nat} (h:Bb b0 e F n w) (P:Nat->Prop) (R:Nat->Prop) (nF:∀b,b0.R b->R b) (hR:∀b,R b->b<n/\e b=none) (oq:∀j x,f j=some x->F j=some x/\¬P j): ∃b1:Base,b1.R=R/\Bb b1 e f n w/\∀e' f' n' w',Az e e'->Bb b1 e' f' n' w'->∀G:Mm,(∀j x,G j=some x->(P j/\F j=some x)\/(¬P j/\f' j=some x))->Bb b0 e' G n' w':=by
 let b1:Base:=⟨w,fun k=>b0.X k\/∃j t x,P j/\F j=some x/\e j=some (k,t),fun k hk=>by
  rcases hk with hk|⟨j,t,x,_,h2,h3⟩
  ·exact Nat.lt_of_lt_of_le (b0.lt k hk) h.kept.size
  ·obtain⟨B,t',g1,g2,_⟩:=(h.bG j x h2).at;rw [h3]at g1;cases g1;exact g2,R⟩
 refine⟨b1,rfl,⟨fun b hb=>hb.elim (fun hb=>h.new b (.inl hb)) (fun hb=>(hR b hb).2),fun b hb=>(hR b hb).1,fun b x hx=> ?_,fun b b' x x' hb hx kA=>h.eO b b' x x' hb (oq b x hx).1 (oq b' x' kA).1,⟨rfl,rfl,rfl,le_refl _,fun _ _=>rfl⟩⟩,fun e' f' n' w' hl cZ G hG=> ?_⟩
 ·obtain⟨g1,g2⟩:=oq b x hx;refine(h.bG b x g1).aP (Az.refl e) (fun B t hB hX hc=> ?_) fun _ _ _=>rfl
  rcases hc with hc|⟨j,t',x',k1,k2,k3⟩
  ·exact hX hc
  ·exact h.eO b j x x' (fun e=>g2 (e▸k1)) g1 k2 B B t t' hB k3 rfl
 ·have Ia:∀ {j x B t},P j->F j=some x->e j=some (B,t)->b1.X B:=fun {j x B t} h1 h2 h3=> .inr ⟨j,t,x,h1,h2,h3⟩
  refine⟨fun b hb=>cZ.new b (hb.imp id (nF b)),fun b hb=>cZ.res b (nF b hb),fun b x hx=> ?_,fun b b' x x' hb hx kA B B' t t' he kS=> ?_,⟨cZ.kept.os.trans h.kept.os,cZ.kept.tape.trans h.kept.tape,cZ.kept.output.trans h.kept.output,le_trans h.kept.size cZ.kept.size,fun k hk=> ?_⟩⟩
  ·rcases hG b x hx with⟨g1,g2⟩|⟨g1,g2⟩
   ·exact(h.bG b x g2).aP hl (fun _ _ _ h=>h) fun B t hB=>cZ.kept.block B (Ia g1 g2 hB)
   ·exact(cZ.bG b x g2).aP (Az.refl e') (fun B t _ hX hc=>hX (.inl hc)) fun _ _ _=>rfl
  ·have wN:∀ {c z C s},P c->F c=some z->e' c=some (C,s)->b1.X C/\e c=some (C,s):=by
    intro c z C s h1 h2 h3;obtain⟨D,u,k1,_,_⟩:=(h.bG c z h2).at;have:=hl _ _ k1;rw [h3]at this;cases this;exact⟨Ia h1 h2 k1,k1⟩
   have off:∀ {c z C s},f' c=some z->e' c=some (C,s)->¬b1.X C:=by
    intro c z C s h2 h3;obtain⟨D,u,k1,_,k3⟩:=(cZ.bG c z h2).at;rw [h3]at k1;cases k1;exact k3
   rcases hG b x hx with⟨g1,g2⟩|⟨g1,g2⟩<;>rcases hG b' x' kA with⟨k1,k2⟩|⟨k1,k2⟩
   ·exact h.eO b b' x x' hb g2 k2 B B' t t' (wN g1 g2 he).2 (wN k1 k2 kS).2
   ·exact fun hh=>off k2 kS (hh▸(wN g1 g2 he).1)
   ·exact fun hh=>off g2 he (hh▸(wN k1 k2 kS).1)
   ·exact cZ.eO b b' x x' hb g2 k2 B B' t t' he kS
  ·rw [cZ.kept.block k (.inl hk)];exact h.kept.block k hk
variable {R:Type}
def fN (n:Nat) (K:Nat->Option R):Option R:=Nat.casesOn (motive:=fun _=>Option R) (Nat.succ n) none K
theorem Ew (n:Nat) (K:Nat->Option R):fN n K=K n:=rfl
def fZ (n:Int) (K:Int->Option R):Option R:=match n with
 | .ofNat m=>fN m fun m=>K (.ofNat m)
 | .negSucc m=>fN m fun m=>K (.negSucc m)
theorem XP (n:Int) (K:Int->Option R):fZ n K=K n:=by cases n<;>simp [fZ,Ew]
def fB (b:UInt8) (K:UInt8->Option R):Option R:=fN b.toNat fun n=>K (UInt8.ofNat n)
theorem XQ (b:UInt8) (K:UInt8->Option R):fB b K=K b:=by simp [fB,Ew]
def fS:List UInt8->(List UInt8->Option R)->Option R
 |[],K=>K []|b::l,K=>fB b fun b=>fS l fun l=>K (b::l)
theorem Ib:∀(l:List UInt8) (K:List UInt8->Option R),fS l K=K l
 |[],_=>rfl
 |b::l,K=>by simp only [fS,XQ,Ib l]
def fC (v:Value) (K:Value->Option R):Option R:=match v with
 | .int k n=>fZ n fun n=>K (.int k n)
 | .bool b=>cond b (K (.bool true)) (K (.bool false))| .string ⟨⟨l⟩⟩=>fS l fun l=>K (.string ⟨⟨l⟩⟩)
 |v=>K v
theorem Ic (v:Value) (K:Value->Option R):fC v K=K v:=by
 unfold fC;split
 ·exact XP _ _
 ·rename_i b;cases b<;>rfl
 ·exact Ib _ _
 ·rfl
def tW:List Value->(List Value->Option R)->Option R
 |[],K=>K []|v::l,K=>fC v fun v=>tW l fun l=>K (v::l)
theorem zC:∀(l:List Value) (K:List Value->Option R),tW l K=K l
 |[],_=>rfl
 |b::l,K=>by simp only [tW,Ic,zC l]
def fV (v:Value) (K:Value->Option R):Option R:=match v with
 | .agg ⟨l⟩=>tW l fun l=>K (.agg ⟨l⟩)
 | .tuple ⟨l⟩=>tW l fun l=>K (.tuple ⟨l⟩)
 |v=>fC v K
theorem Ie (v:Value) (K:Value->Option R):fV v K=K v:=by
 unfold fV;split
 ·exact zC _ _
 ·exact zC _ _
 ·exact Ic _ _
def tX (a:AV) (K:AV->Option R):Option R:=match a with
 | .lit v=>fV v fun v=>K (.lit v)
 | .ptr b o=>fN b fun b=>fN o fun o=>K (.ptr b o)
 | .slice b o n sz c x=>fN b fun b=>fN o fun o=>fN n fun n=>fN sz fun sz=>fN c fun c=>cond x (K (.slice b o n sz c true)) (K (.slice b o n sz c false))
 | .map b=>fN b fun b=>K (.map b)
 |a=>K a
theorem Ig (a:AV) (K:AV->Option R):tX a K=K a:=by
 unfold tX;split
 ·exact Ie _ _
 ·simp only [Ew]
 ·rename_i x;simp only [Ew];cases x<;>rfl
 ·simp only [Ew]
 ·rfl
def sc:List AV->(List AV->Option R)->Option R
 |[],K=>K []|a::l,K=>tX a fun a=>sc l fun l=>K (a::l)
theorem Ih:∀(l:List AV) (K:List AV->Option R),sc l K=K l
 |[],_=>rfl
 |a::l,K=>by simp only [sc,Ig,Ih l]
def wO (a:AV) (K:AV->Option R):Option R:=match a with
 | .agg l=>sc l fun l=>K (.agg l)
 | .func f l m=>sc l fun l=>sc m fun m=>K (.func f l m)
 | .iface t x=>tX x fun x=>K (.iface t x)
 |a=>tX a K
theorem Ii (a:AV) (K:AV->Option R):wO a K=K a:=by
 unfold wO;split<;>simp only [Ih,Ig]
def nG:List AV->(List AV->Option R)->Option R
 |[],K=>K []|a::l,K=>wO a fun a=>nG l fun l=>K (a::l)
theorem Z6:∀(l:List AV) (K:List AV->Option R),nG l K=K l
 |[],_=>rfl
 |a::l,K=>by simp only [nG,Ii,Z6 l]
def fA (a:AV) (K:AV->Option R):Option R:=match a with
 | .agg l=>nG l fun l=>K (.agg l)
 | .tuple l=>nG l fun l=>K (.tuple l)
 | .func f l m=>nG l fun l=>nG m fun m=>K (.func f l m)
 |a=>wO a K
theorem P2 (a:AV) (K:AV->Option R):fA a K=K a:=by
 unfold fA;split<;>simp only [Z6,Ii]
def cF (tm:Tm):Operand->Option AV
 | .tmp t=>tm.get t| .const v=>some (.lit v)| .func f=>some (.lit (.func (.func f) #[] #[]))
 | .global _=>none
def mI (tm:Tm):List Operand->Option (List AV)
 |[]=>some []|x::l=>match cF tm x with
  |some a=>match mI tm l with
   |some az=>some (a::az)|none=>none
  |none=>none
structure mJ (e:Env) (tm:Tm) (a:Act):Prop where
 at_:∀t av,tm.get t=some av->t<a.tmps.size/\av.rep e (a.tmps.getD t undef)
theorem mJ.later {e e':Env} {tm:Tm} {a:Act} (h:mJ e tm a) (k:Az e e'):mJ e' tm a:=⟨fun t av ht=>⟨(h.at_ t av ht).1,E6 k (h.at_ t av ht).2⟩⟩
theorem Zi {e:Env} {tm:Tm} {a:Act} (h:mJ e tm a) {x:Operand} {av:AV} (hx:cF tm x=some av):av.rep e (a.eval x):=by
 cases x with
 |tmp t=>exact(h.at_ t av hx).2
 |const v=>simp only [cF]at hx;cases hx;simp [AV.rep,Act.eval]
 |func f=>simp only [cF]at hx;cases hx;simp [AV.rep,Act.eval]
 |global g=>simp [cF]at hx
def P3 (e:Env) (tm:Tm) (a:Act) (l:List Operand):Prop:=∀x∈l,∀av,cF tm x=some av->av.rep e (a.eval x)
theorem mJ.cR {e:Env} {tm:Tm} {a:Act} (h:mJ e tm a) (l:List Operand):P3 e tm a l:=fun _ _ _ hx=>Zi h hx
theorem P3.sub {e:Env} {tm:Tm} {a:Act} {l m:List Operand} (h:P3 e tm a l) (hs:∀x∈m,x∈l):P3 e tm a m:=fun x hx=>h x (hs x hx)
theorem N5 {e:Env} {tm:Tm} {a:Act} :∀ {l:List Operand} {az:List AV},P3 e tm a l->mI tm l=some az->AV.bF e az (l.map a.eval)
 |[],_,_,hx=>by simp only [mI]at hx;cases hx;simp [AV.bF]
 |x::l,_,h,hx=>by
  simp only [mI]at hx;split at hx
  ·rename_i av eA;split at hx
   ·rename_i az has;cases hx
    simp only [AV.bF,map_cons];exact⟨_,_,rfl,h x (by simp) _ eA,N5 (h.sub fun y hy=>by simp [hy]) has⟩
   ·cases hx
  ·cases hx
def ov {α:Type} (P:Program):Sem α->Option α
 | .pure a=>some a| .program k=>ov P (k P)| .mark _ k=>ov P k|_=>none
theorem Ij {α:Type} {P:Program} :∀ {s:Sem α} {a:α},ov P s=some a->∀w,s.run P w= .ok a w:=by
 intro s
 induction s with
 |pure a=>intro b h w;simp only [ov]at h;cases h;rfl
 |program k ih=>intro b h w;simp only [ov]at h;simp only [Sem.run];exact ih P h w
 |mark m k ih=>intro b h w;simp only [ov]at h;simp only [Sem.run];exact ih h w
 |_=>intro b h w;simp [ov]at h
def wP (tm:Tm) (x:Operand):Value:=match cF tm x with
 |some a=>match a.val? with
  |some v=>v|none=>undef
 |none=>undef
def plain (tm:Tm):List Operand->Bool
 |[]=>true|x::l=>match cF tm x with
  |some a=>a.val?.isSome&&plain tm l|none=>false
theorem Ik {e:Env} {tm:Tm} {a:Act} :∀ {l:List Operand},P3 e tm a l->plain tm l=true->∀x∈l,a.eval x=wP tm x
 |[],_,_,_,hx=>by cases hx
 |y::l,h,hp,x,hx=>by
  simp only [plain]at hp;split at hp
  ·rename_i av eA;simp only [and_eq_true]at hp;rcases List.mem_cons.1 hx with rfl|hx
   ·obtain⟨v,hv⟩:=Option.isSome_iff_exists.1 hp.1;unfold wP;rw [eA];simp only [hv];exact zA hv (h _ (by simp) _ eA)
   ·exact Ik (h.sub fun z hz=>by simp [hz]) hp.2 x hx
  ·cases hp
def zD (o:Oper):Bool:=match o.op with
 | .select .. =>false|_=>true
def P4 (P:Program) (tm:Tm) (o:Oper):Option AV:=
 cond (zD o&&plain tm o.op.operands.toList) (match ov P (execOp (wP tm) o)with
  |some (.value v)=>some (.lit v)|_=>none) none
def M9 (P:Program) (tm:Tm) (o:Oper) (av:AV):Prop:=∀e a,P3 e tm a o.op.operands.toList->∃v,av.rep e v/\∀w,(execOp a.eval o).run P w= .ok (.value v) w
theorem Ez {P:Program} {tm:Tm} {o:Oper} {av:AV} (h:P4 P tm o=some av):M9 P tm o av:=by
 intro e a ht;unfold P4 at h;cases hc:(zD o&&plain tm o.op.operands.toList)with
 |false=>rw [hc]at h;cases h
 |true=>
  rw [hc]at h;simp only [and_eq_true]at hc;simp only [cond_true]at h;split at h
  ·rename_i v hv;cases h
   refine⟨v,by simp [AV.rep],fun w=> ?_⟩;rw [execOp_congr (ρ':=wP tm) o (fun cs b hs=>by have h1:=hc.1;unfold zD at h1;rw [hs]at h1;cases h1) (fun x hx=>Ik ht hc.2 x (by simpa using hx))];exact Ij hv w
  ·cases h
def ow (P:Program) (t:TypeId):Option Bool:=match P.underlying t with
 |some (.struct _)=>some true|some (.array _ _)=>some true|some _=>some false|none=>none
theorem Na {P:Program} {t:TypeId} {b:Bool} (h:ow P t=some b) (w:World):(isAgg t).run P w= .ok b w:=by
 unfold ow at h;split at h
 ·rename_i hd;cases h;rw [G9 hd]
 ·rename_i hd;cases h;rw [G9 hd]
 ·rename_i d h1 h2 hd;cases h
  rw [G9 hd];cases d<;>first|rfl|exact absurd rfl (h1 _)|exact absurd rfl (h2 _ _)
 ·cases h
def wQ (P:Program) (t:TypeId) (l:List AV) (off:Nat):Option AV:=match ow P t,P.info? t with
 |some true,some i=>cond (ble (off+i.size) l.length) (some (.agg ((l.drop off).take i.size))) none|some false,_=>l[off]?|_,_=>none
theorem Il {P:Program} {t:TypeId} {l:List AV} {off:Nat} {av:AV} (h:wQ P t l off=some av) {e:Env} {vs:List Value} (hr:AV.bF e l vs):∃v,av.rep e v/\∀w,(part t ⟨vs⟩ off).run P w= .ok v w:=by
 unfold wQ at h;split at h
 ·rename_i i ha hi;cases hc:ble (off+i.size) l.length with
  |false=>rw [hc]at h;cases h
  |true=>
   rw [hc]at h;cases h;refine⟨_,by simp only [AV.rep];exact⟨_,rfl,Et (F3 hr)⟩,fun w=> ?_⟩;simp only [part,Sem.run_bind,Na ha,Result.andThen_ok,if_true,sizeOf,typeInfo,run_program,hi,Sem.run_pure];congr 2;apply ext';simp [List.drop_take]
 ·rename_i ha;obtain⟨v,hv,lI⟩:=Jd hr h;refine⟨v,lI,fun w=> ?_⟩;simp only [part,Sem.run_bind,Na ha,Result.andThen_ok,Bool.false_eq_true,if_false];have:(⟨vs⟩:Array Value)[off]? =some v:=by simpa using hv
  rw [this];rfl
 ·cases h
def T3:List AV->Nat->List AV->List AV
 |l,_,[]=>l|l,i,a::az=>T3 (l.set i a) (i+1) az
theorem Im:∀(az l:List AV) (i:Nat),(T3 l i az).length=l.length
 |[],_,_=>rfl
 |_::az,l,i=>by simp only [T3];rw [Im az];simp
theorem T4 {e:Env} :∀ {az:List AV} {us:List Value} {l:List AV} {vs:List Value} (i:Nat),AV.bF e az us->AV.bF e l vs->AV.bF e (T3 l i az) (over vs i us)
 |[],_,_,_,_,h,k=>by simp only [AV.bF]at h;subst h;exact k
 |_::_,_,_,_,i,h,k=>by
  simp only [AV.bF]at h;obtain⟨x,xs,rfl,h1,h2⟩:=h;exact T4 (i+1) h2 (XL k i h1)
theorem Vu:∀(us vs:List Value) (i:Nat),(over vs i us).length=vs.length
 |[],_,_=>rfl
 |u::us,vs,i=>by simp only [over];rw [Vu us];simp
def O2 (place:Nat->Option (Nat×Nat)):List AV->List (Nat×AV)->Option (List AV)
 |l,[]=>some l|l,(i,a)::r=>match place i with
  |some (off,size)=>cond (Nat.beq a.cells.length size&&ble (off+size) l.length) (O2 place (T3 l off a.cells) r) none|none=>none
theorem Io:∀(us:List Value) (cs:Array Value) (off j:Nat),((us.zipIdx j).foldl (fun(cs:Array Value) (x:Value×Nat)=>cs.setIfInBounds (off+x.2) x.1) cs).toList=over cs.toList (off+j) us
 |[],_,_,_=>rfl
 |u::us,cs,off,j=>by
  simp only [List.zipIdx_cons,List.foldl_cons,over];rw [Io us];simp [Nat.add_assoc]
theorem XR (v:Array Value) (cs:Array Value) (off:Nat):(v.zipIdx.foldl (fun(cs:Array Value) (x:Value×Nat)=>cs.setIfInBounds (off+x.2) x.1) cs).toList=over cs.toList off v.toList:=by
 have:=Io v.toList cs off 0;rw [Nat.add_zero]at this;rw [←this];congr 1;rw [←Array.foldl_toList];simp
theorem T5 {place:Nat->Option (Nat×Nat)} {e:Env} :∀ {r:List (Nat×AV)} {l l':List AV} {cs:Array Value} {vs:List (Nat×Value)},O2 place l r=some l'->AV.bF e l cs.toList->
 vs.map (·.1)=r.map (·.1)->AV.bF e (r.map (·.2)) (vs.map (·.2))->∃fU,Instr.fill place cs vs=some fU/\AV.bF e l' fU.toList
 |[],l,l',cs,vs,h,hl,h1,_=>by
  simp only [O2]at h;cases h;cases vs with
  |nil=>exact⟨cs,rfl,hl⟩
  |cons=>simp at h1
 |(i,a)::r,l,l',cs,vs,h,hl,h1,h2=>by
  cases vs with
  |nil=>simp at h1
  |cons p vs=>
   obtain⟨i',v⟩:=p;simp only [map_cons,List.cons.injEq]at h1;obtain⟨rfl,h1⟩:=h1;simp only [map_cons,AV.bF]at h2;obtain⟨x,xs,hx,hv,h2⟩:=h2;simp only [List.cons.injEq]at hx;obtain⟨rfl,rfl⟩:=hx;simp only [O2]at h;split at h
   ·rename_i off size hp;cases hc:(Nat.beq a.cells.length size&&ble (off+size) l.length)with
    |false=>rw [hc]at h;cases h
    |true=>
     rw [hc]at h;simp only [and_eq_true]at hc;have c1:=eq_of_beq_eq_true hc.1;have c2:=le_of_ble_eq_true hc.2;have sd:=M8 hv;have hlen:=A5 sd;have zE:=A5 hl;have eb:v.cells.size=size:=by rw [←c1,←hlen];simp
     have gJ:off+v.cells.size<=cs.size:=by rw [eb];have:cs.size=l.length:=by simpa using zE
                                           omega
     simp only [Instr.fill,hp];have hn:¬(v.cells.size≠size\/off+v.cells.size>cs.size):=by omega
     have lJ:((decide (v.cells.size≠size))||decide (off+v.cells.size>cs.size))=false:=by
      simp [eb];rw [←eb];exact gJ
     have:=T5 (cs:=v.cells.zipIdx.foldl (fun(cs:Array Value) (x:Value×Nat)=>cs.setIfInBounds (off+x.2) x.1) cs) (vs:=vs) h (by rw [XR];exact T4 off sd hl) h1 h2;obtain⟨fU,g1,g2⟩:=this;refine⟨fU,?_,g2⟩;rw [←g1];rw [if_neg (by simpa using lJ)]
   ·cases h
def T6 (tm:Tm) (x:Operand):Option Int:=match cF tm x with
 |some (.lit (.int _ n))=>some n|_=>none
theorem Ed {e:Env} {tm:Tm} {a:Act} {l:List Operand} (h:P3 e tm a l) {x:Operand} (hl:x∈l) {n:Int} (hx:T6 tm x=some n):∃k,a.eval x= .int k n:=by
 unfold T6 at hx;split at hx
 ·rename_i k m hm;cases hx
  have:=h x hl _ hm;simp only [AV.rep]at this;exact⟨k,this⟩
 ·cases hx
def zF (P:Program) (tm:Tm) (t:TypeId) (b k n sz c:Nat) (ex:Bool) (lo hi mx:Option Operand):Option AV:=match P.underlying t with
 |some (.slice e)=>match P.info? e with
  |some i=>cond (Nat.beq i.size sz) (match lo,hi,mx with
   |none,none,none=>some (.slice b k n sz c ex)|some l,none,none=>match T6 tm l with
    |some l=>cond (decide (0<=l)&&decide (l<=n)) (some (.slice b (k+l.toNat*sz) (n-l.toNat) sz (c-l.toNat) ex)) none|none=>none
   |none,some h,none=>match T6 tm h with
    |some h=>cond (decide (0<=h)&&(decide (h<=n)||decide (h<=c))) (some (.slice b k h.toNat sz c ex)) none|none=>none
   |some l,some h,none=>match T6 tm l,T6 tm h with
    |some l,some h=>cond (decide (0<=l)&&decide (l<=h)&&(decide (h<=n)||decide (h<=c))) (some (.slice b (k+l.toNat*sz) (h.toNat-l.toNat) sz (c-l.toNat) ex)) none|_,_=>none
   |none,some h,some m=>match T6 tm h,T6 tm m with
    |some h,some m=>cond (decide (0<=h)&&decide (h<=m)&&(decide (m<=n)||decide (m<=c))) (some (.slice b k h.toNat sz m.toNat true)) none|_,_=>none
   |_,_,_=>none) none
  |none=>none
 |_=>none
def Kz (P:Program) (t:TypeId):Option (List AV):=match P.info? t with
 |some i=>match i.zero with
  |some z=>some (AV.cells (.lit z))|none=>none
 |none=>none
def pz (tm:Tm):List (Nat×Operand)->Option (List (Nat×AV))
 |[]=>some []|(i,x)::l=>match cF tm x with
  |some a=>match pz tm l with
   |some az=>some ((i,a)::az)|none=>none
  |none=>none
def Vv (P:Program):List Field->Option (List (Nat×Nat))
 |[]=>some []|f::fs=>match P.info? f.type with
  |some i=>match Vv P fs with
   |some r=>some ((f.offset,i.size)::r)|none=>none
  |none=>none
def wR (P:Program) (tm:Tm) (t:TypeId) (parts:List (Nat×Operand)):Option AV:=match Kz P t,pz tm parts with
 |some z,some ps=>match P.underlying t with
  |some (.struct fs)=>match Vv P fs.toList with
   |some l=>match O2 (l[·]?) z ps with
    |some r=>some (.agg r)|none=>none
   |none=>none
  |some (.array _ e)=>match P.info? e with
   |some i=>match O2 (fun k=>some (k*i.size,i.size)) z ps with
    |some r=>some (.agg r)|none=>none
   |none=>none
  |_=>none
 |_,_=>none
def zG (d:Option TypeDesc):AV->AV->Option Bool
 | .ptr ..,.lit (.pointer none)=>match d with
  |some (.pointer _)=>some false|_=>none
 | .slice ..,.lit (.slice none _ _)=>match d with
  |some (.slice _)=>some false|_=>none
 | .map _,.lit (.map none)=>match d with
  |some (.map _ _)=>some false|_=>none
 | .iface ..,.lit .nilIface=>match d with
  |some (.interface _)=>some false|_=>none
 | .func ..,.lit .nilFunc=>match d with
  |some (.func ..)=>some false
  |_=>none
 |_,_=>none
def nH (op:BinOp) (lo hi n:Int):Option Bool:=match op with
 | .lss=>cond (decide (hi<n)) (some true) (cond (decide (n<=lo)) (some false) none)| .leq=>cond (decide (hi<=n)) (some true) (cond (decide (n<lo)) (some false) none)| .gtr=>cond (decide (n<lo)) (some true) (cond (decide (hi<=n)) (some false) none)| .geq=>cond (decide (n<=lo)) (some true) (cond (decide (hi<n)) (some false) none)| .eql=>cond (decide (hi<n)||decide (n<lo)) (some false) none| .neq=>cond (decide (hi<n)||decide (n<lo)) (some true) none|_=>none
def Xa:BinOp->BinOp
 | .lss=> .gtr| .leq=> .geq| .gtr=> .lss| .geq=> .leq|op=>op
def zH (op:BinOp):AV->AV->Option Bool
 | .nC k lo hi,.lit (.int k' n)=>cond (decide (k=k')) (nH op lo hi n) none| .lit (.int k' n),.nC k lo hi=>cond (decide (k=k')) (nH (Xa op) lo hi n) none| .same _ k lo hi,.lit (.int k' n)=>cond (decide (k=k')) (nH op lo hi n) none| .lit (.int k' n),.same _ k lo hi=>cond (decide (k=k')) (nH (Xa op) lo hi n) none| .same i k _ _,.same j k' _ _=>cond (Nat.beq i j&&decide (k=k')) (match op with
  | .eql=>some true| .neq=>some false|_=>none) none
 |_,_=>none
def Sh (ok:Bool) (a:AV):AV:=cond ok (.tuple [a,.lit (.bool true)]) a
def zI (P:Program) (t asserted:TypeId) (ok:Bool) (a:AV):Option AV:=match P.underlying asserted with
 |some (.interface want)=>match P.info? t with
  |some i=>match Instr.missingMethod want i.methods with
   |none=>some (Sh ok (.iface t a))|some _=>none
  |none=>none
 |some _=>cond (Nat.beq t asserted) (some (Sh ok a)) (cond ok (match P.info? asserted with
  |some i=>match i.zero with
   |some z=>some (.tuple [.lit z,.lit (.bool false)])|none=>none
  |none=>none) none)
 |none=>none
def Jy (P:Program) (tm:Tm) (o:Oper):Option AV:=match o.op with
 | .move x=>cF tm x| .assign x=>cF tm x| .pick c x y=>match cF tm c with
  |some (.lit (.bool b))=>cond b (cF tm x) (cF tm y)|_=>none
 | .nilCheck x=>match cF tm x with
  |some (.ptr b k)=>some (.ptr b k)|some (.func f l m)=>some (.func f l m)
  |some (.lit _)=>P4 P tm o|_=>none
 | .fieldAddr t x f=>match cF tm x,P.underlying t with
  |some (.ptr b k),some (.struct fs)=>match fs[f]? with
   |some j8=>match P.info? j8.type with
    |some i=>cond (Nat.beq i.size 0) none (some (.ptr b (k+j8.offset)))|none=>none
   |none=>none
  |_,_=>none
 | .indexAddr t x i=>match T6 tm i with
  |some n=>match cF tm x,P.underlying t with
   |some (.slice b k len sz _ _),some (.slice e)=>match P.info? e with
    |some inf=>cond (decide (0<=n)&&decide (n<len)&&Nat.beq inf.size sz) (some (.ptr b (k+n.toNat*sz))) none|none=>none
   |some (.ptr b k),some (.array len e)=>match P.info? e with
    |some inf=>cond (decide (0<=n)&&decide (n<len)) (some (.ptr b (k+n.toNat*inf.size))) none|none=>none
   |_,_=>none
  |none=>none
 | .slice t x lo hi mx=>match cF tm x with
  |some (.slice b k n sz c ex)=>zF P tm t b k n sz c ex lo hi mx|some (.lit _)=>P4 P tm o|_=>none
 | .field t x f=>match cF tm x with
  |some (.agg l)=>match P.underlying t with
   |some (.struct fs)=>match fs[f]? with
    |some j8=>wQ P j8.type l j8.offset|none=>none
   |_=>none
  |some (.lit _)=>P4 P tm o|_=>none
 | .index t x i=>match cF tm x with
  |some (.agg l)=>match P.underlying t,T6 tm i with
   |some (.array len e),some n=>match P.info? e with
    |some inf=>cond (decide (0<=n)&&decide (n<len)) (wQ P e l (n.toNat*inf.size)) none|none=>none
   |_,_=>none
  |some (.lit _)=>P4 P tm o|_=>none
 | .extract x i=>match cF tm x with
  |some (.tuple l)=>l[i]?|some (.lit _)=>P4 P tm o|_=>none
 | .build t ps=>cond (plain tm (ps.toList.map (·.2))) (P4 P tm o) (wR P tm t ps.toList)| .makeFunc (.func f) first kf=>match mI tm first.toList,mI tm kf.toList with
  |some l,some m=>some (.func f l m)
  |_,_=>none
 | .binOp op t x y _=>match cF tm x,cF tm y with
  |some u,some v=>match zG (P.underlying t) u v with
   |some b=>match op with
    | .eql=>some (.lit (.bool b))| .neq=>some (.lit (.bool !b))|_=>none
   |none=>match zH op u v with
    |some b=>some (.lit (.bool b))|none=>P4 P tm o
  |_,_=>none
 | .call { callee:= .builtin .len,args:=⟨[x]⟩,argTypes:=⟨[t]⟩ } =>match cF tm x with
  |some (.slice _ _ n _ _ _)=>match P.underlying t with
   |some (.slice _)=>some (.lit (.int .i64 n))|_=>none
  |some (.lit _)=>P4 P tm o|_=>none
 | .call { callee:= .builtin .cap,args:=⟨[x]⟩,argTypes:=⟨[t]⟩ } =>match cF tm x with
  |some (.slice _ _ _ _ c true)=>match P.underlying t with
   |some (.slice _)=>some (.lit (.int .i64 c))|_=>none
  |some (.lit _)=>P4 P tm o|_=>none
 | .call { callee:= .builtin .min,.. } =>P4 P tm o| .call { callee:= .builtin .max,.. } =>P4 P tm o| .unOp .. =>P4 P tm o| .convert .. =>P4 P tm o| .makeInterface t x=>cond (plain tm [x]) (P4 P tm o) (match cF tm x with
  |some a=>match P.underlying t with
   |some (.interface _)=>none|some _=>some (.iface t a)|none=>none
  |none=>none)
 | .typeAssert x _ t ok=>match cF tm x with
  |some (.iface d a)=>zI P d t ok a|_=>P4 P tm o
 |_=>none
theorem wS (B o n:Nat):(⟨B,o,none⟩:Addr).add n=⟨B,o+n,none⟩:=Fc B o n
theorem N6 {P:Program} {o:Oper} {av:AV} {e:Env} {a:Act} {p:gI} (hp:Bw P a.eval o=some p) (h:p.then fun v=>av.rep e v):∃v,av.rep e v/\∀w,(execOp a.eval o).run P w= .ok (.value v) w:=by
 obtain⟨v,h1,_,h2⟩:=Fo hp h;exact⟨v,h1,h2⟩
theorem XS {P:Program} {tm:Tm} {o:Oper} {t:TypeId} {x:Operand} {lo hi mx:Option Operand} {b k n sz c:Nat} {ex:Bool} {av:AV} (ho:o.op= .slice t x lo hi mx) (h:zF P tm t b k n sz c ex lo hi mx=some av) (hx:cF tm x=some (.slice b k n sz c ex)):M9 P tm o av:=by
 intro e a ht;have hr:=ht _ (by simp [ho,Op.operands]) _ hx;simp only [AV.rep]at hr;obtain⟨B,tt,kk,A,h1,h2,h3,h4,h5,h6,h7⟩:=hr;unfold zF at h;split at h
 case h_2=>cases h
 rename_i el hu;split at h
 case h_2=>cases h
 rename_i inf hi;cases hb:Nat.beq inf.size sz with
 |false=>rw [hb]at h;cases h
 |true=>
 rw [hb]at h;have eb:inf.size=sz:=eq_of_beq_eq_true hb;simp only [cond_true]at h;have key:∀(l h':Nat),l<=h'->h'<=kk->(AV.slice b (k+l*sz) (h'-l) sz (c-l) ex).rep e (.slice (Kd (some A) l kk inf.size) (h'-l) (kk-l)):=by
  intro l h' g1 g2;simp only [AV.rep];by_cases hk:kk=l
  ·subst hk;refine⟨B,tt,0,A,h1,by simp [Kd],.inr rfl,by omega,by omega,fun hx=>by have:=h6 hx;omega,?_⟩;simp only [Nat.zero_mul,Nat.add_zero];omega
  ·rcases h3 with rfl|h3
   ·refine⟨B,tt,kk-l,⟨B,k+l*sz,none⟩,h1,?_,.inl rfl,by omega,by omega,fun hx=>by have:=h6 hx;omega,?_⟩
    ·unfold Kd;rw [if_neg hk,eb];simp [wS]
    ·have:l*sz+(kk-l)*sz=kk*sz:=by rw [←add_mul];congr 1;omega
     omega
   ·omega
 have kR:∀p,Bw P a.eval o=some p->(p.then fun v=>av.rep e v)->∃v,av.rep e v/\∀w,(execOp a.eval o).run P w= .ok (.value v) w:=fun p=>N6 (e:=e)
 split at h
 ·cases h
  refine kR (.when True (.slice (Kd (some A) 0 kk inf.size) (n-0) (kk-0))) (by simp only [Bw,ho,hu,h2,bounds,map_none,hi]) ⟨trivial,?_⟩;have:=key 0 n (by omega) h4;simpa using this
 ·rename_i l;split at h
  ·rename_i l' hl;cases hc:(decide (0<=l')&&decide (l'<=(n:Int)))with
   |false=>rw [hc]at h;cases h
   |true=>
    rw [hc]at h;cases h;simp only [and_eq_true,decide_eq_true_eq]at hc;obtain⟨kd,hl⟩:=Ed ht (by simp [ho,Op.operands]) hl;exact kR (.when (0<=l'/\l'<=(n:Int)) (.slice (Kd (some A) l'.toNat kk inf.size) (n-l'.toNat) (kk-l'.toNat))) (by simp only [Bw,ho,hu,h2,bounds,map_none,map_some,hl,hi]) ⟨⟨hc.1,hc.2⟩,key l'.toNat n (by omega) h4⟩
  ·cases h
 ·rename_i l;split at h
  ·rename_i l' hl;cases hc:(decide (0<=l')&&(decide (l'<=(n:Int))||decide (l'<=(c:Int))))with
   |false=>rw [hc]at h;cases h
   |true=>
    rw [hc]at h;cases h;simp only [and_eq_true,or_eq_true,decide_eq_true_eq]at hc;obtain⟨kd,hl⟩:=Ed ht (by simp [ho,Op.operands]) hl;refine kR (.when (0<=l'/\l'<=(kk:Int)) (.slice (Kd (some A) 0 kk inf.size) (l'.toNat-0) (kk-0))) (by simp only [Bw,ho,hu,h2,bounds,map_none,map_some,hl,hi]) ⟨⟨hc.1,by omega⟩,?_⟩;have:=key 0 l'.toNat (by omega) (by omega);simpa using this
  ·cases h
 ·rename_i l l2;split at h
  ·rename_i l' h' hl hh;cases hc:(decide (0<=l')&&decide (l'<=h')&&(decide (h'<=(n:Int))||decide (h'<=(c:Int))))with
   |false=>rw [hc]at h;cases h
   |true=>
    rw [hc]at h;cases h;simp only [and_eq_true,or_eq_true,decide_eq_true_eq]at hc;obtain⟨kd,hl⟩:=Ed ht (by simp [ho,Op.operands]) hl;obtain⟨XT,hh⟩:=Ed ht (by simp [ho,Op.operands]) hh;exact kR (.when ((0<=h'/\h'<=(kk:Int))/\0<=l'/\l'<=(h'.toNat:Int)) (.slice (Kd (some A) l'.toNat kk inf.size) (h'.toNat-l'.toNat) (kk-l'.toNat))) (by simp only [Bw,ho,hu,h2,bounds,map_some,hl,hh,hi]) ⟨⟨⟨by omega,by omega⟩,hc.1.1,by omega⟩,key l'.toNat h'.toNat (by omega) (by omega)⟩
  ·cases h
 ·rename_i l l2;split at h
  ·rename_i h' m' hh hm;cases hc:(decide (0<=h')&&decide (h'<=m')&&(decide (m'<=(n:Int))||decide (m'<=(c:Int))))with
   |false=>rw [hc]at h;cases h
   |true=>
    rw [hc]at h;cases h;simp only [and_eq_true,or_eq_true,decide_eq_true_eq]at hc;obtain⟨kd,hh⟩:=Ed ht (by simp [ho,Op.operands]) hh;obtain⟨XT,hm⟩:=Ed ht (by simp [ho,Op.operands]) hm;refine kR (.when ((0<=m'/\m'<=(kk:Int))/\0<=h'/\h'<=(m'.toNat:Int)) (.slice (some A) h'.toNat m'.toNat)) (by simp only [Bw,ho,hu,h2,hh,hm,hi]) ⟨⟨⟨by omega,by omega⟩,by omega,by omega⟩,?_⟩;simp only [AV.rep];refine⟨B,tt,m'.toNat,A,h1,rfl,?_,by omega,le_refl _,fun _=>rfl,?_⟩
    ·rcases h3 with h3|h3
     ·exact .inl h3
     ·exact .inr (by omega)
    ·have:m'.toNat*sz<=kk*sz:=Nat.mul_le_mul_right _ (by omega);omega
  ·cases h
 ·cases h
theorem zJ {tm:Tm} {e:Env} {a:Act} :∀ {l:List (Nat×Operand)} {az:List (Nat×AV)},P3 e tm a (l.map (·.2))->pz tm l=some az->
 (l.map fun p=>(p.1,a.eval p.2)).map (·.1)=az.map (·.1)/\AV.bF e (az.map (·.2)) ((l.map fun p=>(p.1,a.eval p.2)).map (·.2))
 |[],_,_,h=>by simp only [pz]at h;cases h;exact⟨rfl,by simp [AV.bF]⟩
 |(i,x)::l,_,ht,h=>by
  simp only [pz]at h;split at h
  ·rename_i av eA;split at h
   ·rename_i az has;cases h
    obtain⟨h1,h2⟩:=zJ (ht.sub fun y hy=>by simp only [map_cons];exact List.mem_cons_of_mem _ hy) has;refine⟨by simp only [map_cons,h1],?_⟩;simp only [map_cons,AV.bF];exact⟨_,_,rfl,ht x (by simp) _ eA,h2⟩
   ·cases h
  ·cases h
theorem Vw {P:Program} {t:TypeId} {z:List AV} (h:Kz P t=some z):∃v,(∀e,AV.bF e z v.cells.toList)/\∀w,(zeroValue t).run P w= .ok v w:=by
 unfold Kz at h;split at h
 ·rename_i i hi;split at h
  ·rename_i v hv;cases h
   exact⟨v,fun e=>M8 (by simp [AV.rep]),fun w=>by simp [zeroValue,typeInfo,hi,hv]⟩
  ·cases h
 ·cases h
theorem Ip {P:Program} :∀ {fs:List Field} {r:List (Nat×Nat)},Vv P fs=some r->∀w,(fs.mapM fun f=>(do pure (f.offset,←sizeOf f.type):Sem (Nat×Nat))).run P w= .ok r w
 |[],_,h,w=>by simp only [Vv]at h;cases h;rfl
 |f::fs,_,h,w=>by
  simp only [Vv]at h;split at h
  ·rename_i i hi;split at h
   ·rename_i r hr;cases h
    have:=Ip hr w;simp only [List.mapM_cons,Sem.run_bind,sizeOf,typeInfo,run_program,Result.andThen_ok,hi,Sem.run_pure]at this⊢;rw [this];rfl
   ·cases h
  ·cases h
theorem Iq {P:Program} {tm:Tm} {o:Oper} {t:TypeId} {ps:Array (Nat×Operand)} {av:AV} (ho:o.op= .build t ps) (h:wR P tm t ps.toList=some av):M9 P tm o av:=by
 intro e a ht;unfold wR at h;split at h
 case h_2=>cases h
 rename_i z az hz has;obtain⟨zv,Ir,Iu⟩:=Vw hz;obtain⟨p1,p2⟩:=zJ (ht.sub fun y hy=>by simpa [ho,Op.operands] using hy) has;have mh:(ps.map fun(i,x)=>(i,a.eval x)).toList=ps.toList.map fun p=>(p.1,a.eval p.2):=by simp
 split at h
 ·rename_i fs hu;split at h
  case h_2=>cases h
  rename_i l hl;split at h
  case h_2=>cases h
  rename_i r hr;cases h
  obtain⟨fU,g1,g2⟩:=T5 (cs:=zv.cells) hr (Ir e) p1 p2;refine⟨.agg fU,by simp only [AV.rep];exact⟨fU.toList,rfl,g2⟩,fun w=> ?_⟩;have hs:=Ip (P:=P) hl w;have hm:(fs.mapM fun f=>(do pure (f.offset,←sizeOf f.type):Sem (Nat×Nat))).run P w= .ok l.toArray w:=by
   rw [Array.mapM_eq_mapM_toList,Sem.run_map,hs];rfl
  have hg:(fun i:Nat=>l.toArray[i]?)=(fun i:Nat=>l[i]?):=by funext i;simp
  simp only [execOp,ho,Instr.build,Sem.run_bind,Iu w,Result.andThen_ok,underlying,run_program,hu,Sem.run_pure,hm,mh,hg,g1]
 ·rename_i n el hu;split at h
  case h_2=>cases h
  rename_i i hi;split at h
  case h_2=>cases h
  rename_i r hr;cases h
  obtain⟨fU,g1,g2⟩:=T5 (cs:=zv.cells) hr (Ir e) p1 p2;refine⟨.agg fU,by simp only [AV.rep];exact⟨fU.toList,rfl,g2⟩,fun w=> ?_⟩;simp only [execOp,ho,Instr.build,Sem.run_bind,Iu w,Result.andThen_ok,underlying,run_program,hu,Sem.run_pure,sizeOf,typeInfo,hi,mh,g1]
 ·cases h
theorem XU {P:Program} {tm:Tm} {o:Oper} {t yt:TypeId} {op:BinOp} {x y:Operand} {u v:AV} {b:Bool} (ho:o.op= .binOp op t x y yt) (hx:cF tm x=some u) (hy:cF tm y=some v) (hn:zG (P.underlying t) u v=some b): (op= .eql->M9 P tm o (.lit (.bool b)))/\(op= .neq->M9 P tm o (.lit (.bool !b))):=by
 unfold zG at hn;split at hn
 ·split at hn
  case h_2=>cases hn
  rename_i el hu;cases hn
  constructor
  all_goals
   rintro rfl e a ht;have rx:=ht x (by simp [ho,Op.operands]) _ hx;have ry:=ht y (by simp [ho,Op.operands]) _ hy;simp only [AV.rep]at rx ry;obtain⟨B,tt,h1,h2⟩:=rx;refine N6 (e:=e) (p:= .val (.bool _)) (by simp only [Bw,ho,h2,ry,hu,Hy,Bool.and_false,cond_false];rfl) ?_;simp [gI.then,AV.rep]
 ·split at hn
  case h_2=>cases hn
  rename_i el hu;cases hn
  constructor
  all_goals
   rintro rfl e a ht;have rx:=ht x (by simp [ho,Op.operands]) _ hx;have ry:=ht y (by simp [ho,Op.operands]) _ hy;simp only [AV.rep]at rx ry;obtain⟨B,tt,k,A,h1,h2,_⟩:=rx;refine N6 (e:=e) (p:= .val (.bool _)) (by simp only [Bw,ho,h2,ry,hu,Hy,Bool.and_false,cond_false];rfl) ?_;simp [gI.then,AV.rep]
 ·split at hn
  case h_2=>cases hn
  rename_i el hu;cases hn
  constructor
  all_goals
   rintro rfl e a ht;have rx:=ht x (by simp [ho,Op.operands]) _ hx;have ry:=ht y (by simp [ho,Op.operands]) _ hy;simp only [AV.rep]at rx ry;obtain⟨B,tt,h1,h2⟩:=rx;refine N6 (e:=e) (p:= .val (.bool _)) (by simp only [Bw,ho,h2,ry,hu,Hy,Bool.and_false,cond_false];rfl) ?_;simp [gI.then,AV.rep]
 ·split at hn
  case h_2=>cases hn
  rename_i el hu;cases hn
  constructor
  all_goals
   rintro rfl e a ht;have rx:=ht x (by simp [ho,Op.operands]) _ hx;have ry:=ht y (by simp [ho,Op.operands]) _ hy;simp only [AV.rep]at rx ry;obtain⟨B,h2,_⟩:=rx;refine⟨.bool _,by (simp only [AV.rep];rfl),fun w=> ?_⟩;have hq:∀(t':TypeId) (v:Value),Sem.run P (Op.equalIn Op.maxDepth t (.iface t' v) .nilIface) w= .ok false w:=by
    have h0:∀(d:Nat) (t':TypeId) (v:Value),(Op.equalIn (d+1) t (.iface t' v) .nilIface).run P w= .ok false w:=fun d t' v=>by simp [Op.equalIn,underlying,hu]
    exact fun t' v=>h0 9999 t' v
   simp [execOp,ho,h2,ry,eqGuard,binOp,Op.equal,underlying,hu,hq]
 ·split at hn
  case h_2=>cases hn
  rename_i ps rs vr hu;cases hn
  constructor
  all_goals
   rintro rfl e a ht;have rx:=ht x (by simp [ho,Op.operands]) _ hx;have ry:=ht y (by simp [ho,Op.operands]) _ hy;simp only [AV.rep]at rx ry;obtain⟨vs,us,h2,_⟩:=rx;refine⟨.bool _,by (simp only [AV.rep];rfl),fun w=> ?_⟩;have hq:∀(a:Value) (l m:Array Value) (f:FuncId),Sem.run P (Op.equalIn Op.maxDepth t (.func (.func f) l m) .nilFunc) w= .ok false w:=by
    have h0:∀(d:Nat) (l m:Array Value) (f:FuncId),(Op.equalIn (d+1) t (.func (.func f) l m) .nilFunc).run P w= .ok false w:=fun d l m f=>by simp [Op.equalIn,underlying,hu]
    exact fun _ l m f=>h0 9999 l m f
   simp [execOp,ho,h2,ry,eqGuard,binOp,Op.equal,underlying,hu,hq undef]
 ·cases hn
theorem XV {P:Program} {tm:Tm} {o:Oper} {x:Operand} {xt d t:TypeId} {ok:Bool} {a av:AV} (ho:o.op= .typeAssert x xt t ok) (hx:cF tm x=some (.iface d a)) (h:zI P d t ok a=some av):M9 P tm o av:=by
 intro e ac ht;have hr:=ht _ (by simp [ho,Op.operands]) _ hx;simp only [AV.rep]at hr;obtain⟨u,h2,h3⟩:=hr;have holds:∀ {b:AV} {v:Value},b.rep e v->(Sh ok b).rep e (if ok then .tuple #[v,.bool true]else v):=by
  intro b v hb;cases ok with
  |true=>simp only [Sh,cond_true,if_true,AV.rep];exact⟨[v,.bool true],rfl,by simp only [AV.bF];exact⟨_,_,rfl,hb,_,_,rfl,by simp only [AV.rep],rfl⟩⟩
  |false=>exact hb
 unfold zI at h;split at h
 ·rename_i want hu;split at h
  case h_2=>cases h
  rename_i i hi;split at h
  case h_2=>cases h
  rename_i hm;cases h
  refine⟨_,holds (b:= .iface d a) (v:= .iface d u) (by simp only [AV.rep];exact⟨u,rfl,h3⟩),fun w=> ?_⟩;simp [execOp,ho,Instr.typeAssert,h2,underlying,hu,typeInfo,hi,hm]
 ·rename_i ds bZ hu;cases hb:Nat.beq d t with
  |true=>
   rw [hb]at h;simp only [cond_true]at h;cases h
   have:=eq_of_beq_eq_true hb;subst this;refine⟨_,holds h3,fun w=> ?_⟩;cases ds<;>first|exact absurd rfl (bZ _)|simp [execOp,ho,Instr.typeAssert,h2,underlying,hu]
  |false=>
   rw [hb]at h;simp only [cond_false]at h;have XW:d≠t:=fun e=>by subst e;simp at hb
   cases ok with
   |false=>cases h
   |true=>
    simp only [cond_true]at h;split at h
    case h_2=>cases h
    rename_i i hi;split at h
    case h_2=>cases h
    rename_i z hz;cases h
    refine⟨.tuple #[z,.bool false],by simp only [AV.rep];exact⟨[z,.bool false],rfl,by simp only [AV.bF,AV.rep];exact⟨_,_,rfl,rfl,_,_,rfl,rfl,rfl⟩⟩,fun w=> ?_⟩;cases ds<;>first|exact absurd rfl (bZ _)|simp [execOp,ho,Instr.typeAssert,h2,underlying,hu,XW,zeroValue,typeInfo,hi,hz]
 ·cases h
theorem wT {op:BinOp} {lo hi m n:Int} {b:Bool} (h:nH op lo hi n=some b) (h1:lo<=m) (h2:m<=hi) {P:Program} {t:TypeId} {k:IntKind} (w:World):(binOp op t (.int k m) (.int k n)).run P w= .ok (.bool b) w:=by
 unfold nH at h;split at h
 ·cases c1:decide (hi<n)with
  |true=>
   rw [c1]at h;cases h;have:=of_decide_eq_true c1;simp [binOp,Op.intArith,Op.intBits,Op.intCmp];omega
  |false=>
   rw [c1]at h;cases c2:decide (n<=lo)with
   |true=>rw [c2]at h;cases h;have:=of_decide_eq_true c2;simp [binOp,Op.intArith,Op.intBits,Op.intCmp];omega
   |false=>rw [c2]at h;cases h
 ·cases c1:decide (hi<=n)with
  |true=>
   rw [c1]at h;cases h;have:=of_decide_eq_true c1;simp [binOp,Op.intArith,Op.intBits,Op.intCmp];omega
  |false=>
   rw [c1]at h;cases c2:decide (n<lo)with
   |true=>rw [c2]at h;cases h;have:=of_decide_eq_true c2;simp [binOp,Op.intArith,Op.intBits,Op.intCmp];omega
   |false=>rw [c2]at h;cases h
 ·cases c1:decide (n<lo)with
  |true=>
   rw [c1]at h;cases h;have:=of_decide_eq_true c1;simp [binOp,Op.intArith,Op.intBits,Op.intCmp];omega
  |false=>
   rw [c1]at h;cases c2:decide (hi<=n)with
   |true=>rw [c2]at h;cases h;have:=of_decide_eq_true c2;simp [binOp,Op.intArith,Op.intBits,Op.intCmp];omega
   |false=>rw [c2]at h;cases h
 ·cases c1:decide (n<=lo)with
  |true=>
   rw [c1]at h;cases h;have:=of_decide_eq_true c1;simp [binOp,Op.intArith,Op.intBits,Op.intCmp];omega
  |false=>
   rw [c1]at h;cases c2:decide (hi<n)with
   |true=>rw [c2]at h;cases h;have:=of_decide_eq_true c2;simp [binOp,Op.intArith,Op.intBits,Op.intCmp];omega
   |false=>rw [c2]at h;cases h
 ·cases c1:(decide (hi<n)||decide (n<lo))with
  |true=>
   rw [c1]at h;cases h;simp only [or_eq_true,decide_eq_true_eq]at c1;simp [binOp,Op.intArith,Op.intBits,Op.intCmp];omega
  |false=>rw [c1]at h;cases h
 ·cases c1:(decide (hi<n)||decide (n<lo))with
  |true=>
   rw [c1]at h;cases h;simp only [or_eq_true,decide_eq_true_eq]at c1;simp [binOp,Op.intArith,Op.intBits,Op.intCmp];omega
  |false=>rw [c1]at h;cases h
 ·cases h
theorem Iv {op:BinOp} {m n:Int} {b:Bool} {P:Program} {t:TypeId} {k:IntKind} {w:World} (kR:(∃lo hi,(nH (Xa op) lo hi n).isSome=true)) (h:(binOp (Xa op) t (.int k m) (.int k n)).run P w= .ok (.bool b) w):(binOp op t (.int k n) (.int k m)).run P w= .ok (.bool b) w:=by
 obtain⟨lo,hi,kR⟩:=kR;cases op<;>first|(simp [Xa,nH]at kR;done)|skip
 all_goals
  simp only [Xa]at h;simp [binOp,Op.intArith,Op.intBits,Op.intCmp]at h⊢;rw [←h]<;>first|rfl|exact BEq.comm|exact bne_comm|exact decide_eq_decide.2 eq_comm|(congr 1;exact decide_eq_decide.2 eq_comm)|(congr 1;exact BEq.comm)
theorem XX {P:Program} {tm:Tm} {o:Oper} {t yt:TypeId} {op:BinOp} {x y:Operand} {u v:AV} {b:Bool} (ho:o.op= .binOp op t x y yt) (hx:cF tm x=some u) (hy:cF tm y=some v) (hn:zH op u v=some b):M9 P tm o (.lit (.bool b)):=by
 intro e a ht;have rx:=ht x (by simp [ho,Op.operands]) _ hx;have ry:=ht y (by simp [ho,Op.operands]) _ hy;refine⟨.bool b,by simp only [AV.rep],fun w=> ?_⟩;unfold zH at hn;split at hn
 ·rename_i k lo hi k' n;simp only [AV.rep]at rx ry;obtain⟨m,rx,h1,h2⟩:=rx;cases hk:decide (k=k')with
  |false=>rw [hk]at hn;cases hn
  |true=>
   rw [hk]at hn;have:=of_decide_eq_true hk;subst this;have hr:=wT hn h1 h2 (P:=P) (t:=t) (k:=k) w;have hg:(eqGuard op t x y (.int k m) (.int k n)).run P w= .ok () w:=by cases op<;>rfl
   simp only [execOp,ho,rx,ry,Sem.run_bind,hg,hr,Result.andThen_ok,Sem.run_pure]
 ·rename_i k' n k lo hi;simp only [AV.rep]at rx ry;obtain⟨m,ry,h1,h2⟩:=ry;cases hk:decide (k=k')with
  |false=>rw [hk]at hn;cases hn
  |true=>
   rw [hk]at hn;have:=of_decide_eq_true hk;subst this;have hr:=Iv ⟨lo,hi,by rw [show nH (Xa op) lo hi n=some b from hn];rfl⟩ (wT hn h1 h2 (P:=P) (t:=t) (k:=k) w);have hg:(eqGuard op t x y (.int k n) (.int k m)).run P w= .ok () w:=by cases op<;>rfl
   simp only [execOp,ho,rx,ry,Sem.run_bind,hg,hr,Result.andThen_ok,Sem.run_pure]
 ·rename_i i k lo hi k' n;simp only [AV.rep]at rx ry;obtain⟨B,tt,_,rx,h1,h2⟩:=rx;generalize rZ B tt=m at rx h1 h2;cases hk:decide (k=k')with
  |false=>rw [hk]at hn;cases hn
  |true=>
   rw [hk]at hn;have:=of_decide_eq_true hk;subst this;have hr:=wT hn h1 h2 (P:=P) (t:=t) (k:=k) w;have hg:(eqGuard op t x y (.int k m) (.int k n)).run P w= .ok () w:=by cases op<;>rfl
   simp only [execOp,ho,rx,ry,Sem.run_bind,hg,hr,Result.andThen_ok,Sem.run_pure]
 ·rename_i k' n i k lo hi;simp only [AV.rep]at rx ry;obtain⟨B,tt,_,ry,h1,h2⟩:=ry;generalize rZ B tt=m at ry h1 h2;cases hk:decide (k=k')with
  |false=>rw [hk]at hn;cases hn
  |true=>
   rw [hk]at hn;have:=of_decide_eq_true hk;subst this;have hr:=Iv ⟨lo,hi,by rw [show nH (Xa op) lo hi n=some b from hn];rfl⟩ (wT hn h1 h2 (P:=P) (t:=t) (k:=k) w);have hg:(eqGuard op t x y (.int k n) (.int k m)).run P w= .ok () w:=by cases op<;>rfl
   simp only [execOp,ho,rx,ry,Sem.run_bind,hg,hr,Result.andThen_ok,Sem.run_pure]
 ·rename_i i k lo hi j k' wU eN;simp only [AV.rep]at rx ry;obtain⟨B,tt,b8,rx,_⟩:=rx;obtain⟨B',tt',e7,ry,_⟩:=ry;cases hk:(Nat.beq i j&&decide (k=k'))with
  |false=>rw [hk]at hn;cases hn
  |true=>
   rw [hk]at hn;simp only [and_eq_true,decide_eq_true_eq]at hk;have h1:=eq_of_beq_eq_true hk.1;have h2:=hk.2;subst h1 h2;rw [b8]at e7;cases e7
   generalize rZ B tt=m at rx ry;simp only [cond_true]at hn;have hg:(eqGuard op t x y (.int k m) (.int k m)).run P w= .ok () w:=by cases op<;>rfl
   have hr:(binOp op t (.int k m) (.int k m)).run P w= .ok (.bool b) w:=by
    split at hn
    ·cases hn;simp [binOp,Op.intArith,Op.intBits,Op.intCmp]
    ·cases hn;simp [binOp,Op.intArith,Op.intBits,Op.intCmp]
    ·cases hn
   simp only [execOp,ho,rx,ry,Sem.run_bind,hg,hr,Result.andThen_ok,Sem.run_pure]
 ·cases hn
theorem P5 {P:Program} {tm:Tm} {o:Oper} {av:AV} (h:Jy P tm o=some av):M9 P tm o av:=by
 have hc:∀ {x y:Option AV} {b:Bool},cond b x y=some av->(b=true/\x=some av)\/(b=false/\y=some av):=by
  intro x y b h;cases b
  ·exact .inr ⟨rfl,h⟩
  ·exact .inl ⟨rfl,h⟩
 unfold Jy at h;split at h
 ·rename_i x ho;exact fun e a ht=>⟨_,ht _ (by simp [ho,Op.operands]) _ h,fun w=>by simp only [execOp,ho];rfl⟩
 ·rename_i x ho;exact fun e a ht=>⟨_,ht _ (by simp [ho,Op.operands]) _ h,fun w=>by simp only [execOp,ho];rfl⟩
 ·rename_i c x y ho;split at h
  ·rename_i b hb;intro e a ht;have zK:=ht _ (by simp [ho,Op.operands]) _ hb;simp only [AV.rep]at zK;cases b with
   |true=>exact⟨_,ht _ (by simp [ho,Op.operands]) _ h,fun w=>by simp only [execOp,ho,zK,asBool];rfl⟩
   |false=>exact⟨_,ht _ (by simp [ho,Op.operands]) _ h,fun w=>by simp only [execOp,ho,zK,asBool];rfl⟩
  ·cases h
 ·rename_i x ho;split at h
  ·rename_i b k hx;cases h
   intro e a ht;have hr:=ht _ (by simp [ho,Op.operands]) _ hx;have mi:=hr;simp only [AV.rep]at mi;obtain⟨B,tt,h1,h2⟩:=mi;exact⟨_,hr,fun w=>by simp only [execOp,ho,h2];rfl⟩
  ·rename_i f l m hx;cases h
   intro e a ht;have hr:=ht _ (by simp [ho,Op.operands]) _ hx;have mi:=hr;simp only [AV.rep]at mi;obtain⟨vs,us,h2,_⟩:=mi;exact⟨_,hr,fun w=>by simp only [execOp,ho,h2];rfl⟩
  ·exact Ez h
  ·cases h
 ·rename_i t x f ho;split at h
  case h_2=>cases h
  rename_i b k fs hx hu;split at h
  case h_2=>cases h
  rename_i j8 hf;split at h
  case h_2=>cases h
  rename_i i hi;rcases hc h with⟨_,h⟩|⟨h0,h⟩
  ·cases h
  cases h
  intro e a ht;have hr:=ht _ (by simp [ho,Op.operands]) _ hx;simp only [AV.rep]at hr;obtain⟨B,tt,h1,h2⟩:=hr;have hz:i.size≠0:=fun e=>by rw [e]at h0;cases h0
  obtain⟨n,hn⟩:=Nat.exists_eq_succ_of_ne_zero hz;refine N6 (e:=e) (p:= .ptr (some ⟨B,k,none⟩) fun a=> .pointer (some (a.add j8.offset))) (by simp only [Bw,ho,hu,hf,hi,hn,h2]) ?_;simp only [gI.then,Aj,AV.rep,wS];exact⟨B,tt,h1,rfl⟩
 ·rename_i t x i ho;split at h
  case h_2=>cases h
  rename_i n hn;split at h
  ·rename_i b k len sz c ex el hx hu;split at h
   case h_2=>cases h
   rename_i inf hi;rcases hc h with⟨hb,h⟩|⟨_,h⟩
   rotate_left
   ·cases h
   cases h
   simp only [and_eq_true,decide_eq_true_eq]at hb;obtain⟨⟨b1,b2⟩,b3⟩:=hb;have eb:=eq_of_beq_eq_true b3;intro e a ht;obtain⟨kd,hn⟩:=Ed ht (by simp [ho,Op.operands]) hn;have hr:=ht _ (by simp [ho,Op.operands]) _ hx;simp only [AV.rep]at hr;obtain⟨B,tt,kk,A,h1,h2,h3,h4,_⟩:=hr;rcases h3 with rfl|h3
   rotate_left
   ·omega
   refine N6 (e:=e) (p:= .rR (some ⟨B,k,none⟩) (0<=n/\n<len) fun a=> .pointer (some (a.add (n.toNat*inf.size)))) (by simp only [Bw,ho,hu,h2,hn,hi]) ⟨⟨b1,b2⟩,?_⟩;simp only [Aj,AV.rep,wS,eb];exact⟨B,tt,h1,rfl⟩
  ·rename_i b k len el hx hu;split at h
   case h_2=>cases h
   rename_i inf hi;rcases hc h with⟨hb,h⟩|⟨_,h⟩
   rotate_left
   ·cases h
   cases h
   simp only [and_eq_true,decide_eq_true_eq]at hb;intro e a ht;obtain⟨kd,hn⟩:=Ed ht (by simp [ho,Op.operands]) hn;have hr:=ht _ (by simp [ho,Op.operands]) _ hx;simp only [AV.rep]at hr;obtain⟨B,tt,h1,h2⟩:=hr;refine N6 (e:=e) (p:= .rR (some ⟨B,k,none⟩) (0<=n/\n<len) fun a=> .pointer (some (a.add (n.toNat*inf.size)))) (by simp only [Bw,ho,hu,h2,hn,hi]) ⟨hb,?_⟩;simp only [Aj,AV.rep,wS];exact⟨B,tt,h1,rfl⟩
  ·cases h
 ·rename_i t x lo hi mx ho;split at h
  ·rename_i hx;exact XS ho h hx
  ·exact Ez h
  ·cases h
 ·rename_i t x f ho;split at h
  ·rename_i l hx;split at h
   case h_2=>cases h
   rename_i fs hu;split at h
   case h_2=>cases h
   rename_i j8 hf;intro e a ht;have hr:=ht _ (by simp [ho,Op.operands]) _ hx;simp only [AV.rep]at hr;obtain⟨vs,h2,h3⟩:=hr;obtain⟨v,g1,g2⟩:=Il h h3;refine⟨v,g1,fun w=> ?_⟩;simp only [execOp,ho,Instr.field,underlying,Sem.run_bind,run_program,Result.andThen_ok,hu,Sem.run_pure,hf,h2,asAgg,g2 w]
  ·exact Ez h
  ·cases h
 ·rename_i t x i ho;split at h
  ·rename_i l hx;split at h
   case h_2=>cases h
   rename_i len el n hu hn;split at h
   case h_2=>cases h
   rename_i inf hi;rcases hc h with⟨hb,h⟩|⟨_,h⟩
   rotate_left
   ·cases h
   simp only [and_eq_true,decide_eq_true_eq]at hb;intro e a ht;obtain⟨kd,hn⟩:=Ed ht (by simp [ho,Op.operands]) hn;have hr:=ht _ (by simp [ho,Op.operands]) _ hx;simp only [AV.rep]at hr;obtain⟨vs,h2,h3⟩:=hr;obtain⟨v,g1,g2⟩:=Il h h3;refine⟨v,g1,fun w=> ?_⟩;simp only [execOp,ho,Instr.index,asIntOf,hn,underlying,Sem.run_bind,run_program,Result.andThen_ok,hu,Sem.run_pure,h2,hb.1,hb.2,and_self,if_true,sizeOf,typeInfo,hi,g2 w]
  ·exact Ez h
  ·cases h
 ·rename_i x i ho;split at h
  ·rename_i l hx;intro e a ht;have hr:=ht _ (by simp [ho,Op.operands]) _ hx;simp only [AV.rep]at hr;obtain⟨vs,h2,h3⟩:=hr;obtain⟨v,g1,g2⟩:=Jd h3 h;refine⟨v,g2,fun w=> ?_⟩;have:(⟨vs⟩:Array Value)[i]? =some v:=by simpa using g1
   simp only [execOp,ho,Instr.extract,h2,this];rfl
  ·exact Ez h
  ·cases h
 ·rename_i t ps ho;rcases hc h with⟨_,h⟩|⟨_,h⟩
  ·exact Ez h
  ·exact Iq ho h
 ·rename_i f first kf ho
  split at h
  case h_2=>cases h
  rename_i l m hl hm;cases h
  intro e a ht;refine⟨.func (.func f) (first.map a.eval) (kf.map a.eval),?_,fun w=>by simp only [execOp,ho];rfl⟩;simp only [AV.rep];exact⟨first.toList.map a.eval,kf.toList.map a.eval,by congr 1<;>(apply ext';simp),N5 (ht.sub fun y hy=>by simp only [ho,Op.operands,Array.toList_append,List.mem_append];exact .inl hy) hl,N5 (ht.sub fun y hy=>by simp only [ho,Op.operands,Array.toList_append,List.mem_append];exact .inr hy) hm⟩
 ·rename_i op t x y yt ho;split at h
  case h_2=>cases h
  rename_i u v hx hy;split at h
  ·rename_i b hb;obtain⟨h1,h2⟩:=XU ho hx hy hb;split at h
   ·cases h;exact h1 rfl
   ·cases h;exact h2 rfl
   ·cases h
  ·split at h
   ·rename_i b hb;cases h
    exact XX ho hx hy hb
   ·exact Ez h
 ·rename_i x t ho;split at h
  ·rename_i b k n sz c ex hx;split at h
   case h_2=>cases h
   rename_i el hu;cases h
   intro e a ht;have hr:=ht _ (by simp [ho,Op.operands,Call.operands]) _ hx;simp only [AV.rep]at hr;obtain⟨B,tt,kk,A,h1,h2,_⟩:=hr;refine⟨.int .i64 n,by simp only [AV.rep],fun w=> ?_⟩;simp [execOp,ho,resolve,invoke,builtin,Builtin.len_,underlying,hu,h2,goInt]
  ·exact Ez h
  ·cases h
 ·rename_i x t ho;split at h
  ·rename_i b k n sz c hx;split at h
   case h_2=>cases h
   rename_i el hu;cases h
   intro e a ht;have hr:=ht _ (by simp [ho,Op.operands,Call.operands]) _ hx;simp only [AV.rep]at hr;obtain⟨B,tt,kk,A,h1,h2,_,_,_,h6,_⟩:=hr;have:=h6 trivial;subst this;refine⟨.int .i64 kk,by simp only [AV.rep],fun w=> ?_⟩;simp [execOp,ho,resolve,invoke,builtin,Builtin.cap_,underlying,hu,h2,goInt]
  ·exact Ez h
  ·cases h
 ·exact Ez h
 ·exact Ez h
 ·exact Ez h
 ·exact Ez h
 ·rename_i t x ho;rcases hc h with⟨_,h⟩|⟨_,h⟩
  ·exact Ez h
  ·split at h
   case h_2=>cases h
   rename_i a hx;split at h
   ·cases h
   ·rename_i d bZ hu;cases h
    intro e ac ht;refine⟨.iface t (ac.eval x),by simp only [AV.rep];exact⟨_,rfl,ht _ (by simp [ho,Op.operands]) _ hx⟩,fun w=> ?_⟩;cases d<;>first|exact absurd rfl (bZ _)|simp [execOp,ho,Instr.makeInterface,underlying,hu]
   ·cases h
 ·rename_i x xt t ok ho;split at h
  ·rename_i d a hx;exact XV ho hx h
  ·exact Ez h
 ·cases h
variable {R:Type}
def fL:List AV->(List AV->Option R)->Option R
 |[],K=>K []|a::l,K=>fL l fun l=>K (a::l)
theorem R0:∀(l:List AV) (K:List AV->Option R),fL l K=K l
 |[],_=>rfl
 |b::l,K=>by simp only [fL,R0 l]
def oy:List AV->Nat->List AV->(List AV->Option R)->Option R
 |l,_,[],K=>K l|[],_,_::_,_=>none|_::l,0,a::az,K=>oy l 0 az fun t=>K (a::t)
 |x::l,k+1,a::az,K=>oy l k (a::az) fun t=>K (x::t)
theorem Iw (x a:AV) (l az:List AV):∀i,T3 (x::l) (i+1) az=x::T3 l i az:=by
 induction az generalizing l with
 |nil=>intro i;rfl
 |cons b az ih=>intro i;simp only [T3,List.set_cons_succ];exact ih _ _
theorem P6 {r:R} :∀ {l:List AV} {k:Nat} {az:List AV} {K:List AV->Option R},oy l k az K=some r->K (T3 l k az)=some r/\k+az.length<=max l.length k
 |l,k,[],K,h=>by
  have h':K l=some r:=by cases l<;>cases k<;>exact h
  exact⟨h',by simp only [List.length_nil];omega⟩
 |[],k,a::az,K,h=>by cases k<;>cases h
 |x::l,0,a::az,K,h=>by
  simp only [oy]at h;obtain⟨h1,h2⟩:=P6 h;refine⟨?_,by simp only [length_cons]at h2⊢;omega⟩;simp only [T3,List.set_cons_zero];rw [Iw a a];exact h1
 |x::l,k+1,a::az,K,h=>by
  simp only [oy]at h;obtain⟨h1,h2⟩:=P6 h;refine⟨?_,by simp only [length_cons]at h2⊢;omega⟩;rw [Iw x a];exact h1
theorem tY {b:Nat} {rw:Bool} :∀(vs:List Value) (o:Nat) (w:World) (l:List Value),Lk w b rw l->Lk (w.setCells b o vs) b rw (over l o vs)/\w.grownBy (w.setCells b o vs) (some b)
 |[],o,w,l,h=>⟨h,⟨rfl,rfl,rfl,le_refl _,fun _ _ _=>rfl⟩⟩
 |v::vs,o,w,l,h=>by
  have h1:Lk (w.setCell ⟨b,o,none⟩ v) b rw (l.set o v):=h.set rfl;obtain⟨h2,h3⟩:=tY vs (o+1) _ _ h1;refine⟨h2,⟨h3.os,h3.tape,h3.output,?_,fun k hk hm=> ?_⟩⟩
  ·have:(w.setCell ⟨b,o,none⟩ v).heap.size=w.heap.size:=by simp [World.setCell]
   rw [←this];exact h3.size
  ·have hs:k<(w.setCell ⟨b,o,none⟩ v).heap.size:=by simpa [World.setCell] using hk
   show(World.setCells (w.setCell ⟨b,o,none⟩ v) b (o+1) vs).heap[k]? =_
   rw [h3.block k hs hm,heap_setCell,if_neg (fun e=>hm (by rw [e]))]
theorem Vx {b i:Nat} :∀(vs:List Value) (j:Nat) (w:World),Bi w ⟨b,i,none⟩ j vs=w.setCells b (i+j) vs
 |[],_,_=>rfl
 |v::vs,j,w=>by
  simp only [Bi,World.setCells];rw [Vx vs (j+1),Fc];rfl
theorem T7 {w:World} {b i:Nat} {rw:Bool} {l:List Value} (h:Lk w b rw l) {n:Nat} (hn:i+n<=l.length):∀j,j<n->(∃v,w.cell? ((⟨b,i,none⟩:Addr).add (0+j))=some v)/\w.frozen? ((⟨b,i,none⟩:Addr).add (0+j))=false:=by
 intro j hj;rw [zero_add,Fc];exact⟨⟨_,h.cell (List.getElem?_eq_getElem (show i+j<l.length by omega))⟩,h.frozen (by omega)⟩
theorem Z7:∀(us A B:List Value) (i:Nat),i+us.length<=A.length->over (A++B) i us=over A i us++B
 |[],_,_,_,_=>rfl
 |u::us,A,B,i,h=>by
  simp only [length_cons]at h;simp only [over];rw [List.set_append_left _ _ (by omega),Z7 us _ _ _ (by simp;omega)]
theorem zL:∀(us A:List Value) (i:Nat),i+us.length<=A.length->over A i us=A.take i++us++A.drop (i+us.length)
 |[],A,i,_=>by simp [over]
 |u::us,A,i,h=>by
  simp only [length_cons]at h;simp only [over];rw [zL us _ _ (by simp;omega)];have h1:(A.set i u).take (i+1)=A.take i++[u]:=by
   rw [List.take_add_one,List.take_set_of_le (le_refl _)];simp [show i<A.length by omega]
  have h2:(A.set i u).drop (i+1+us.length)=A.drop (i+(u::us).length):=by
   rw [List.drop_set_of_lt (by omega)];simp only [length_cons];congr 1;omega
  rw [h1,h2];simp
def eW (P:Program) (tm:Tm) (o:Oper) (M:Tr aI) (n:Nat) (av:AV) (M':Tr aI) (n':Nat):Prop:=∀b0 e a w,Bb b0 e M.get n w->P3 e tm a o.op.operands.toList->∀next:Value->World->Prop,(∀e' v w',Az e e'->Bb b0 e' M'.get n' w'->av.rep e' v->next v w')->D3 P next ((execOp a.eval o).run P w)
theorem eW.pure {P:Program} {tm:Tm} {o:Oper} {M:Tr aI} {n:Nat} {av:AV} (h:M9 P tm o av):eW P tm o M n av M n:=by
 intro b0 e a w hM hT next hk;obtain⟨v,h1,h2⟩:=h e a hT;rw [h2 w];exact hk e v w (Az.refl e) hM h1
def FU:Nat:=40
def se (P:Program) (tm:Tm) (t:TypeId) (x:Operand) (M:Tr aI) (K:AV->Option R):Option R:=match cF tm x with
 |some (.ptr b k)=>match M.get b with
  |some (.cells l _)=>match ow P t with
   |some true=>match P.info? t with
    |some i=>cond (ble (k+i.size) l.length) (fL ((l.drop k).take i.size) fun cs=>K (.agg cs)) none
    |none=>none
   |some false=>match l[k]? with
    |some av=>K av|none=>none
   |none=>none
  |_=>none
 |_=>none
theorem Z8 {P:Program} {tm:Tm} {o:Oper} {t:TypeId} {x:Operand} {M:Tr aI} {n:Nat} {K:AV->Option R} {r:R} (ho:o.op= .load t x) (h:se P tm t x M K=some r):∃av,K av=some r/\eW P tm o M n av M n:=by
 unfold se at h;split at h
 case h_2=>cases h
 rename_i b k hx;split at h
 case h_2=>cases h
 rename_i l rw hb;have base:∀ {b0:Base} {e:Env} {a:Act} {w:World},Bb b0 e M.get n w->P3 e tm a o.op.operands.toList->∃B vs rest,a.eval x= .pointer (some ⟨B,k,none⟩)/\Lk w B rw (vs++rest)/\AV.bF e l vs:=by
  intro b0 e a w hM hT;obtain⟨B,t,vs,rest,h1,h2,h3,h4,h5⟩:=hM.bG b _ hb;have hr:=hT _ (by simp [ho,Op.operands]) _ hx;simp only [AV.rep]at hr;obtain⟨B',t',g1,g2⟩:=hr;rw [h1]at g1;cases g1;exact⟨B,vs,rest,g2,h2,h4⟩
 split at h
 ·rename_i ha;split at h
  case h_2=>cases h
  rename_i i hi;cases hc:ble (k+i.size) l.length with
  |false=>rw [hc]at h;cases h
  |true=>
   rw [hc]at h;simp only [cond_true,R0]at h;have hle:=le_of_ble_eq_true hc;refine⟨_,h,fun b0 e a w hM hT next hk=> ?_⟩;obtain⟨B,vs,rest,g1,g2,g3⟩:=base hM hT;have hlen:=A5 g3;have hs:((vs.drop k).take i.size).length=i.size:=by simp;omega
   have mg:Ad w ⟨B,k,none⟩ ((vs.drop k).take i.size):=g2.cells k fun j hj=>by
    rw [hs]at hj;rw [List.getElem?_append_left (by omega),List.getElem?_eq_getElem (by omega)];simp
   have hl:=H6 (P:=P) (w:=w) (a:=⟨B,k,none⟩) ((vs.drop k).take i.size) 0 #[] (fun j hj=>by simpa using mg j hj);rw [hs]at hl;simp only [execOp,ho,Instr.loadAt,g1,Instr.sureAddr,loadVar,Sem.run_bind,Sem.run_pure,Result.andThen_ok,Na ha,if_true,sizeOf,typeInfo,run_program,hi,loadCells,hl,D3];exact hk e _ w (Az.refl e) hM (by simp only [AV.rep];exact⟨_,by simp,Et (F3 g3)⟩)
 ·rename_i ha;split at h
  case h_2=>cases h
  rename_i av eA;refine⟨_,h,fun b0 e a w hM hT next hk=> ?_⟩;obtain⟨B,vs,rest,g1,g2,g3⟩:=base hM hT;obtain⟨v,hv,hr⟩:=Jd g3 eA;have aO:=(List.getElem?_eq_some_iff.1 hv).1;have hc:w.cell? ⟨B,k,none⟩=some v:=g2.cell (by rw [List.getElem?_append_left aO];exact hv);simp only [execOp,ho,Instr.loadAt,g1,Instr.sureAddr,loadVar,Sem.run_bind,Sem.run_pure,Result.andThen_ok,Na ha,Bool.false_eq_true,if_false,run_load,hc,D3];exact hk e v w (Az.refl e) hM hr
 ·cases h
def nI:List AV->Bool
 |[]=>true|a::l=>a.one&&nI l
theorem T8 {e:Env} :∀ {l:List AV} {vs:List Value},nI l=true->AV.bF e l vs->∀v∈vs,v.oneCell'=true
 |[],_,_,h,v,hv=>by simp only [AV.bF]at h;subst h;cases hv
 |_::_,_,ho,h,v,hv=>by
  simp only [AV.bF]at h;obtain⟨x,xs,rfl,h1,h2⟩:=h;simp only [nI,and_eq_true]at ho;rcases List.mem_cons.1 hv with rfl|hv
  ·exact XN ho.1 h1
  ·exact T8 ho.2 h2 v hv
def wV (P:Program) (tm:Tm) (t:TypeId) (x v:Operand) (M:Tr aI) (K:Tr aI->Option R):Option R:=match cF tm x,cF tm v with
 |some (.ptr b k),some av=>match M.get b with
  |some (.cells l rw)=>match P.info? t with
   |some i=>cond (Nat.beq av.cells.length i.size&&nI av.cells&&ble (k+i.size) l.length) (oy l k av.cells fun l=>Tr.iK FU M b (some (.cells l rw)) K) none
   |none=>none
  |_=>none
 |_,_=>none
theorem Ix {P:Program} {tm:Tm} {o:Oper} {t:TypeId} {x v:Operand} {M:Tr aI} {n:Nat} {K:Tr aI->Option R} {r:R} (ho:o.op= .store t x v) (h:wV P tm t x v M K=some r):∃M',K M'=some r/\eW P tm o M n (.lit undef) M' n:=by
 unfold wV at h;split at h
 case h_2=>cases h
 rename_i b k av hx hv;split at h
 case h_2=>cases h
 rename_i l rw hb;split at h
 case h_2=>cases h
 rename_i i hi;cases hc:(Nat.beq av.cells.length i.size&&nI av.cells&&ble (k+i.size) l.length)with
 |false=>rw [hc]at h;cases h
 |true=>
  rw [hc]at h;simp only [and_eq_true]at hc;obtain⟨⟨c1,c2⟩,c3⟩:=hc;have c1:=eq_of_beq_eq_true c1;have c3:=le_of_ble_eq_true c3;obtain⟨h1,_⟩:=P6 h;obtain⟨M',h2,fx⟩:=Tr.jn (f:=FU) h1;refine⟨M',h2,fun b0 e a w hM hT next hk=> ?_⟩;obtain⟨B,tt,vs,rest,g1,g2,g3,g4,g5⟩:=hM.bG b _ hb;have hr:=hT _ (by simp [ho,Op.operands]) _ hx;simp only [AV.rep]at hr;obtain⟨B',t',q1,q2⟩:=hr;rw [g1]at q1;cases q1;have zM:=M8 (hT _ (by simp [ho,Op.operands]) _ hv);have tZ:=A5 zM;have zE:=A5 g4;have eb:(a.eval v).cells.size=i.size:=by rw [←c1,←tZ];simp
  have dU:=Hr (P:=P) (a:=⟨B,k,none⟩) (a.eval v).cells.toList w 0 (T8 c2 zM) (T7 g2 (by simp only [length_append];omega));rw [Vx,Nat.add_zero]at dU;obtain⟨s1,s2⟩:=tY (a.eval v).cells.toList k w _ g2;rw [Z7 _ _ _ _ (by omega)]at s1;simp only [execOp,ho,Instr.storeAt,q2,Instr.sureAddr,storeVar,sizeOf,typeInfo,hi,eb,dU,Sem.run_bind,Sem.run_pure,Result.andThen_ok,run_program,ne_eq,not_true_eq_false,if_false,D3];refine hk e _ _ (Az.refl e) (hM.kB hb g1 g5 s2 fx ⟨B,tt,_,rest,g1,s1,?_,T4 k zM g4,g5⟩) (by simp only [AV.rep]);rw [←g3];simp [Vu]
theorem Iy {b0:Base} {w:World} {e:Env} {M:Mm} {M':Mm} {n n' i:Nat} {z:List AV} {zs:List Value} (T:TypeId) (hM:Bb b0 e M n w) (hi:e i=none) (hR:¬b0.R i) (hn:n<=n') (kT:i<n') (hz:AV.bF e z zs) (fx:∀j,M' j=if j=i then some (.cells z true)else M j): Az e (e.put i (w.heap.size,zs.length))/\Bb b0 (e.put i (w.heap.size,zs.length)) M' n' (w.alloc (.cells ⟨zs⟩ T)):=by
 refine⟨Az.put hi _,hM.push rfl hi hR hn kT fx ⟨w.heap.size,zs.length,zs,[],Gd _ _ _,?_,by simp,Ej (Az.put hi _) hz,fun hx=> ?_⟩⟩
 ·rw [List.append_nil];exact HW (df.new rfl rfl)
 ·have:=b0.lt _ hx;have:=hM.kept.size;omega
def pA (M:Tr aI) (n:Nat) (z:List AV) (K:Tr aI->Nat->Option R):Option R:=fL z fun z=>Tr.iK FU M n (some (.cells z true)) fun M'=>fN (n+1) fun n'=>K M' n'
theorem T9 {M:Tr aI} {n:Nat} {z:List AV} {K:Tr aI->Nat->Option R} {r:R} (h:pA M n z K=some r):∃M',K M' (n+1)=some r/\∀j,M'.get j=if j=n then some (.cells z true)else M.get j:=by
 unfold pA at h;rw [R0]at h;obtain⟨M',h1,h2⟩:=Tr.jn (f:=FU) h;rw [Ew]at h1;exact⟨M',h1,h2⟩
def Sj (P:Program) (tm:Tm) (o:Oper) (z:List AV) (f:Nat->AV):Prop:=∀e a w,P3 e tm a o.op.operands.toList->∃zs T v,(execOp a.eval o).run P w= .ok (.value v) (w.alloc (.cells ⟨zs⟩ T))/\AV.bF e z zs/\∀(e':Env) i,e' i=some (w.heap.size,zs.length)->(f i).rep e' v
theorem Sj.Iz {P:Program} {tm:Tm} {o:Oper} {z:List AV} {f:Nat->AV} (h:Sj P tm o z f) {M M':Tr aI} {n:Nat} (fx:∀j,M'.get j=if j=n then some (.cells z true)else M.get j):eW P tm o M n (f n) M' (n+1):=by
 intro b0 e a w hM hT next hk;obtain⟨zs,T,v,h1,h2,h3⟩:=h e a w hT;obtain⟨l1,l2⟩:=Iy T hM (hM.new n (.inl (le_refl _))) (fun h=>Nat.lt_irrefl _ (hM.res n h)) (Nat.le_succ n) (Nat.lt_succ_self n) h2 fx;rw [h1];exact hk _ v _ l1 l2 (h3 _ n (Gd _ _ _))
theorem Lz {α:Type} (z:List α):∀n,(H5 z n).length=n*z.length
 |0=>by simp [H5]
 |n+1=>by simp only [H5,length_append,Lz z n,add_mul];omega
theorem Xb {α:Type} (z:List α):∀(n i:Nat),i<n*z.length->(H5 z n)[i]? =z[i%z.length]?
 |0,i,h=>by omega
 |n+1,i,h=>by
  simp only [H5];have hz:0<z.length:=by
   rcases Nat.eq_zero_or_pos z.length with e|e
   ·rw [e]at h;omega
   ·exact e
  by_cases hi:i<z.length
  ·rw [List.getElem?_append_left hi,Nat.mod_eq_of_lt hi]
  ·rw [List.getElem?_append_right (by omega),Xb z n _ (by rw [add_mul]at h;omega),←Nat.mod_eq_sub_mod (by omega)]
theorem IA {e:Env} {z:List AV} {zs:Array Value} (h:AV.bF e z zs.toList) (len:Nat):AV.bF e (H5 z len) ((Array.range (len*zs.size)).map (zs[·%zs.size]!)).toList:=by
 have hl:zs.size=z.length:=by have:=A5 h;simpa using this
 refine zz (by simp [Lz,hl]) fun i a hi=> ?_
 have aO:i<len*z.length:=by have:=(List.getElem?_eq_some_iff.1 hi).1;rwa [Lz]at this
 rw [Xb z len i aO]at hi;obtain⟨v,hv,hr⟩:=Jd h hi;refine⟨v,?_,hr⟩;have h1:i%zs.size<zs.size:=by rw [hl];exact(List.getElem?_eq_some_iff.1 hi).1
 have h2:zs[i%zs.size]! =v:=by
  rw [hl]at h1⊢;have:zs[i%z.length]? =some v:=by simpa using hv
  rw [getElem!_pos zs _ (by rw [hl];exact h1)];rw [Array.getElem?_eq_getElem (by rw [hl];exact h1)]at this;exact Option.some.inj this
 simp [hl,aO];rw [hl]at h2;exact h2
def P7 (P:Program) (tm:Tm) (t:TypeId) (len:Nat) (ps:List (Nat×Operand)):Option (List AV×(Nat->AV)):=match P.underlying t with
 |some (.slice e)=>match P.info? e,Kz P e,pz tm ps with
  |some i,some z,some az=>cond (Nat.beq z.length i.size&&ble (len*i.size) 16777216) (match O2 (fun k=>some (k*i.size,i.size)) (H5 z len) az with
   |some row=>some (row,fun n=> .slice n 0 len i.size len true)
   |none=>none) none
  |_,_,_=>none
 |_=>none
theorem Z9 {P:Program} {tm:Tm} {o:Oper} {t:TypeId} {len:Nat} {ps:Array (Nat×Operand)} {z:List AV} {f:Nat->AV} (ho:o.op= .buildSlice t len ps) (h:P7 P tm t len ps.toList=some (z,f)):Sj P tm o z f:=by
 unfold P7 at h;split at h
 case h_2=>cases h
 rename_i el hu;split at h
 case h_2=>cases h
 rename_i i zc az hi hz has;cases hc:(Nat.beq zc.length i.size&&ble (len*i.size) 16777216)with
 |false=>rw [hc]at h;cases h
 |true=>
 rw [hc]at h;simp only [and_eq_true]at hc;have c1:=eq_of_beq_eq_true hc.1;have c2:=le_of_ble_eq_true hc.2;simp only [cond_true]at h;split at h
 case h_2=>cases h
 rename_i row nJ;cases h
 intro e a w hT;obtain⟨zv,z1,z2⟩:=Vw hz;have nK:zv.cells.size=i.size:=by have:=A5 (z1 e);rw [←c1,←this];simp
 obtain⟨p1,p2⟩:=zJ (hT.sub fun y hy=>by simpa [ho,Op.operands] using hy) has;have IB:=IA (e:=e) (zs:=zv.cells) (z1 e) len;rw [nK]at IB;obtain⟨fU,g1,g2⟩:=T5 (cs:=(Array.range (len*i.size)).map (zv.cells[·%i.size]!)) nJ IB p1 p2;have mh:(ps.map fun(i,x)=>(i,a.eval x)).toList=ps.toList.map fun p=>(p.1,a.eval p.2):=by simp
 have dN:(execOp a.eval o).run P w= .ok (.value (.slice (some ⟨w.heap.size,0,none⟩) len len)) (w.alloc (.cells fU el)):=by
  by_cases h0:len*i.size=0
  ·have zN:∀f:Nat->Value,(Array.range (len*i.size)).map f= #[]:=fun f=>by rw [h0];simp
   rw [zN]at g1;simp only [execOp,ho,Instr.buildSlice,underlying,Sem.run_bind,run_program,Result.andThen_ok,hu,Sem.run_pure,sizeOf,typeInfo,hi,mh];rw [if_neg (by omega)];simp only [h0,if_true,Sem.run_bind,Sem.run_pure,Result.andThen_ok];rw [h0]at zN;simp only [zN,g1];rfl
  ·simp only [execOp,ho,Instr.buildSlice,underlying,Sem.run_bind,run_program,Result.andThen_ok,hu,Sem.run_pure,sizeOf,typeInfo,hi,mh];rw [if_neg (by omega)];simp only [h0,if_false,Sem.run_bind,z2 w,Sem.run_pure,Result.andThen_ok,nK,g1];rfl
 have hlen:fU.size=len*i.size:=by
  have h3:=A5 g2;have h4:∀ {place:Nat->Option (Nat×Nat)} {l l':List AV} {r:List (Nat×AV)},O2 place l r=some l'->l'.length=l.length:=by
   intro place l l' r
   induction r generalizing l with
   |nil=>intro h;simp only [O2]at h;cases h;rfl
   |cons p r ih=>
    intro h;obtain⟨j,b⟩:=p;simp only [O2]at h;split at h
    ·rename_i off size hp;cases eV:(Nat.beq b.cells.length size&&ble (off+size) l.length)with
     |false=>rw [eV]at h;cases h
     |true=>rw [eV]at h;rw [ih h,Im]
    ·cases h
  have h5:=h4 nJ;rw [Lz,c1]at h5;have:fU.toList.length=fU.size:=by simp
  omega
 refine⟨fU.toList,el,_,dN,g2,fun e' n hn=> ?_⟩;simp only [AV.rep];exact⟨_,_,len,_,hn,rfl,.inl rfl,le_refl _,le_refl _,fun _=>rfl,by rw [Array.length_toList,hlen];omega⟩
def N7 (P:Program) (tm:Tm) (o:Oper):Option (List AV×(Nat->AV)):=match o.op with
 | .alloc t=>match Kz P t with
  |some z=>some (z,fun n=> .ptr n 0)
  |none=>none
 | .box _ x=>match cF tm x with
  |some av=>some (av.cells,fun n=> .ptr n 0)
  |none=>none
 | .buildSlice t len ps=>P7 P tm t len ps.toList|_=>none
theorem IC {P:Program} {tm:Tm} {o:Oper} {z:List AV} {f:Nat->AV} (h:N7 P tm o=some (z,f)):Sj P tm o z f:=by
 unfold N7 at h;split at h
 ·rename_i t ho;split at h
  case h_2=>cases h
  rename_i z' hz;cases h
  intro e a w hT;obtain⟨zv,z1,z2⟩:=Vw hz;refine⟨zv.cells.toList,t,.pointer (some ⟨w.heap.size,0,none⟩),?_,z1 e,fun e' i hi=>by simp only [AV.rep];exact⟨_,_,hi,rfl⟩⟩;simp only [execOp,ho,Instr.alloc,Sem.run_bind,z2 w,Result.andThen_ok];rfl
 ·rename_i t x ho;split at h
  case h_2=>cases h
  rename_i av hx;cases h
  intro e a w hT;refine⟨(a.eval x).cells.toList,t,.pointer (some ⟨w.heap.size,0,none⟩),?_,M8 (hT _ (by simp [ho,Op.operands]) _ hx),fun e' i hi=>by simp only [AV.rep];exact⟨_,_,hi,rfl⟩⟩;simp only [execOp,ho,Instr.box];rfl
 ·rename_i t len ps ho;exact Z9 ho h
 ·cases h
def Vy (P:Program) (tm:Tm) (o:Oper) (M:Tr aI) (n:Nat) (K:AV->Tr aI->Nat->Option R):Option R:=match N7 P tm o with
 |some (z,f)=>pA M n z fun M' n'=>fA (f n) fun av=>K av M' n'
 |none=>none
theorem Q9 {P:Program} {tm:Tm} {o:Oper} {M:Tr aI} {n:Nat} {K:AV->Tr aI->Nat->Option R} {r:R} (h:Vy P tm o M n K=some r):∃av M' n',K av M' n'=some r/\eW P tm o M n av M' n':=by
 unfold Vy at h;split at h
 ·rename_i z f hz;obtain⟨M',h1,h2⟩:=T9 h;rw [P2]at h1;exact⟨_,_,_,h1,(IC hz).Iz h2⟩
 ·cases h
def zO (tx:Option TypeDesc) (M:Tr aI) (sz:Nat):AV->Option (Nat×List AV)
 | .slice b o n qE _ _=>match tx,M.get b with
  |some (.slice _),some (.cells l _)=>cond (Nat.beq qE sz&&ble (o+n*sz) l.length&&nI ((l.drop o).take (n*sz))) (some (n,(l.drop o).take (n*sz))) none|_,_=>none
 | .lit (.slice none 0 _)=>match tx with
  |some (.slice _)=>some (0,[])|_=>none
 | .lit (.string s)=>match tx with
  |some .string=>cond (Nat.beq sz 1) (some (s.size,(byteCells s).map .lit)) none|_=>none
 |_=>none
theorem Ra {P:Program} {b0:Base} {w:World} {e:Env} {M:Tr aI} {n:Nat} (hM:Bb b0 e M.get n w) {tx:TypeId} {sz:Nat} {x:AV} {v:Value} (hx:x.rep e v) {m:Nat} {news:List AV} (h:zO (P.underlying tx) M sz x=some (m,news)): ∃us,AV.bF e news us/\Src P sz tx v m us w:=by
 unfold zO at h;split at h
 ·rename_i b o n' qE c ex;split at h
  case h_2=>cases h
  rename_i e' l rw hk hb;cases hc:(Nat.beq qE sz&&ble (o+n'*sz) l.length&&nI ((l.drop o).take (n'*sz)))with
  |false=>rw [hc]at h;cases h
  |true=>
   rw [hc]at h;cases h;simp only [and_eq_true]at hc;obtain⟨⟨c1,c2⟩,c3⟩:=hc;have c2:=le_of_ble_eq_true c2;simp only [AV.rep]at hx;obtain⟨B',t',k,A,q1,q2,q3,q4,_⟩:=hx;obtain⟨B,tt,vs,rest,h1,h2,h3,h4,h5⟩:=hM.bG b _ hb;rw [h1]at q1;cases q1;have hlen:=A5 h4;have hr:=Et (n:=m*sz) (F3 (n:=o) h4);refine⟨_,hr,?_⟩;subst q2;refine Src.ofSlice w hk A m k _ (by simp;omega) (fun j u hj=> ?_) (T8 c3 hr);have aO:j<m*sz:=by
    have:=(List.getElem?_eq_some_iff.1 hj).1;simp only [length_take]at this;omega
   have pD:0<m:=by rcases Nat.eq_zero_or_pos m with e0|e0;(rw [e0]at aO;omega);exact e0
   rcases q3 with rfl|q3
   rotate_left
   ·omega
   rw [Fc];rw [List.getElem?_take_of_lt aO,List.getElem?_drop]at hj;exact h2.cell (by rw [List.getElem?_append_left (by omega)];exact hj)
 ·split at h
  ·rename_i e' hk;cases h
   simp only [AV.rep]at hx;subst hx;exact⟨[],by simp [AV.bF],Src.ofNil w hk _⟩
  ·cases h
 ·rename_i s;split at h
  ·rename_i hk;cases hc:Nat.beq sz 1 with
   |false=>rw [hc]at h;cases h
   |true=>
    rw [hc]at h;cases h;have:=eq_of_beq_eq_true hc;subst this;have hv:v= .string s:=by simpa only [AV.rep] using hx
    subst hv;exact⟨_,Ky _,Src.ofString w hk s⟩
  ·cases h
 ·cases h
def zP (P:Program) (tm:Tm) (t tx:TypeId) (s x:Operand) (M:Tr aI) (n:Nat) (K:AV->Tr aI->Nat->Option R):Option R:=match P.underlying t with
 |some (.slice e)=>match P.info? e,cF tm s,cF tm x with
  |some i,some sv,some xv=>match i.zero,zO (P.underlying tx) M i.size xv with
   |some z,some (m,news)=>cond (Nat.beq z.cells.size i.size) (match sv with
    | .lit (.slice none 0 0)=>cond (Nat.beq m 0) (K (.lit (.slice none 0 0)) M n)
     (cond (ble (m*i.bytes) 140737488355328&&ble m 4611686018427387904) (fN m fun m=>pA M n news fun M' n'=>K (.slice n 0 m i.size m false) M' n') none)
    | .slice b o k sz c ex=>cond (Nat.beq sz i.size) (match M.get b with
     |some (.cells l rw)=>cond (Nat.beq m 0) (K (.slice b o k sz c ex) M n)
      (cond (ble (k+m) c&&rw&&ble (o+k*sz) l.length)
       (fL (l.take (o+k*sz)++news++l.drop (o+k*sz+m*sz)) fun l'=>Tr.iK FU M b (some (.cells l' true)) fun M'=>fN (k+m) fun km=>K (.slice b o km sz c ex) M' n)
       (cond (ble ((k+m)*i.bytes) 140737488355328&&ble (k+m) 4611686018427387904&&ble (o+k*sz) l.length&&ble (c+1) (k+m))
        (cond ex (fN (k+m) fun km=>pA M n ((l.drop o).take (k*sz)++news) fun M' n'=>K (.slice n 0 km sz km false) M' n')
         (cond (Nat.beq o 0&&rw) (fN (k+m) fun km=>Tr.iK FU M b none fun M1=>pA M1 n (l.take (k*sz)++news) fun M' n'=>K (.slice n 0 km sz km false) M' n') none))
        none))
     |_=>none) none
    |_=>none) none
   |_,_=>none
  |_,_,_=>none
 |_=>none
theorem XY {b0:Base} {w:World} {e:Env} {M M':Mm} {n:Nat} (hM:Bb b0 e M n w) {row:List AV} {us:List Value} (hr:AV.bF e row us) (el:TypeId) (rest:Array Value) (fx:∀j,M' j=if j=n then some (.cells row true)else M j): ∃e',Az e e'/\Bb b0 e' M' (n+1) (w.drew.alloc (.cells (us.toArray++rest) el))/\e' n=some (w.heap.size,us.length+rest.size):=by
 have zQ:Bb b0 e M n w.drew:=hM.drew _;have jo:e n=none:=hM.new n (.inl (le_refl _));refine⟨_,Az.put jo (w.heap.size,us.length+rest.size),zQ.push rfl jo (fun h=>Nat.lt_irrefl _ (hM.res n h)) (Nat.le_succ n) (Nat.lt_succ_self n) fx ⟨w.heap.size,us.length+rest.size,us,rest.toList,Gd _ _ _,?_,by simp,Ej (Az.put jo _) hr,fun hx=> ?_⟩,Gd _ _ _⟩
 ·have:=df.new (w:=w.drew) (cs:=us.toArray++rest) (T:=el) (b:=w.heap.size) rfl rfl;exact HW (by simpa using this)
 ·have:=b0.lt _ hx;have:=hM.kept.size;omega
theorem XZ {P:Program} {tm:Tm} {o:Oper} {c:Call} {t tx:TypeId} {s x:Operand} {M:Tr aI} {n:Nat} {K:AV->Tr aI->Nat->Option R} {r:R} (ho:o.op= .call c) (eV:c.callee= .builtin .append) (nL:c.args= #[s,x]) (t1:c.argTypes= #[t,tx]) (h:zP P tm t tx s x M n K=some r):∃av M' n',K av M' n'=some r/\eW P tm o M n av M' n':=by
 have key:∀ {a:Act} {w w':World} {v:Value} {next:Value->World->Prop},(Builtin.append_ #[t,tx] o.type #[a.eval s,a.eval x]).run P w= .ok v w'->next v w'->D3 P next ((execOp a.eval o).run P w):=by
  intro a w w' v next h1 h2;have:(execOp a.eval o).run P w= .ok (.value v) w':=by
   simp only [execOp,ho,resolve,eV,nL,t1,invoke,builtin,Sem.run_bind,Sem.run_pure,Result.andThen_ok];rw [show(#[s,x].map a.eval)= #[a.eval s,a.eval x] from by simp,h1];rfl
  rw [this];exact h2
 have qF:s∈o.op.operands.toList:=by simp [ho,Op.operands,Call.operands,eV,nL]
 have sf:x∈o.op.operands.toList:=by simp [ho,Op.operands,Call.operands,eV,nL]
 unfold zP at h;split at h
 case h_2=>cases h
 rename_i el hu;split at h
 case h_2=>cases h
 rename_i i sv xv hi zR sg;split at h
 case h_2=>cases h
 rename_i z m news hz sj;cases sk:Nat.beq z.cells.size i.size with
 |false=>rw [sk]at h;cases h
 |true=>
 rw [sk]at h;have nK:=eq_of_beq_eq_true sk;simp only [cond_true]at h;have grow:∀ {M1 M':Tr aI} {row:List AV} {pE:Nat},(∀j,M'.get j=if j=n then some (.cells row true)else M1.get j)->∀ {b0:Base} {e:Env} {a:Act} {w:World} {us:List Value} {kk:Nat} {next:Value->World->Prop},Bb b0 e M1.get n w->AV.bF e row us->us.length=pE*i.size->pE<=kk->
  (∀e' v w',Az e e'->Bb b0 e' M'.get (n+1) w'->(AV.slice n 0 pE i.size pE false).rep e' v->next v w')->
  (Builtin.append_ #[t,tx] o.type #[a.eval s,a.eval x]).run P w= .ok (.slice (some ⟨w.heap.size,0,none⟩) pE kk) (w.drew.alloc (.cells (us.toArray++Builtin.zeroCells z.cells (kk-pE)) el))->D3 P next ((execOp a.eval o).run P w):=by
  intro M1 M' row pE fx b0 e a w us kk next hM hr hl hle hk dN;obtain⟨e',l1,l2,l3⟩:=XY hM hr el (Builtin.zeroCells z.cells (kk-pE)) fx;refine key dN (hk e' _ _ l1 l2 ?_);simp only [AV.rep];refine⟨_,_,kk,_,l3,rfl,.inl rfl,hle,hle,nofun,?_⟩;rw [size_zeroCells,nK,hl,←add_mul,zero_add];exact Nat.mul_le_mul_right _ (by omega)
 split at h
 ·
  have sn:∀ {e a},P3 e tm a o.op.operands.toList->a.eval s= .slice none 0 0:=fun hT=>by have:=hT s qF _ zR;simpa only [AV.rep] using this
  cases hm:Nat.beq m 0 with
  |true=>
   rw [hm]at h;have:=eq_of_beq_eq_true hm;subst this;refine⟨_,_,_,h,fun b0 e a w hM hT next hk=> ?_⟩;obtain⟨us,iL,hs⟩:=Ra hM (hT x sf _ sg) sj;refine key (v:= .slice none 0 0) (w':=w) ?_ (hk e _ w (Az.refl e) hM (by simp only [AV.rep]));rw [sn hT];rcases hs.kind with⟨e',hk⟩|hk<;>simp [Builtin.append_,run_underlying hu,run_underlying hk,sizeOf,typeInfo,hi,hs.len,hs.cells]
  |false=>
   rw [hm]at h;simp only [cond_false]at h;have pD:m≠0:=fun e=>by subst e;cases hm
   cases hb:(ble (m*i.bytes) 140737488355328&&ble m 4611686018427387904)with
   |false=>rw [hb]at h;cases h
   |true=>
    rw [hb]at h;simp only [cond_true,Ew]at h;simp only [and_eq_true]at hb;have b1:=le_of_ble_eq_true hb.1;have b2:=le_of_ble_eq_true hb.2;obtain⟨M',h1,h2⟩:=T9 h;refine⟨_,_,_,h1,fun b0 e a w hM hT next hk=> ?_⟩;obtain⟨us,iL,hs⟩:=Ra hM (hT x sf _ sg) sj;have dN:=run_append_grow_src (P:=P) w t tx o.type el i z hu hi hz none 0 0 [] (run_firstCells_none w.drew i.size 0 0 0) (a.eval x) m us hs (by omega) (by omega) (growslice_fits (by omega) (by rw [zero_add];exact b1));rw [←sn hT,zero_add,List.nil_append]at dN;exact grow h2 hM iL hs.newsLen (grownCap_ge _ _ _ _) hk dN
 ·rename_i b fJ k sz cc ex;cases cz:Nat.beq sz i.size with
  |false=>rw [cz]at h;cases h
  |true=>
  rw [cz]at h;have:=eq_of_beq_eq_true cz;subst this;simp only [cond_true]at h;split at h
  case h_2=>cases h
  rename_i l sq hb;have sn:∀ {b0:Base} {e:Env} {a:Act} {w:World},Bb b0 e M.get n w->P3 e tm a o.op.operands.toList->∃B tt kk A vs rest,e b=some (B,tt)/\a.eval s= .slice (some A) k kk/\(A=⟨B,fJ,none⟩\/kk=0)/\k<=kk/\cc<=kk/\(ex=true->kk=cc)/\fJ+kk*i.size<=tt/\Lk w B sq (vs++rest)/\(vs++rest).length=tt/\AV.bF e l vs/\¬b0.X B:=by
   intro b0 e a w hM hT;have hr:=hT s qF _ zR;simp only [AV.rep]at hr;obtain⟨B',t',kk,A,q1,q2,q3,q4,q5,q6,q7⟩:=hr;obtain⟨B,tt,vs,rest,h1,h2,h3,h4,h5⟩:=hM.bG b _ hb;rw [h1]at q1;cases q1;exact⟨_,_,kk,A,vs,rest,h1,q2,q3,q4,q5,q6,q7,h2,h3,h4,h5⟩
  cases hm:Nat.beq m 0 with
  |true=>
   rw [hm]at h;have:=eq_of_beq_eq_true hm;subst this;refine⟨_,_,_,h,fun b0 e a w hM hT next hk=> ?_⟩;obtain⟨us,iL,hs⟩:=Ra hM (hT x sf _ sg) sj;have hr:=hT s qF _ zR;have mi:=hr;simp only [AV.rep]at mi;obtain⟨B',t',kk,A,q1,q2,q3,q4,_⟩:=mi;have X_:us=[]:=by have:=hs.newsLen;rw [Nat.zero_mul]at this;exact List.eq_nil_of_length_eq_zero this
   refine key (v:=a.eval s) (w':=w) ?_ (hk e _ w (Az.refl e) hM hr);rw [q2];have ID:=hs.cells;rw [X_]at ID;rcases hs.kind with⟨e',hk⟩|hk<;>simp [Builtin.append_,run_underlying hu,run_underlying hk,sizeOf,typeInfo,hi,hs.len,ID,q4,storeCells]
  |false=>
   rw [hm]at h;simp only [cond_false]at h;have pD:m≠0:=fun e=>by subst e;cases hm
   cases hA:(ble (k+m) cc&&sq&&ble (fJ+k*i.size) l.length)with
   |true=>
    rw [hA]at h;simp only [cond_true,R0]at h;simp only [and_eq_true]at hA;obtain⟨⟨a1,a2⟩,a3⟩:=hA;have a1:=le_of_ble_eq_true a1;have a3:=le_of_ble_eq_true a3;obtain⟨M',h1,h2⟩:=Tr.jn (f:=FU) h;rw [Ew]at h1;refine⟨_,_,_,h1,fun b0 e a w hM hT next hk=> ?_⟩;obtain⟨us,iL,hs⟩:=Ra hM (hT x sf _ sg) sj;obtain⟨B,tt,kk,A,vs,rest,g1,g2,g3,g4,g5,g6,g7,g8,g9,jK,sr⟩:=sn hM hT;rcases g3 with rfl|g3
    rotate_left
    ·omega
    have g8:Lk w B true (vs++rest):=by rw [a2]at g8;exact g8
    have wW:=hs.newsLen;have tZ:=A5 jK;have gJ:fJ+k*i.size+us.length<=(vs++rest).length:=by
     rw [g9,wW];have:(k+m)*i.size<=kk*i.size:=Nat.mul_le_mul_right _ (by omega);rw [add_mul]at this;omega
    have oz:∀j,j<us.length->∃v,w.cell? ⟨B,fJ+k*i.size+j,none⟩=some v:=fun j hj=>⟨_,g8.cell (List.getElem?_eq_getElem (by omega))⟩
    have dN:=run_append_room_src (P:=P) w t tx o.type el i hu hi B fJ k kk (a.eval x) m us hs (by omega) (fun j hj=>by obtain⟨v,hv⟩:=oz j hj;rw [hv];rfl) (fun j hj=>g8.frozen (by omega));rw [←g2]at dN;obtain⟨s1,s2⟩:=tY us (fJ+k*i.size) w _ g8;rw [zL _ _ _ gJ]at s1;have t2:(vs++rest).take (fJ+k*i.size)++us++(vs++rest).drop (fJ+k*i.size+us.length)=(vs.take (fJ+k*i.size)++us++vs.drop (fJ+k*i.size+m*i.size))++rest.drop (fJ+k*i.size+m*i.size-vs.length):=by
     rw [List.take_append_of_le_length (by omega),List.drop_append,wW];simp
    refine key dN (hk e _ _ (Az.refl e) (hM.kB hb g1 sr s2 h2 ⟨B,tt,_,rest.drop (fJ+k*i.size+m*i.size-vs.length),g1,?_,?_,D1 (D1 (Et jK) iL) (F3 jK),sr⟩) ?_)
    ·rw [←t2];exact s1
    ·rw [←t2,←g9];simp only [length_append,length_take,List.length_drop]at gJ⊢;omega
    ·simp only [AV.rep];exact⟨B,tt,kk,_,g1,rfl,.inl rfl,by omega,g5,g6,g7⟩
   |false=>
    rw [hA]at h;simp only [cond_false]at h;cases hB:(ble ((k+m)*i.bytes) 140737488355328&&ble (k+m) 4611686018427387904&&ble (fJ+k*i.size) l.length&&ble (cc+1) (k+m))with
    |false=>rw [hB]at h;cases h
    |true=>
    rw [hB]at h;simp only [cond_true]at h;simp only [and_eq_true]at hB;obtain⟨⟨⟨b1,b2⟩,b3⟩,b4⟩:=hB;have b1:=le_of_ble_eq_true b1;have b2:=le_of_ble_eq_true b2;have b3:=le_of_ble_eq_true b3;have b4:=le_of_ble_eq_true b4;have IE:∀ {e:Env} {a:Act} {w:World} {us:List Value} {B kk:Nat} {A:Addr} {vs rest:List Value},Src P i.size tx (a.eval x) m us w->a.eval s= .slice (some A) k kk->(A=⟨B,fJ,none⟩\/kk=0)->k<=kk->Lk w B sq (vs++rest)->AV.bF e l vs->kk<k+m->
     (Builtin.append_ #[t,tx] o.type #[a.eval s,a.eval x]).run P w= .ok (.slice (some ⟨w.heap.size,0,none⟩) (k+m) (grownCap w (k+m) kk el)) (w.drew.alloc (.cells (((vs.drop fJ).take (k*i.size)++us).toArray++Builtin.zeroCells z.cells (grownCap w (k+m) kk el-(k+m))) el)):=by
     intro e a w us B kk A vs rest hs g2 g3 g4 g8 jK aO;have tZ:=A5 jK;rw [g2];refine run_append_grow_src (P:=P) w t tx o.type el i z hu hi hz (some A) k kk ((vs.drop fJ).take (k*i.size)) ?_ (a.eval x) m us hs (by omega) (by omega) (growslice_fits (by omega) b1);refine run_firstCells_some w.drew i.size k A k kk _ (by simp;omega) fun j u hj=> ?_
     have aO:j<k*i.size:=by
      have:=(List.getElem?_eq_some_iff.1 hj).1;simp only [length_take]at this;omega
     have kU:0<k:=by rcases Nat.eq_zero_or_pos k with e0|e0;(rw [e0]at aO;omega);exact e0
     rcases g3 with rfl|g3
     rotate_left
     ·omega
     rw [Fc];rw [List.getElem?_take_of_lt aO,List.getElem?_drop]at hj;exact g8.cell (by rw [List.getElem?_append_left (by omega)];exact hj)
    have IG:∀ {e:Env} {us vs:List Value},us.length=m*i.size->AV.bF e l vs->((vs.drop fJ).take (k*i.size)++us).length=(k+m)*i.size:=by
     intro e us vs h1 h2;have:=A5 h2;simp only [length_append,length_take,List.length_drop,h1,add_mul];omega
    cases hex:ex with
    |true=>
     rw [hex]at h;simp only [cond_true,Ew]at h;obtain⟨M',h1,h2⟩:=T9 h;refine⟨_,_,_,h1,fun b0 e a w hM hT next hk=> ?_⟩;obtain⟨us,iL,hs⟩:=Ra hM (hT x sf _ sg) sj;obtain⟨B,tt,kk,A,vs,rest,g1,g2,g3,g4,g5,g6,g7,g8,g9,jK,sr⟩:=sn hM hT;have:=g6 hex;exact grow h2 hM (D1 (Et (F3 jK)) iL) (IG hs.newsLen jK) (grownCap_ge _ _ _ _) hk (IE hs g2 g3 g4 g8 jK (by omega))
    |false=>
     rw [hex]at h;simp only [cond_false]at h;cases t4:(Nat.beq fJ 0&&sq)with
     |false=>rw [t4]at h;cases h
     |true=>
     rw [t4]at h;simp only [cond_true,Ew]at h;simp only [and_eq_true]at t4;have:=eq_of_beq_eq_true t4.1;subst this;obtain⟨M1,h1,h2⟩:=Tr.jn (f:=FU) h;obtain⟨M',h3,h4⟩:=T9 h1;refine⟨_,_,_,h3,fun b0 e a w hM hT next hk=> ?_⟩;obtain⟨us,iL,hs⟩:=Ra hM (hT x sf _ sg) sj;obtain⟨B,tt,kk,A,vs,rest,g1,g2,g3,g4,g5,g6,g7,g8,g9,jK,sr⟩:=sn hM hT;by_cases pF:k+m<=kk
     ·have jo:e n=none:=hM.new n (.inl (le_refl _));rcases g3 with rfl|g3
      rotate_left
      ·omega
      have g8:Lk w B true (vs++rest):=by rw [t4.2]at g8;exact g8
      have wW:=hs.newsLen;have tZ:=A5 jK;rw [zero_add]at b3 g7;have gJ:k*i.size+us.length<=(vs++rest).length:=by
       rw [g9,wW];have:(k+m)*i.size<=kk*i.size:=Nat.mul_le_mul_right _ pF;rw [add_mul]at this;omega
      have oz:∀j,j<us.length->∃v,w.cell? ⟨B,0+k*i.size+j,none⟩=some v:=fun j hj=>⟨_,g8.cell (List.getElem?_eq_getElem (by omega))⟩
      have dN:=run_append_room_src (P:=P) w t tx o.type el i hu hi B 0 k kk (a.eval x) m us hs pF (fun j hj=>by obtain⟨v,hv⟩:=oz j hj;rw [hv];rfl) (fun j hj=>g8.frozen (by omega));rw [←g2]at dN;obtain⟨s1,s2⟩:=tY us (0+k*i.size) w _ g8;rw [zero_add]at s1 dN s2;rw [zL _ _ _ gJ]at s1;have t2:(vs++rest).take (k*i.size)++us++(vs++rest).drop (k*i.size+us.length)=(vs.take (k*i.size)++us)++(vs++rest).drop (k*i.size+us.length):=by
       rw [List.take_append_of_le_length (by omega)]
      have su:∀j,M'.get j=if j=n then some (.cells (l.take (k*i.size)++news) true)else if j=b then none else M.get j:=fun j=>by rw [h4,h2]
      refine key dN (hk (e.put n (B,tt)) _ _ (Az.put jo _) (hM.move hb g1 sr s2 su ⟨B,tt,vs.take (k*i.size)++us,(vs++rest).drop (k*i.size+us.length),?_,?_,?_,Ej (Az.put jo _) (D1 (Et jK) iL),sr⟩) ?_)
      ·exact Gd _ _ _
      ·rw [←t2];exact s1
      ·rw [←t2,←g9];simp only [length_append,length_take,List.length_drop]at gJ⊢;omega
      ·simp only [AV.rep];exact⟨B,tt,kk,_,Gd _ _ _,rfl,.inl rfl,pF,pF,nofun,by omega⟩
     ·have zQ:=hM.drop h2;have hr:=IE hs g2 g3 g4 g8 jK (by omega);rw [List.drop_zero]at hr;have IH:=IG hs.newsLen jK;rw [List.drop_zero]at IH;exact grow h4 zQ (D1 (Et jK) iL) IH (grownCap_ge _ _ _ _) hk hr
 ·cases h
end Go.Am
