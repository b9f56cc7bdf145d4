/- Chapter 53: the sum over the tiles is the sum over the image. Plain Lean. -/
namespace Go.VI.S
def sm (f:Nat→Int):Nat→Int
  | 0=>0
  | n+1=>sm f n+f n
theorem sm_add (f:Nat→Int) (a:Nat):∀ b,sm f (a+b)=sm f a+sm (fun i=>f (a+i)) b
  | 0=>by simp [sm]
  | b+1=>by rw [← Nat.add_assoc,sm,sm_add f a b,sm];omega
theorem sm_congr {f g:Nat→Int}:∀ {n:Nat},(∀ i,i<n→f i=g i)→sm f n=sm g n
  | 0,_=>rfl
  | n+1,h=>by rw [sm,sm,sm_congr fun i hi=>h i (by omega),h n (by omega)]
theorem sm_plus (f g:Nat→Int):∀ n,sm (fun i=>f i+g i) n=sm f n+sm g n
  | 0=>rfl
  | n+1=>by simp only [sm];rw [sm_plus f g n];omega
theorem sm_zero:∀ n,sm (fun _=>0) n=0
  | 0=>rfl
  | n+1=>by simp only [sm];rw [sm_zero n];rfl
theorem sm_comm (f:Nat→Nat→Int) (n:Nat):∀ m,sm (fun a=>sm (f a) n) m=sm (fun b=>sm (fun a=>f a b) m) n
  | 0=>by simp only [sm];rw [sm_zero]
  | m+1=>by simp only [sm];rw [sm_comm f n m,← sm_plus]
theorem sm_strip (F:Nat→Int) (W:Nat):∀ k,sm (fun c=>sm (fun i=>F (8*c+i)) (min 8 (W - 8*c))) k=sm F (min (8*k) W)
  | 0=>by simp [sm]
  | k+1=>by
    rw [sm,sm_strip F W k]
    by_cases h:8*k≤W
    · rw [Nat.min_eq_left h,← sm_add]
      congr 1
      omega
    · rw [show W - 8*k=0 from by omega,Nat.min_zero]
      simp only [sm,Int.add_zero]
      congr 1
      omega
theorem sm_rows (f:Nat→Nat→Int) {c:Nat} (hc:0<c):∀ r,sm (fun t=>f (t % c) (t / c)) (c*r)=sm (fun b=>sm (fun a=>f a b) c) r
  | 0=>rfl
  | r+1=>by
    rw [Nat.mul_succ,sm_add,sm_rows f hc r,sm]
    congr 1
    refine sm_congr fun i hi=>?_
    rw [Nat.mul_add_mod,Nat.mod_eq_of_lt hi,Nat.mul_add_div hc,Nat.div_eq_of_lt hi,Nat.add_zero]
def smR (G:Nat→Nat→Int) (x y w h:Nat):Int:=sm (fun j=>sm (fun i=>G (x+i) (y+j)) w) h
theorem sm_tiles (G:Nat→Nat→Int) {W H:Nat} (hW:0<W):sm (fun t=>smR G (8*(t % ((W+7) / 8))) (8*(t / ((W+7) / 8))) (min 8 (W - 8*(t % ((W+7) / 8)))) (min 8 (H - 8*(t / ((W+7) / 8))))) (((W+7) / 8)*((H+7) / 8))=smR G 0 0 W H:=by
  rw [sm_rows (fun a b=>smR G (8*a) (8*b) (min 8 (W - 8*a)) (min 8 (H - 8*b))) (by omega)]
  have e:∀ b,sm (fun a=>smR G (8*a) (8*b) (min 8 (W - 8*a)) (min 8 (H - 8*b))) ((W+7) / 8)=sm (fun j=>(fun y=>sm (fun x=>G x y) W) (8*b+j)) (min 8 (H - 8*b)):=by
    intro b
    unfold smR
    rw [sm_comm (fun a j=>sm (fun i=>G (8*a+i) (8*b+j)) (min 8 (W - 8*a)))]
    refine sm_congr fun j _=>?_
    show sm (fun a=>sm (fun i=>(fun x=>G x (8*b+j)) (8*a+i)) (min 8 (W - 8*a))) ((W+7) / 8)=_
    rw [sm_strip (fun x=>G x (8*b+j)) W]
    congr 1
    omega
  rw [sm_congr fun b _=>e b,sm_strip (fun y=>sm (fun x=>G x y) W) H,show min (8*((H+7) / 8)) H=H from by omega]
  unfold smR
  refine sm_congr fun j _=>sm_congr fun i _=>?_
  rw [Nat.zero_add,Nat.zero_add]
end Go.VI.S
