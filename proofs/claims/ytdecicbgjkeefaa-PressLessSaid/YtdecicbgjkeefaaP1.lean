/-
  A part of the symbolic machine, of its soundness, and of what functions compute. No condition.
-/
import Derived.Test.YtdecicbgjkeefaaE4
set_option linter.unusedSimpArgs false
set_option linter.unusedVariables false
/- Ways through the regions whose order is drawn. -/
section
namespace Go.Eng
def p5_9 : Plan := .quiet 0 (.quiet 1 (.quiet 2 (.quiet 3 (.quiet 4 (.both (.both (.both (.both (.loud 5 [0, 1, 2, 3, 4] (.both (.both (.both (.loud 6 [0, 1, 2, 3, 4] (.both (.both (.loud 7 [0, 1, 2, 3, 4] (.both (.loud 8 [0, 1, 2, 3, 4] (.loud 9 [0, 1, 2, 3, 4] (.loud 10 [1, 2, 3, 4] (.loud 11 [2, 3, 4] (.loud 12 [3, 4] (.loud 13 [4] (.loud 14 [] (.done)))))))) (.loud 9 [0, 1, 2, 3, 4] (.loud 8 [0, 1, 2, 3, 4] (.loud 10 [1, 2, 3, 4] (.loud 11 [2, 3, 4] (.loud 12 [3, 4] (.loud 13 [4] (.loud 14 [] (.done)))))))))) (.loud 8 [0, 1, 2, 3, 4] (.both (.loud 7 [0, 1, 2, 3, 4] (.loud 9 [0, 1, 2, 3, 4] (.loud 10 [1, 2, 3, 4] (.loud 11 [2, 3, 4] (.loud 12 [3, 4] (.loud 13 [4] (.loud 14 [] (.done)))))))) (.loud 9 [0, 1, 2, 3, 4] (.loud 7 [0, 1, 2, 3, 4] (.loud 10 [1, 2, 3, 4] (.loud 11 [2, 3, 4] (.loud 12 [3, 4] (.loud 13 [4] (.loud 14 [] (.done))))))))))) (.loud 9 [0, 1, 2, 3, 4] (.both (.loud 7 [0, 1, 2, 3, 4] (.loud 8 [0, 1, 2, 3, 4] (.loud 10 [1, 2, 3, 4] (.loud 11 [2, 3, 4] (.loud 12 [3, 4] (.loud 13 [4] (.loud 14 [] (.done)))))))) (.loud 8 [0, 1, 2, 3, 4] (.loud 7 [0, 1, 2, 3, 4] (.loud 10 [1, 2, 3, 4] (.loud 11 [2, 3, 4] (.loud 12 [3, 4] (.loud 13 [4] (.loud 14 [] (.done)))))))))))) (.loud 7 [0, 1, 2, 3, 4] (.both (.both (.loud 6 [0, 1, 2, 3, 4] (.both (.loud 8 [0, 1, 2, 3, 4] (.loud 9 [0, 1, 2, 3, 4] (.loud 10 [1, 2, 3, 4] (.loud 11 [2, 3, 4] (.loud 12 [3, 4] (.loud 13 [4] (.loud 14 [] (.done)))))))) (.loud 9 [0, 1, 2, 3, 4] (.loud 8 [0, 1, 2, 3, 4] (.loud 10 [1, 2, 3, 4] (.loud 11 [2, 3, 4] (.loud 12 [3, 4] (.loud 13 [4] (.loud 14 [] (.done)))))))))) (.loud 8 [0, 1, 2, 3, 4] (.both (.loud 6 [0, 1, 2, 3, 4] (.loud 9 [0, 1, 2, 3, 4] (.loud 10 [1, 2, 3, 4] (.loud 11 [2, 3, 4] (.loud 12 [3, 4] (.loud 13 [4] (.loud 14 [] (.done)))))))) (.loud 9 [0, 1, 2, 3, 4] (.loud 6 [0, 1, 2, 3, 4] (.loud 10 [1, 2, 3, 4] (.loud 11 [2, 3, 4] (.loud 12 [3, 4] (.loud 13 [4] (.loud 14 [] (.done))))))))))) (.loud 9 [0, 1, 2, 3, 4] (.both (.loud 6 [0, 1, 2, 3, 4] (.loud 8 [0, 1, 2, 3, 4] (.loud 10 [1, 2, 3, 4] (.loud 11 [2, 3, 4] (.loud 12 [3, 4] (.loud 13 [4] (.loud 14 [] (.done)))))))) (.loud 8 [0, 1, 2, 3, 4] (.loud 6 [0, 1, 2, 3, 4] (.loud 10 [1, 2, 3, 4] (.loud 11 [2, 3, 4] (.loud 12 [3, 4] (.loud 13 [4] (.loud 14 [] (.done))))))))))))) (.loud 8 [0, 1, 2, 3, 4] (.both (.both (.loud 6 [0, 1, 2, 3, 4] (.both (.loud 7 [0, 1, 2, 3, 4] (.loud 9 [0, 1, 2, 3, 4] (.loud 10 [1, 2, 3, 4] (.loud 11 [2, 3, 4] (.loud 12 [3, 4] (.loud 13 [4] (.loud 14 [] (.done)))))))) (.loud 9 [0, 1, 2, 3, 4] (.loud 7 [0, 1, 2, 3, 4] (.loud 10 [1, 2, 3, 4] (.loud 11 [2, 3, 4] (.loud 12 [3, 4] (.loud 13 [4] (.loud 14 [] (.done)))))))))) (.loud 7 [0, 1, 2, 3, 4] (.both (.loud 6 [0, 1, 2, 3, 4] (.loud 9 [0, 1, 2, 3, 4] (.loud 10 [1, 2, 3, 4] (.loud 11 [2, 3, 4] (.loud 12 [3, 4] (.loud 13 [4] (.loud 14 [] (.done)))))))) (.loud 9 [0, 1, 2, 3, 4] (.loud 6 [0, 1, 2, 3, 4] (.loud 10 [1, 2, 3, 4] (.loud 11 [2, 3, 4] (.loud 12 [3, 4] (.loud 13 [4] (.loud 14 [] (.done))))))))))) (.loud 9 [0, 1, 2, 3, 4] (.both (.loud 6 [0, 1, 2, 3, 4] (.loud 7 [0, 1, 2, 3, 4] (.loud 10 [1, 2, 3, 4] (.loud 11 [2, 3, 4] (.loud 12 [3, 4] (.loud 13 [4] (.loud 14 [] (.done)))))))) (.loud 7 [0, 1, 2, 3, 4] (.loud 6 [0, 1, 2, 3, 4] (.loud 10 [1, 2, 3, 4] (.loud 11 [2, 3, 4] (.loud 12 [3, 4] (.loud 13 [4] (.loud 14 [] (.done))))))))))))) (.loud 9 [0, 1, 2, 3, 4] (.both (.both (.loud 6 [0, 1, 2, 3, 4] (.both (.loud 7 [0, 1, 2, 3, 4] (.loud 8 [0, 1, 2, 3, 4] (.loud 10 [1, 2, 3, 4] (.loud 11 [2, 3, 4] (.loud 12 [3, 4] (.loud 13 [4] (.loud 14 [] (.done)))))))) (.loud 8 [0, 1, 2, 3, 4] (.loud 7 [0, 1, 2, 3, 4] (.loud 10 [1, 2, 3, 4] (.loud 11 [2, 3, 4] (.loud 12 [3, 4] (.loud 13 [4] (.loud 14 [] (.done)))))))))) (.loud 7 [0, 1, 2, 3, 4] (.both (.loud 6 [0, 1, 2, 3, 4] (.loud 8 [0, 1, 2, 3, 4] (.loud 10 [1, 2, 3, 4] (.loud 11 [2, 3, 4] (.loud 12 [3, 4] (.loud 13 [4] (.loud 14 [] (.done)))))))) (.loud 8 [0, 1, 2, 3, 4] (.loud 6 [0, 1, 2, 3, 4] (.loud 10 [1, 2, 3, 4] (.loud 11 [2, 3, 4] (.loud 12 [3, 4] (.loud 13 [4] (.loud 14 [] (.done))))))))))) (.loud 8 [0, 1, 2, 3, 4] (.both (.loud 6 [0, 1, 2, 3, 4] (.loud 7 [0, 1, 2, 3, 4] (.loud 10 [1, 2, 3, 4] (.loud 11 [2, 3, 4] (.loud 12 [3, 4] (.loud 13 [4] (.loud 14 [] (.done)))))))) (.loud 7 [0, 1, 2, 3, 4] (.loud 6 [0, 1, 2, 3, 4] (.loud 10 [1, 2, 3, 4] (.loud 11 [2, 3, 4] (.loud 12 [3, 4] (.loud 13 [4] (.loud 14 [] (.done)))))))))))))) (.loud 6 [0, 1, 2, 3, 4] (.both (.both (.both (.loud 5 [0, 1, 2, 3, 4] (.both (.both (.loud 7 [0, 1, 2, 3, 4] (.both (.loud 8 [0, 1, 2, 3, 4] (.loud 9 [0, 1, 2, 3, 4] (.loud 10 [1, 2, 3, 4] (.loud 11 [2, 3, 4] (.loud 12 [3, 4] (.loud 13 [4] (.loud 14 [] (.done)))))))) (.loud 9 [0, 1, 2, 3, 4] (.loud 8 [0, 1, 2, 3, 4] (.loud 10 [1, 2, 3, 4] (.loud 11 [2, 3, 4] (.loud 12 [3, 4] (.loud 13 [4] (.loud 14 [] (.done)))))))))) (.loud 8 [0, 1, 2, 3, 4] (.both (.loud 7 [0, 1, 2, 3, 4] (.loud 9 [0, 1, 2, 3, 4] (.loud 10 [1, 2, 3, 4] (.loud 11 [2, 3, 4] (.loud 12 [3, 4] (.loud 13 [4] (.loud 14 [] (.done)))))))) (.loud 9 [0, 1, 2, 3, 4] (.loud 7 [0, 1, 2, 3, 4] (.loud 10 [1, 2, 3, 4] (.loud 11 [2, 3, 4] (.loud 12 [3, 4] (.loud 13 [4] (.loud 14 [] (.done))))))))))) (.loud 9 [0, 1, 2, 3, 4] (.both (.loud 7 [0, 1, 2, 3, 4] (.loud 8 [0, 1, 2, 3, 4] (.loud 10 [1, 2, 3, 4] (.loud 11 [2, 3, 4] (.loud 12 [3, 4] (.loud 13 [4] (.loud 14 [] (.done)))))))) (.loud 8 [0, 1, 2, 3, 4] (.loud 7 [0, 1, 2, 3, 4] (.loud 10 [1, 2, 3, 4] (.loud 11 [2, 3, 4] (.loud 12 [3, 4] (.loud 13 [4] (.loud 14 [] (.done)))))))))))) (.loud 7 [0, 1, 2, 3, 4] (.both (.both (.loud 5 [0, 1, 2, 3, 4] (.both (.loud 8 [0, 1, 2, 3, 4] (.loud 9 [0, 1, 2, 3, 4] (.loud 10 [1, 2, 3, 4] (.loud 11 [2, 3, 4] (.loud 12 [3, 4] (.loud 13 [4] (.loud 14 [] (.done)))))))) (.loud 9 [0, 1, 2, 3, 4] (.loud 8 [0, 1, 2, 3, 4] (.loud 10 [1, 2, 3, 4] (.loud 11 [2, 3, 4] (.loud 12 [3, 4] (.loud 13 [4] (.loud 14 [] (.done)))))))))) (.loud 8 [0, 1, 2, 3, 4] (.both (.loud 5 [0, 1, 2, 3, 4] (.loud 9 [0, 1, 2, 3, 4] (.loud 10 [1, 2, 3, 4] (.loud 11 [2, 3, 4] (.loud 12 [3, 4] (.loud 13 [4] (.loud 14 [] (.done)))))))) (.loud 9 [0, 1, 2, 3, 4] (.loud 5 [0, 1, 2, 3, 4] (.loud 10 [1, 2, 3, 4] (.loud 11 [2, 3, 4] (.loud 12 [3, 4] (.loud 13 [4] (.loud 14 [] (.done))))))))))) (.loud 9 [0, 1, 2, 3, 4] (.both (.loud 5 [0, 1, 2, 3, 4] (.loud 8 [0, 1, 2, 3, 4] (.loud 10 [1, 2, 3, 4] (.loud 11 [2, 3, 4] (.loud 12 [3, 4] (.loud 13 [4] (.loud 14 [] (.done)))))))) (.loud 8 [0, 1, 2, 3, 4] (.loud 5 [0, 1, 2, 3, 4] (.loud 10 [1, 2, 3, 4] (.loud 11 [2, 3, 4] (.loud 12 [3, 4] (.loud 13 [4] (.loud 14 [] (.done))))))))))))) (.loud 8 [0, 1, 2, 3, 4] (.both (.both (.loud 5 [0, 1, 2, 3, 4] (.both (.loud 7 [0, 1, 2, 3, 4] (.loud 9 [0, 1, 2, 3, 4] (.loud 10 [1, 2, 3, 4] (.loud 11 [2, 3, 4] (.loud 12 [3, 4] (.loud 13 [4] (.loud 14 [] (.done)))))))) (.loud 9 [0, 1, 2, 3, 4] (.loud 7 [0, 1, 2, 3, 4] (.loud 10 [1, 2, 3, 4] (.loud 11 [2, 3, 4] (.loud 12 [3, 4] (.loud 13 [4] (.loud 14 [] (.done)))))))))) (.loud 7 [0, 1, 2, 3, 4] (.both (.loud 5 [0, 1, 2, 3, 4] (.loud 9 [0, 1, 2, 3, 4] (.loud 10 [1, 2, 3, 4] (.loud 11 [2, 3, 4] (.loud 12 [3, 4] (.loud 13 [4] (.loud 14 [] (.done)))))))) (.loud 9 [0, 1, 2, 3, 4] (.loud 5 [0, 1, 2, 3, 4] (.loud 10 [1, 2, 3, 4] (.loud 11 [2, 3, 4] (.loud 12 [3, 4] (.loud 13 [4] (.loud 14 [] (.done))))))))))) (.loud 9 [0, 1, 2, 3, 4] (.both (.loud 5 [0, 1, 2, 3, 4] (.loud 7 [0, 1, 2, 3, 4] (.loud 10 [1, 2, 3, 4] (.loud 11 [2, 3, 4] (.loud 12 [3, 4] (.loud 13 [4] (.loud 14 [] (.done)))))))) (.loud 7 [0, 1, 2, 3, 4] (.loud 5 [0, 1, 2, 3, 4] (.loud 10 [1, 2, 3, 4] (.loud 11 [2, 3, 4] (.loud 12 [3, 4] (.loud 13 [4] (.loud 14 [] (.done))))))))))))) (.loud 9 [0, 1, 2, 3, 4] (.both (.both (.loud 5 [0, 1, 2, 3, 4] (.both (.loud 7 [0, 1, 2, 3, 4] (.loud 8 [0, 1, 2, 3, 4] (.loud 10 [1, 2, 3, 4] (.loud 11 [2, 3, 4] (.loud 12 [3, 4] (.loud 13 [4] (.loud 14 [] (.done)))))))) (.loud 8 [0, 1, 2, 3, 4] (.loud 7 [0, 1, 2, 3, 4] (.loud 10 [1, 2, 3, 4] (.loud 11 [2, 3, 4] (.loud 12 [3, 4] (.loud 13 [4] (.loud 14 [] (.done)))))))))) (.loud 7 [0, 1, 2, 3, 4] (.both (.loud 5 [0, 1, 2, 3, 4] (.loud 8 [0, 1, 2, 3, 4] (.loud 10 [1, 2, 3, 4] (.loud 11 [2, 3, 4] (.loud 12 [3, 4] (.loud 13 [4] (.loud 14 [] (.done)))))))) (.loud 8 [0, 1, 2, 3, 4] (.loud 5 [0, 1, 2, 3, 4] (.loud 10 [1, 2, 3, 4] (.loud 11 [2, 3, 4] (.loud 12 [3, 4] (.loud 13 [4] (.loud 14 [] (.done))))))))))) (.loud 8 [0, 1, 2, 3, 4] (.both (.loud 5 [0, 1, 2, 3, 4] (.loud 7 [0, 1, 2, 3, 4] (.loud 10 [1, 2, 3, 4] (.loud 11 [2, 3, 4] (.loud 12 [3, 4] (.loud 13 [4] (.loud 14 [] (.done)))))))) (.loud 7 [0, 1, 2, 3, 4] (.loud 5 [0, 1, 2, 3, 4] (.loud 10 [1, 2, 3, 4] (.loud 11 [2, 3, 4] (.loud 12 [3, 4] (.loud 13 [4] (.loud 14 [] (.done))))))))))))))) (.loud 7 [0, 1, 2, 3, 4] (.both (.both (.both (.loud 5 [0, 1, 2, 3, 4] (.both (.both (.loud 6 [0, 1, 2, 3, 4] (.both (.loud 8 [0, 1, 2, 3, 4] (.loud 9 [0, 1, 2, 3, 4] (.loud 10 [1, 2, 3, 4] (.loud 11 [2, 3, 4] (.loud 12 [3, 4] (.loud 13 [4] (.loud 14 [] (.done)))))))) (.loud 9 [0, 1, 2, 3, 4] (.loud 8 [0, 1, 2, 3, 4] (.loud 10 [1, 2, 3, 4] (.loud 11 [2, 3, 4] (.loud 12 [3, 4] (.loud 13 [4] (.loud 14 [] (.done)))))))))) (.loud 8 [0, 1, 2, 3, 4] (.both (.loud 6 [0, 1, 2, 3, 4] (.loud 9 [0, 1, 2, 3, 4] (.loud 10 [1, 2, 3, 4] (.loud 11 [2, 3, 4] (.loud 12 [3, 4] (.loud 13 [4] (.loud 14 [] (.done)))))))) (.loud 9 [0, 1, 2, 3, 4] (.loud 6 [0, 1, 2, 3, 4] (.loud 10 [1, 2, 3, 4] (.loud 11 [2, 3, 4] (.loud 12 [3, 4] (.loud 13 [4] (.loud 14 [] (.done))))))))))) (.loud 9 [0, 1, 2, 3, 4] (.both (.loud 6 [0, 1, 2, 3, 4] (.loud 8 [0, 1, 2, 3, 4] (.loud 10 [1, 2, 3, 4] (.loud 11 [2, 3, 4] (.loud 12 [3, 4] (.loud 13 [4] (.loud 14 [] (.done)))))))) (.loud 8 [0, 1, 2, 3, 4] (.loud 6 [0, 1, 2, 3, 4] (.loud 10 [1, 2, 3, 4] (.loud 11 [2, 3, 4] (.loud 12 [3, 4] (.loud 13 [4] (.loud 14 [] (.done)))))))))))) (.loud 6 [0, 1, 2, 3, 4] (.both (.both (.loud 5 [0, 1, 2, 3, 4] (.both (.loud 8 [0, 1, 2, 3, 4] (.loud 9 [0, 1, 2, 3, 4] (.loud 10 [1, 2, 3, 4] (.loud 11 [2, 3, 4] (.loud 12 [3, 4] (.loud 13 [4] (.loud 14 [] (.done)))))))) (.loud 9 [0, 1, 2, 3, 4] (.loud 8 [0, 1, 2, 3, 4] (.loud 10 [1, 2, 3, 4] (.loud 11 [2, 3, 4] (.loud 12 [3, 4] (.loud 13 [4] (.loud 14 [] (.done)))))))))) (.loud 8 [0, 1, 2, 3, 4] (.both (.loud 5 [0, 1, 2, 3, 4] (.loud 9 [0, 1, 2, 3, 4] (.loud 10 [1, 2, 3, 4] (.loud 11 [2, 3, 4] (.loud 12 [3, 4] (.loud 13 [4] (.loud 14 [] (.done)))))))) (.loud 9 [0, 1, 2, 3, 4] (.loud 5 [0, 1, 2, 3, 4] (.loud 10 [1, 2, 3, 4] (.loud 11 [2, 3, 4] (.loud 12 [3, 4] (.loud 13 [4] (.loud 14 [] (.done))))))))))) (.loud 9 [0, 1, 2, 3, 4] (.both (.loud 5 [0, 1, 2, 3, 4] (.loud 8 [0, 1, 2, 3, 4] (.loud 10 [1, 2, 3, 4] (.loud 11 [2, 3, 4] (.loud 12 [3, 4] (.loud 13 [4] (.loud 14 [] (.done)))))))) (.loud 8 [0, 1, 2, 3, 4] (.loud 5 [0, 1, 2, 3, 4] (.loud 10 [1, 2, 3, 4] (.loud 11 [2, 3, 4] (.loud 12 [3, 4] (.loud 13 [4] (.loud 14 [] (.done))))))))))))) (.loud 8 [0, 1, 2, 3, 4] (.both (.both (.loud 5 [0, 1, 2, 3, 4] (.both (.loud 6 [0, 1, 2, 3, 4] (.loud 9 [0, 1, 2, 3, 4] (.loud 10 [1, 2, 3, 4] (.loud 11 [2, 3, 4] (.loud 12 [3, 4] (.loud 13 [4] (.loud 14 [] (.done)))))))) (.loud 9 [0, 1, 2, 3, 4] (.loud 6 [0, 1, 2, 3, 4] (.loud 10 [1, 2, 3, 4] (.loud 11 [2, 3, 4] (.loud 12 [3, 4] (.loud 13 [4] (.loud 14 [] (.done)))))))))) (.loud 6 [0, 1, 2, 3, 4] (.both (.loud 5 [0, 1, 2, 3, 4] (.loud 9 [0, 1, 2, 3, 4] (.loud 10 [1, 2, 3, 4] (.loud 11 [2, 3, 4] (.loud 12 [3, 4] (.loud 13 [4] (.loud 14 [] (.done)))))))) (.loud 9 [0, 1, 2, 3, 4] (.loud 5 [0, 1, 2, 3, 4] (.loud 10 [1, 2, 3, 4] (.loud 11 [2, 3, 4] (.loud 12 [3, 4] (.loud 13 [4] (.loud 14 [] (.done))))))))))) (.loud 9 [0, 1, 2, 3, 4] (.both (.loud 5 [0, 1, 2, 3, 4] (.loud 6 [0, 1, 2, 3, 4] (.loud 10 [1, 2, 3, 4] (.loud 11 [2, 3, 4] (.loud 12 [3, 4] (.loud 13 [4] (.loud 14 [] (.done)))))))) (.loud 6 [0, 1, 2, 3, 4] (.loud 5 [0, 1, 2, 3, 4] (.loud 10 [1, 2, 3, 4] (.loud 11 [2, 3, 4] (.loud 12 [3, 4] (.loud 13 [4] (.loud 14 [] (.done))))))))))))) (.loud 9 [0, 1, 2, 3, 4] (.both (.both (.loud 5 [0, 1, 2, 3, 4] (.both (.loud 6 [0, 1, 2, 3, 4] (.loud 8 [0, 1, 2, 3, 4] (.loud 10 [1, 2, 3, 4] (.loud 11 [2, 3, 4] (.loud 12 [3, 4] (.loud 13 [4] (.loud 14 [] (.done)))))))) (.loud 8 [0, 1, 2, 3, 4] (.loud 6 [0, 1, 2, 3, 4] (.loud 10 [1, 2, 3, 4] (.loud 11 [2, 3, 4] (.loud 12 [3, 4] (.loud 13 [4] (.loud 14 [] (.done)))))))))) (.loud 6 [0, 1, 2, 3, 4] (.both (.loud 5 [0, 1, 2, 3, 4] (.loud 8 [0, 1, 2, 3, 4] (.loud 10 [1, 2, 3, 4] (.loud 11 [2, 3, 4] (.loud 12 [3, 4] (.loud 13 [4] (.loud 14 [] (.done)))))))) (.loud 8 [0, 1, 2, 3, 4] (.loud 5 [0, 1, 2, 3, 4] (.loud 10 [1, 2, 3, 4] (.loud 11 [2, 3, 4] (.loud 12 [3, 4] (.loud 13 [4] (.loud 14 [] (.done))))))))))) (.loud 8 [0, 1, 2, 3, 4] (.both (.loud 5 [0, 1, 2, 3, 4] (.loud 6 [0, 1, 2, 3, 4] (.loud 10 [1, 2, 3, 4] (.loud 11 [2, 3, 4] (.loud 12 [3, 4] (.loud 13 [4] (.loud 14 [] (.done)))))))) (.loud 6 [0, 1, 2, 3, 4] (.loud 5 [0, 1, 2, 3, 4] (.loud 10 [1, 2, 3, 4] (.loud 11 [2, 3, 4] (.loud 12 [3, 4] (.loud 13 [4] (.loud 14 [] (.done))))))))))))))) (.loud 8 [0, 1, 2, 3, 4] (.both (.both (.both (.loud 5 [0, 1, 2, 3, 4] (.both (.both (.loud 6 [0, 1, 2, 3, 4] (.both (.loud 7 [0, 1, 2, 3, 4] (.loud 9 [0, 1, 2, 3, 4] (.loud 10 [1, 2, 3, 4] (.loud 11 [2, 3, 4] (.loud 12 [3, 4] (.loud 13 [4] (.loud 14 [] (.done)))))))) (.loud 9 [0, 1, 2, 3, 4] (.loud 7 [0, 1, 2, 3, 4] (.loud 10 [1, 2, 3, 4] (.loud 11 [2, 3, 4] (.loud 12 [3, 4] (.loud 13 [4] (.loud 14 [] (.done)))))))))) (.loud 7 [0, 1, 2, 3, 4] (.both (.loud 6 [0, 1, 2, 3, 4] (.loud 9 [0, 1, 2, 3, 4] (.loud 10 [1, 2, 3, 4] (.loud 11 [2, 3, 4] (.loud 12 [3, 4] (.loud 13 [4] (.loud 14 [] (.done)))))))) (.loud 9 [0, 1, 2, 3, 4] (.loud 6 [0, 1, 2, 3, 4] (.loud 10 [1, 2, 3, 4] (.loud 11 [2, 3, 4] (.loud 12 [3, 4] (.loud 13 [4] (.loud 14 [] (.done))))))))))) (.loud 9 [0, 1, 2, 3, 4] (.both (.loud 6 [0, 1, 2, 3, 4] (.loud 7 [0, 1, 2, 3, 4] (.loud 10 [1, 2, 3, 4] (.loud 11 [2, 3, 4] (.loud 12 [3, 4] (.loud 13 [4] (.loud 14 [] (.done)))))))) (.loud 7 [0, 1, 2, 3, 4] (.loud 6 [0, 1, 2, 3, 4] (.loud 10 [1, 2, 3, 4] (.loud 11 [2, 3, 4] (.loud 12 [3, 4] (.loud 13 [4] (.loud 14 [] (.done)))))))))))) (.loud 6 [0, 1, 2, 3, 4] (.both (.both (.loud 5 [0, 1, 2, 3, 4] (.both (.loud 7 [0, 1, 2, 3, 4] (.loud 9 [0, 1, 2, 3, 4] (.loud 10 [1, 2, 3, 4] (.loud 11 [2, 3, 4] (.loud 12 [3, 4] (.loud 13 [4] (.loud 14 [] (.done)))))))) (.loud 9 [0, 1, 2, 3, 4] (.loud 7 [0, 1, 2, 3, 4] (.loud 10 [1, 2, 3, 4] (.loud 11 [2, 3, 4] (.loud 12 [3, 4] (.loud 13 [4] (.loud 14 [] (.done)))))))))) (.loud 7 [0, 1, 2, 3, 4] (.both (.loud 5 [0, 1, 2, 3, 4] (.loud 9 [0, 1, 2, 3, 4] (.loud 10 [1, 2, 3, 4] (.loud 11 [2, 3, 4] (.loud 12 [3, 4] (.loud 13 [4] (.loud 14 [] (.done)))))))) (.loud 9 [0, 1, 2, 3, 4] (.loud 5 [0, 1, 2, 3, 4] (.loud 10 [1, 2, 3, 4] (.loud 11 [2, 3, 4] (.loud 12 [3, 4] (.loud 13 [4] (.loud 14 [] (.done))))))))))) (.loud 9 [0, 1, 2, 3, 4] (.both (.loud 5 [0, 1, 2, 3, 4] (.loud 7 [0, 1, 2, 3, 4] (.loud 10 [1, 2, 3, 4] (.loud 11 [2, 3, 4] (.loud 12 [3, 4] (.loud 13 [4] (.loud 14 [] (.done)))))))) (.loud 7 [0, 1, 2, 3, 4] (.loud 5 [0, 1, 2, 3, 4] (.loud 10 [1, 2, 3, 4] (.loud 11 [2, 3, 4] (.loud 12 [3, 4] (.loud 13 [4] (.loud 14 [] (.done))))))))))))) (.loud 7 [0, 1, 2, 3, 4] (.both (.both (.loud 5 [0, 1, 2, 3, 4] (.both (.loud 6 [0, 1, 2, 3, 4] (.loud 9 [0, 1, 2, 3, 4] (.loud 10 [1, 2, 3, 4] (.loud 11 [2, 3, 4] (.loud 12 [3, 4] (.loud 13 [4] (.loud 14 [] (.done)))))))) (.loud 9 [0, 1, 2, 3, 4] (.loud 6 [0, 1, 2, 3, 4] (.loud 10 [1, 2, 3, 4] (.loud 11 [2, 3, 4] (.loud 12 [3, 4] (.loud 13 [4] (.loud 14 [] (.done)))))))))) (.loud 6 [0, 1, 2, 3, 4] (.both (.loud 5 [0, 1, 2, 3, 4] (.loud 9 [0, 1, 2, 3, 4] (.loud 10 [1, 2, 3, 4] (.loud 11 [2, 3, 4] (.loud 12 [3, 4] (.loud 13 [4] (.loud 14 [] (.done)))))))) (.loud 9 [0, 1, 2, 3, 4] (.loud 5 [0, 1, 2, 3, 4] (.loud 10 [1, 2, 3, 4] (.loud 11 [2, 3, 4] (.loud 12 [3, 4] (.loud 13 [4] (.loud 14 [] (.done))))))))))) (.loud 9 [0, 1, 2, 3, 4] (.both (.loud 5 [0, 1, 2, 3, 4] (.loud 6 [0, 1, 2, 3, 4] (.loud 10 [1, 2, 3, 4] (.loud 11 [2, 3, 4] (.loud 12 [3, 4] (.loud 13 [4] (.loud 14 [] (.done)))))))) (.loud 6 [0, 1, 2, 3, 4] (.loud 5 [0, 1, 2, 3, 4] (.loud 10 [1, 2, 3, 4] (.loud 11 [2, 3, 4] (.loud 12 [3, 4] (.loud 13 [4] (.loud 14 [] (.done))))))))))))) (.loud 9 [0, 1, 2, 3, 4] (.both (.both (.loud 5 [0, 1, 2, 3, 4] (.both (.loud 6 [0, 1, 2, 3, 4] (.loud 7 [0, 1, 2, 3, 4] (.loud 10 [1, 2, 3, 4] (.loud 11 [2, 3, 4] (.loud 12 [3, 4] (.loud 13 [4] (.loud 14 [] (.done)))))))) (.loud 7 [0, 1, 2, 3, 4] (.loud 6 [0, 1, 2, 3, 4] (.loud 10 [1, 2, 3, 4] (.loud 11 [2, 3, 4] (.loud 12 [3, 4] (.loud 13 [4] (.loud 14 [] (.done)))))))))) (.loud 6 [0, 1, 2, 3, 4] (.both (.loud 5 [0, 1, 2, 3, 4] (.loud 7 [0, 1, 2, 3, 4] (.loud 10 [1, 2, 3, 4] (.loud 11 [2, 3, 4] (.loud 12 [3, 4] (.loud 13 [4] (.loud 14 [] (.done)))))))) (.loud 7 [0, 1, 2, 3, 4] (.loud 5 [0, 1, 2, 3, 4] (.loud 10 [1, 2, 3, 4] (.loud 11 [2, 3, 4] (.loud 12 [3, 4] (.loud 13 [4] (.loud 14 [] (.done))))))))))) (.loud 7 [0, 1, 2, 3, 4] (.both (.loud 5 [0, 1, 2, 3, 4] (.loud 6 [0, 1, 2, 3, 4] (.loud 10 [1, 2, 3, 4] (.loud 11 [2, 3, 4] (.loud 12 [3, 4] (.loud 13 [4] (.loud 14 [] (.done)))))))) (.loud 6 [0, 1, 2, 3, 4] (.loud 5 [0, 1, 2, 3, 4] (.loud 10 [1, 2, 3, 4] (.loud 11 [2, 3, 4] (.loud 12 [3, 4] (.loud 13 [4] (.loud 14 [] (.done))))))))))))))) (.loud 9 [0, 1, 2, 3, 4] (.both (.both (.both (.loud 5 [0, 1, 2, 3, 4] (.both (.both (.loud 6 [0, 1, 2, 3, 4] (.both (.loud 7 [0, 1, 2, 3, 4] (.loud 8 [0, 1, 2, 3, 4] (.loud 10 [1, 2, 3, 4] (.loud 11 [2, 3, 4] (.loud 12 [3, 4] (.loud 13 [4] (.loud 14 [] (.done)))))))) (.loud 8 [0, 1, 2, 3, 4] (.loud 7 [0, 1, 2, 3, 4] (.loud 10 [1, 2, 3, 4] (.loud 11 [2, 3, 4] (.loud 12 [3, 4] (.loud 13 [4] (.loud 14 [] (.done)))))))))) (.loud 7 [0, 1, 2, 3, 4] (.both (.loud 6 [0, 1, 2, 3, 4] (.loud 8 [0, 1, 2, 3, 4] (.loud 10 [1, 2, 3, 4] (.loud 11 [2, 3, 4] (.loud 12 [3, 4] (.loud 13 [4] (.loud 14 [] (.done)))))))) (.loud 8 [0, 1, 2, 3, 4] (.loud 6 [0, 1, 2, 3, 4] (.loud 10 [1, 2, 3, 4] (.loud 11 [2, 3, 4] (.loud 12 [3, 4] (.loud 13 [4] (.loud 14 [] (.done))))))))))) (.loud 8 [0, 1, 2, 3, 4] (.both (.loud 6 [0, 1, 2, 3, 4] (.loud 7 [0, 1, 2, 3, 4] (.loud 10 [1, 2, 3, 4] (.loud 11 [2, 3, 4] (.loud 12 [3, 4] (.loud 13 [4] (.loud 14 [] (.done)))))))) (.loud 7 [0, 1, 2, 3, 4] (.loud 6 [0, 1, 2, 3, 4] (.loud 10 [1, 2, 3, 4] (.loud 11 [2, 3, 4] (.loud 12 [3, 4] (.loud 13 [4] (.loud 14 [] (.done)))))))))))) (.loud 6 [0, 1, 2, 3, 4] (.both (.both (.loud 5 [0, 1, 2, 3, 4] (.both (.loud 7 [0, 1, 2, 3, 4] (.loud 8 [0, 1, 2, 3, 4] (.loud 10 [1, 2, 3, 4] (.loud 11 [2, 3, 4] (.loud 12 [3, 4] (.loud 13 [4] (.loud 14 [] (.done)))))))) (.loud 8 [0, 1, 2, 3, 4] (.loud 7 [0, 1, 2, 3, 4] (.loud 10 [1, 2, 3, 4] (.loud 11 [2, 3, 4] (.loud 12 [3, 4] (.loud 13 [4] (.loud 14 [] (.done)))))))))) (.loud 7 [0, 1, 2, 3, 4] (.both (.loud 5 [0, 1, 2, 3, 4] (.loud 8 [0, 1, 2, 3, 4] (.loud 10 [1, 2, 3, 4] (.loud 11 [2, 3, 4] (.loud 12 [3, 4] (.loud 13 [4] (.loud 14 [] (.done)))))))) (.loud 8 [0, 1, 2, 3, 4] (.loud 5 [0, 1, 2, 3, 4] (.loud 10 [1, 2, 3, 4] (.loud 11 [2, 3, 4] (.loud 12 [3, 4] (.loud 13 [4] (.loud 14 [] (.done))))))))))) (.loud 8 [0, 1, 2, 3, 4] (.both (.loud 5 [0, 1, 2, 3, 4] (.loud 7 [0, 1, 2, 3, 4] (.loud 10 [1, 2, 3, 4] (.loud 11 [2, 3, 4] (.loud 12 [3, 4] (.loud 13 [4] (.loud 14 [] (.done)))))))) (.loud 7 [0, 1, 2, 3, 4] (.loud 5 [0, 1, 2, 3, 4] (.loud 10 [1, 2, 3, 4] (.loud 11 [2, 3, 4] (.loud 12 [3, 4] (.loud 13 [4] (.loud 14 [] (.done))))))))))))) (.loud 7 [0, 1, 2, 3, 4] (.both (.both (.loud 5 [0, 1, 2, 3, 4] (.both (.loud 6 [0, 1, 2, 3, 4] (.loud 8 [0, 1, 2, 3, 4] (.loud 10 [1, 2, 3, 4] (.loud 11 [2, 3, 4] (.loud 12 [3, 4] (.loud 13 [4] (.loud 14 [] (.done)))))))) (.loud 8 [0, 1, 2, 3, 4] (.loud 6 [0, 1, 2, 3, 4] (.loud 10 [1, 2, 3, 4] (.loud 11 [2, 3, 4] (.loud 12 [3, 4] (.loud 13 [4] (.loud 14 [] (.done)))))))))) (.loud 6 [0, 1, 2, 3, 4] (.both (.loud 5 [0, 1, 2, 3, 4] (.loud 8 [0, 1, 2, 3, 4] (.loud 10 [1, 2, 3, 4] (.loud 11 [2, 3, 4] (.loud 12 [3, 4] (.loud 13 [4] (.loud 14 [] (.done)))))))) (.loud 8 [0, 1, 2, 3, 4] (.loud 5 [0, 1, 2, 3, 4] (.loud 10 [1, 2, 3, 4] (.loud 11 [2, 3, 4] (.loud 12 [3, 4] (.loud 13 [4] (.loud 14 [] (.done))))))))))) (.loud 8 [0, 1, 2, 3, 4] (.both (.loud 5 [0, 1, 2, 3, 4] (.loud 6 [0, 1, 2, 3, 4] (.loud 10 [1, 2, 3, 4] (.loud 11 [2, 3, 4] (.loud 12 [3, 4] (.loud 13 [4] (.loud 14 [] (.done)))))))) (.loud 6 [0, 1, 2, 3, 4] (.loud 5 [0, 1, 2, 3, 4] (.loud 10 [1, 2, 3, 4] (.loud 11 [2, 3, 4] (.loud 12 [3, 4] (.loud 13 [4] (.loud 14 [] (.done))))))))))))) (.loud 8 [0, 1, 2, 3, 4] (.both (.both (.loud 5 [0, 1, 2, 3, 4] (.both (.loud 6 [0, 1, 2, 3, 4] (.loud 7 [0, 1, 2, 3, 4] (.loud 10 [1, 2, 3, 4] (.loud 11 [2, 3, 4] (.loud 12 [3, 4] (.loud 13 [4] (.loud 14 [] (.done)))))))) (.loud 7 [0, 1, 2, 3, 4] (.loud 6 [0, 1, 2, 3, 4] (.loud 10 [1, 2, 3, 4] (.loud 11 [2, 3, 4] (.loud 12 [3, 4] (.loud 13 [4] (.loud 14 [] (.done)))))))))) (.loud 6 [0, 1, 2, 3, 4] (.both (.loud 5 [0, 1, 2, 3, 4] (.loud 7 [0, 1, 2, 3, 4] (.loud 10 [1, 2, 3, 4] (.loud 11 [2, 3, 4] (.loud 12 [3, 4] (.loud 13 [4] (.loud 14 [] (.done)))))))) (.loud 7 [0, 1, 2, 3, 4] (.loud 5 [0, 1, 2, 3, 4] (.loud 10 [1, 2, 3, 4] (.loud 11 [2, 3, 4] (.loud 12 [3, 4] (.loud 13 [4] (.loud 14 [] (.done))))))))))) (.loud 7 [0, 1, 2, 3, 4] (.both (.loud 5 [0, 1, 2, 3, 4] (.loud 6 [0, 1, 2, 3, 4] (.loud 10 [1, 2, 3, 4] (.loud 11 [2, 3, 4] (.loud 12 [3, 4] (.loud 13 [4] (.loud 14 [] (.done)))))))) (.loud 6 [0, 1, 2, 3, 4] (.loud 5 [0, 1, 2, 3, 4] (.loud 10 [1, 2, 3, 4] (.loud 11 [2, 3, 4] (.loud 12 [3, 4] (.loud 13 [4] (.loud 14 [] (.done)))))))))))))))))))
def p5_14 : Plan := .quiet 0 (.quiet 1 (.quiet 2 (.quiet 3 (.quiet 4 (.quiet 5 (.quiet 6 (.quiet 7 (.quiet 8 (.quiet 9 (.quiet 10 (.quiet 11 (.loud 12 [] (.done)))))))))))))
def p5_16 : Plan := .quiet 1 (.quiet 2 (.quiet 5 (.quiet 6 (.both (.loud 0 [1, 2, 5, 6] (.both (.loud 3 [5, 6] (.quiet 8 (.loud 4 [5, 6, 8] (.loud 7 [8] (.loud 9 [] (.quiet 10 (.loud 11 [] (.done)))))))) (.loud 4 [1, 2, 5, 6] (.loud 3 [5, 6] (.quiet 8 (.loud 7 [8] (.loud 9 [] (.quiet 10 (.loud 11 [] (.done)))))))))) (.loud 4 [1, 2, 5, 6] (.loud 0 [1, 2, 5, 6] (.loud 3 [5, 6] (.quiet 8 (.loud 7 [8] (.loud 9 [] (.quiet 10 (.loud 11 [] (.done)))))))))))))
def p5_18 : Plan := .quiet 0 (.quiet 1 (.quiet 2 (.quiet 3 (.quiet 4 (.quiet 5 (.quiet 6 (.quiet 7 (.quiet 8 (.quiet 9 (.quiet 10 (.quiet 11 (.quiet 12 (.quiet 13 (.loud 14 [] (.done)))))))))))))))
def p5_19 : Plan := .quiet 0 (.quiet 1 (.quiet 2 (.quiet 3 (.quiet 4 (.quiet 5 (.quiet 6 (.quiet 7 (.quiet 8 (.quiet 9 (.quiet 10 (.quiet 11 (.quiet 12 (.quiet 13 (.loud 14 [] (.done)))))))))))))))
def p8_20 : Plan := .quiet 0 (.quiet 1 (.quiet 2 (.quiet 3 (.quiet 4 (.quiet 5 (.quiet 6 (.quiet 7 (.quiet 8 (.loud 9 [0, 4, 5] (.loud 10 [] (.quiet 11 (.done))))))))))))
def p9_10 : Plan := .quiet 0 (.quiet 1 (.quiet 2 (.quiet 3 (.quiet 4 (.quiet 5 (.quiet 6 (.quiet 7 (.loud 8 [0, 3, 4] (.loud 9 [] (.quiet 10 (.done)))))))))))
def p9_14 : Plan := .quiet 0 (.quiet 1 (.quiet 2 (.quiet 3 (.quiet 4 (.quiet 5 (.quiet 6 (.quiet 7 (.quiet 8 (.quiet 9 (.quiet 10 (.quiet 11 (.quiet 12 (.quiet 13 (.quiet 14 (.quiet 15 (.quiet 16 (.quiet 17 (.quiet 18 (.quiet 19 (.quiet 20 (.quiet 21 (.quiet 22 (.quiet 23 (.quiet 24 (.loud 25 [0, 1, 2, 3, 5, 6, 7, 9, 10, 11, 12, 13, 14, 15, 16, 19, 20] (.loud 26 [] (.quiet 27 (.quiet 28 (.done)))))))))))))))))))))))))))))
def p10_22 : Plan := .quiet 0 (.quiet 1 (.quiet 2 (.quiet 3 (.quiet 4 (.quiet 5 (.quiet 6 (.loud 7 [3, 4] (.quiet 8 (.loud 9 [] (.done))))))))))
def p14_17 : Plan := .quiet 0 (.quiet 1 (.quiet 2 (.quiet 3 (.quiet 4 (.quiet 5 (.done))))))
def p15_3 : Plan := .quiet 0 (.quiet 1 (.quiet 2 (.quiet 3 (.quiet 4 (.quiet 5 (.quiet 6 (.loud 7 [0, 1, 2, 3, 4, 5, 6] (.loud 8 [] (.done)))))))))
def p15_6 : Plan := .quiet 0 (.quiet 1 (.quiet 2 (.quiet 3 (.quiet 4 (.quiet 5 (.quiet 6 (.done)))))))
def p16_6 : Plan := .quiet 0 (.quiet 1 (.quiet 2 (.quiet 3 (.quiet 4 (.quiet 5 (.quiet 6 (.quiet 7 (.quiet 8 (.quiet 9 (.done))))))))))
def p18_9 : Plan := .quiet 0 (.quiet 1 (.quiet 2 (.quiet 3 (.quiet 4 (.quiet 5 (.quiet 6 (.quiet 7 (.quiet 8 (.quiet 9 (.quiet 10 (.quiet 11 (.quiet 12 (.quiet 13 (.loud 14 [] (.loud 15 [] (.quiet 16 (.done)))))))))))))))))
def p21_4 : Plan := .quiet 0 (.quiet 1 (.quiet 2 (.quiet 3 (.quiet 4 (.quiet 5 (.quiet 6 (.done)))))))
def p22_7 : Plan := .quiet 0 (.quiet 1 (.quiet 2 (.quiet 3 (.quiet 4 (.quiet 5 (.quiet 6 (.quiet 7 (.quiet 8 (.quiet 9 (.quiet 10 (.quiet 11 (.quiet 12 (.quiet 13 (.quiet 14 (.done)))))))))))))))
def p22_8 : Plan := .quiet 0 (.quiet 1 (.quiet 2 (.quiet 3 (.quiet 4 (.quiet 5 (.quiet 6 (.quiet 7 (.quiet 8 (.quiet 9 (.quiet 10 (.quiet 11 (.quiet 12 (.quiet 13 (.quiet 14 (.quiet 15 (.done))))))))))))))))
def p24_13 : Plan := .quiet 0 (.quiet 1 (.quiet 2 (.quiet 3 (.quiet 4 (.quiet 5 (.quiet 6 (.quiet 7 (.quiet 8 (.quiet 9 (.quiet 10 (.quiet 11 (.quiet 12 (.quiet 13 (.quiet 14 (.quiet 15 (.quiet 16 (.quiet 17 (.quiet 18 (.loud 19 [] (.quiet 20 (.quiet 21 (.loud 22 [] (.done)))))))))))))))))))))))
def p24_16 : Plan := .quiet 0 (.quiet 1 (.quiet 2 (.quiet 3 (.quiet 4 (.quiet 5 (.quiet 6 (.quiet 7 (.quiet 8 (.quiet 9 (.quiet 10 (.quiet 11 (.quiet 12 (.loud 13 [] (.quiet 14 (.loud 15 [] (.done))))))))))))))))
def p25_13 : Plan := .quiet 0 (.quiet 1 (.quiet 2 (.quiet 3 (.quiet 4 (.quiet 5 (.quiet 6 (.quiet 7 (.quiet 8 (.quiet 9 (.loud 10 [] (.done)))))))))))
def p26_6 : Plan := .quiet 0 (.quiet 1 (.quiet 2 (.quiet 3 (.quiet 4 (.quiet 5 (.quiet 6 (.quiet 7 (.quiet 8 (.quiet 9 (.both (.loud 10 [0, 1, 3, 4, 5, 6, 8, 9] (.loud 11 [0, 1, 3, 4, 5, 6, 8, 9] (.loud 12 [5, 6, 8, 9] (.loud 13 [] (.done))))) (.loud 11 [0, 1, 3, 4, 5, 6, 8, 9] (.loud 10 [0, 1, 3, 4, 5, 6, 8, 9] (.loud 12 [5, 6, 8, 9] (.loud 13 [] (.done)))))))))))))))
def p26_12 : Plan := .quiet 0 (.quiet 1 (.quiet 2 (.quiet 3 (.quiet 4 (.quiet 5 (.quiet 6 (.quiet 7 (.quiet 8 (.quiet 9 (.quiet 10 (.done)))))))))))
def p29_1 : Plan := .quiet 1 (.quiet 2 (.quiet 4 (.quiet 5 (.loud 0 [1, 2, 4, 5] (.loud 3 [4, 5] (.loud 6 [] (.quiet 7 (.done))))))))
def p30_6 : Plan := .quiet 0 (.quiet 1 (.quiet 2 (.quiet 3 (.quiet 4 (.quiet 5 (.quiet 6 (.quiet 7 (.quiet 8 (.done)))))))))
def p37_1 : Plan := .quiet 0 (.quiet 1 (.quiet 2 (.quiet 3 (.quiet 4 (.quiet 5 (.quiet 6 (.quiet 7 (.quiet 8 (.quiet 9 (.quiet 10 (.quiet 11 (.quiet 12 (.loud 13 [] (.done))))))))))))))
def p37_13 : Plan := .quiet 0 (.quiet 1 (.quiet 2 (.quiet 3 (.quiet 4 (.quiet 5 (.quiet 6 (.quiet 7 (.loud 8 [0, 1, 3, 4, 6, 7] (.loud 9 [] (.done))))))))))
def p37_18 : Plan := .quiet 0 (.quiet 1 (.quiet 2 (.quiet 3 (.quiet 4 (.quiet 5 (.quiet 6 (.loud 7 [] (.done))))))))
def p37_19 : Plan := .quiet 0 (.quiet 1 (.quiet 2 (.quiet 3 (.quiet 4 (.quiet 5 (.quiet 6 (.quiet 7 (.quiet 8 (.quiet 9 (.loud 10 [] (.done)))))))))))
def p37_20 : Plan := .quiet 0 (.quiet 1 (.quiet 2 (.quiet 3 (.quiet 4 (.quiet 5 (.quiet 6 (.quiet 7 (.quiet 8 (.quiet 9 (.quiet 10 (.loud 11 [4, 5, 7, 8] (.quiet 12 (.quiet 13 (.done))))))))))))))
def p38_2 : Plan := .quiet 0 (.quiet 1 (.quiet 2 (.quiet 3 (.quiet 4 (.quiet 5 (.quiet 6 (.quiet 7 (.quiet 8 (.quiet 9 (.quiet 10 (.done)))))))))))
def p38_9 : Plan := .quiet 0 (.quiet 1 (.quiet 2 (.quiet 3 (.quiet 4 (.quiet 5 (.quiet 6 (.quiet 7 (.quiet 8 (.quiet 9 (.quiet 10 (.loud 11 [0, 1, 5, 6, 7] (.loud 12 [] (.quiet 13 (.done))))))))))))))
def p38_11 : Plan := .quiet 0 (.quiet 1 (.quiet 3 (.quiet 5 (.quiet 6 (.quiet 7 (.quiet 8 (.quiet 11 (.quiet 12 (.both (.loud 2 [0, 1, 7, 8, 12] (.both (.loud 4 [0, 1, 7, 8, 12] (.loud 9 [0, 1, 12] (.loud 10 [0, 1, 12] (.quiet 13 (.loud 14 [] (.done)))))) (.loud 9 [0, 1, 12] (.loud 4 [0, 1, 12] (.loud 10 [0, 1, 12] (.quiet 13 (.loud 14 [] (.done)))))))) (.loud 9 [0, 1, 12] (.loud 2 [0, 1, 12] (.loud 4 [0, 1, 12] (.loud 10 [0, 1, 12] (.quiet 13 (.loud 14 [] (.done))))))))))))))))
def p39_5 : Plan := .quiet 0 (.quiet 1 (.quiet 2 (.quiet 3 (.quiet 4 (.quiet 5 (.quiet 6 (.quiet 7 (.loud 8 [0, 1] (.loud 9 [] (.quiet 10 (.loud 11 [] (.done))))))))))))
def p40_6 : Plan := .quiet 0 (.quiet 2 (.quiet 4 (.quiet 7 (.both (.loud 1 [0] (.both (.loud 3 [0] (.loud 5 [0] (.loud 6 [0] (.quiet 8 (.quiet 9 (.done)))))) (.loud 5 [0] (.loud 3 [0] (.loud 6 [0] (.quiet 8 (.quiet 9 (.done)))))))) (.loud 5 [0] (.loud 1 [0] (.loud 3 [0] (.loud 6 [0] (.quiet 8 (.quiet 9 (.done)))))))))))
def p44_12 : Plan := .quiet 0 (.quiet 1 (.quiet 2 (.quiet 3 (.quiet 4 (.quiet 5 (.quiet 6 (.quiet 7 (.loud 8 [] (.done)))))))))
def p44_13 : Plan := .quiet 0 (.quiet 1 (.quiet 2 (.quiet 3 (.loud 4 [1, 3] (.loud 5 [3] (.quiet 6 (.quiet 7 (.done))))))))
def p45_6 : Plan := .quiet 0 (.quiet 1 (.quiet 2 (.quiet 3 (.quiet 4 (.quiet 5 (.quiet 6 (.quiet 7 (.quiet 8 (.quiet 9 (.quiet 10 (.quiet 11 (.quiet 12 (.done)))))))))))))
def p46_5 : Plan := .quiet 0 (.quiet 1 (.quiet 2 (.quiet 3 (.quiet 4 (.quiet 5 (.quiet 6 (.quiet 7 (.quiet 8 (.quiet 9 (.quiet 10 (.loud 11 [0, 1, 5, 6, 7] (.loud 12 [] (.quiet 13 (.done))))))))))))))
def p58_3 : Plan := .quiet 0 (.quiet 1 (.quiet 2 (.quiet 3 (.quiet 4 (.quiet 5 (.quiet 6 (.quiet 7 (.quiet 8 (.quiet 9 (.quiet 10 (.quiet 11 (.quiet 12 (.quiet 13 (.quiet 14 (.quiet 15 (.quiet 16 (.done)))))))))))))))))
def p61_1 : Plan := .quiet 0 (.quiet 1 (.quiet 2 (.quiet 3 (.quiet 4 (.quiet 5 (.quiet 6 (.quiet 7 (.quiet 8 (.quiet 9 (.quiet 10 (.loud 11 [0, 1, 2, 3, 5, 6, 8, 9, 10] (.loud 12 [] (.done)))))))))))))
def p61_6 : Plan := .quiet 0 (.quiet 1 (.quiet 2 (.quiet 3 (.quiet 4 (.quiet 5 (.quiet 6 (.quiet 7 (.quiet 8 (.quiet 9 (.loud 10 [0, 1, 3, 4, 5, 6, 8, 9] (.loud 11 [5, 6, 8, 9] (.quiet 12 (.done)))))))))))))
def p61_16 : Plan := .quiet 0 (.quiet 1 (.quiet 2 (.quiet 3 (.quiet 4 (.quiet 5 (.quiet 6 (.quiet 7 (.quiet 8 (.quiet 9 (.quiet 10 (.quiet 11 (.quiet 12 (.quiet 13 (.loud 14 [] (.done)))))))))))))))
def p61_17 : Plan := .quiet 0 (.quiet 1 (.quiet 2 (.quiet 3 (.quiet 4 (.quiet 5 (.quiet 6 (.quiet 7 (.quiet 8 (.quiet 9 (.quiet 10 (.quiet 11 (.quiet 12 (.done)))))))))))))
def p61_22 : Plan := .quiet 0 (.quiet 1 (.quiet 2 (.quiet 3 (.quiet 4 (.quiet 5 (.quiet 6 (.quiet 7 (.quiet 8 (.quiet 9 (.quiet 10 (.quiet 11 (.quiet 12 (.loud 13 [] (.done))))))))))))))
end Go.Eng
end

/- press: small functions. -/
section
namespace Go.Eng
open Go Go.RowKit Go.Proofs
set_option maxRecDepth 100000
set_option maxHeartbeats 4000000
attribute [local irreducible] OwnT DefS
def in3 (n lo hi : Int) : Bool := decide (lo ≤ n) && decide (n ≤ hi)
theorem in3_iff {n lo hi : Int} : in3 n lo hi = true ↔ lo ≤ n ∧ n ≤ hi := by simp [in3]
theorem wrap_id {x : Int} (h1 : -9223372036854775808 ≤ x) (h2 : x ≤ 9223372036854775807) : IntKind.i64.wrap x = x := by
  simp [IntKind.wrap, IntKind.signed, IntKind.bits]
  omega
def allU (p : Nat → Bool) : Nat → Bool
  | 0 => true
  | n + 1 => allU p n && p n
theorem allU_iff {p : Nat → Bool} : ∀ {n : Nat}, allU p n = true ↔ ∀ i, i < n → p i = true
  | 0 => ⟨fun _ i h => absurd h (by omega), fun _ => rfl⟩
  | n + 1 => by
    simp only [allU, Bool.and_eq_true, allU_iff (n := n)]
    constructor
    · rintro ⟨h1, h2⟩ i hi
      rcases Nat.lt_or_ge i n with h | h
      · exact h1 i h
      · obtain rfl : i = n := by omega
        exact h2
    · intro h
      exact ⟨fun i hi => h i (by omega), h n (by omega)⟩
theorem allU_false {p : Nat → Bool} {n i : Nat} (hi : i < n) (h : p i = false) : allU p n = false := by
  cases hc : allU p n with
  | false => rfl
  | true => have := allU_iff.1 hc i hi; rw [h] at this; cases this
theorem allU_true {p : Nat → Bool} {n : Nat} (h : ∀ j, j < n → p j = true) : allU p n = true := allU_iff.2 h
theorem below {p : Nat → Bool} {i : Nat} (h : ∀ j, j < i → p j = true) (hi : p i = true) : ∀ j, j < i + 1 → p j = true := fun j hj => by
  rcases Nat.lt_or_ge j i with h2 | h2
  · exact h j h2
  · obtain rfl : j = i := by omega
    exact hi
def inBase : BaseF := fun args => match args with
  | [.int .i64 n, .int .i64 lo, .int .i64 hi] => some (True, .bool (in3 n lo hi))
  | _ => none
theorem in_eq (n : Int) (lo : Int) (hi : Int) : inBase [.int .i64 n, .int .i64 lo, .int .i64 hi] = some (True, .bool (in3 n lo hi)) := rfl
theorem in_base : Base Try.prog 41 inBase := by
  intro args p v hq hp
  unfold inBase at hq
  split at hq
  rotate_left
  · cases hq
  rename_i n lo hi
  cases hq
  refine base_of (C := cx [] [] [] [] none) (cx_ok trivial trivial) rfl (g := 41) (fn := Try.f41)
    (args' := [.int .i64 n, .int .i64 lo, .int .i64 hi]) (fn_41) rfl 1000 (by simp only [BdL, Bd, and_self, and_true, true_and]) ⟨SameD.rfl' _, SameD.rfl' _, SameD.rfl' _, trivial⟩ ?_
  simp only [Try.f41, go_sem, ↓reduceIte, Nat.reduceAdd, Nat.reduceSub, Nat.reduceMul, Nat.reduceEqDiff, Nat.reduceLT, Nat.reduceLeDiff, Int.reduceToNat, Int.reduceLE, Int.reduceLT, Int.reduceEq, Int.reduceNeg, reduceCtorEq]
  (repeat' refine And.intro (fun _ => ?_) (fun _ => ?_)) <;> simp_all [in3] <;> omega
def withinBase : BaseF := fun args => match args with
  | [.int .i64 n, .int .i64 lo, .int .i64 hi] => some (True, .bool (in3 n lo hi))
  | _ => none
theorem within_eq (n : Int) (lo : Int) (hi : Int) : withinBase [.int .i64 n, .int .i64 lo, .int .i64 hi] = some (True, .bool (in3 n lo hi)) := rfl
theorem within_base : Base Try.prog 51 withinBase := by
  intro args p v hq hp
  unfold withinBase at hq
  split at hq
  rotate_left
  · cases hq
  rename_i n lo hi
  cases hq
  refine base_of (C := cx [] [] [] [] none) (cx_ok trivial trivial) rfl (g := 51) (fn := Try.f51)
    (args' := [.int .i64 n, .int .i64 lo, .int .i64 hi]) (fn_51) rfl 1000 (by simp only [BdL, Bd, and_self, and_true, true_and]) ⟨SameD.rfl' _, SameD.rfl' _, SameD.rfl' _, trivial⟩ ?_
  simp only [Try.f51, go_sem, ↓reduceIte, Nat.reduceAdd, Nat.reduceSub, Nat.reduceMul, Nat.reduceEqDiff, Nat.reduceLT, Nat.reduceLeDiff, Int.reduceToNat, Int.reduceLE, Int.reduceLT, Int.reduceEq, Int.reduceNeg, reduceCtorEq]
  (repeat' refine And.intro (fun _ => ?_) (fun _ => ?_)) <;> simp_all [in3] <;> omega
def isCentsBase : BaseF := fun args => match args with
  | [.int .i64 n] => some (True, .bool (in3 n 0 10000))
  | _ => none
theorem isCents_eq (n : Int) : isCentsBase [.int .i64 n] = some (True, .bool (in3 n 0 10000)) := rfl
theorem isCents_base : Base Try.prog 53 isCentsBase := by
  intro args p v hq hp
  unfold isCentsBase at hq
  split at hq
  rotate_left
  · cases hq
  rename_i n
  cases hq
  refine base_of (C := cx [] [] [(51, withinBase)] [] none) (cx_ok trivial ⟨within_base, trivial⟩) rfl (g := 53) (fn := Try.f53)
    (args' := [.int .i64 n]) (fn_53) rfl 1000 (by simp only [BdL, Bd, and_self, and_true, true_and]) ⟨SameD.rfl' _, trivial⟩ ?_
  simp only [within_eq, Try.f53, go_sem, ↓reduceIte, Nat.reduceAdd, Nat.reduceSub, Nat.reduceMul, Nat.reduceEqDiff, Nat.reduceLT, Nat.reduceLeDiff, Int.reduceToNat, Int.reduceLE, Int.reduceLT, Int.reduceEq, Int.reduceNeg, reduceCtorEq]
/-- A level: its power and its cold. -/
def lvB (v : Nat → Int) : Bool := in3 (v 0) 1 1000 && in3 (v 1) 0 100
def hasLvBase : BaseF := fun args => match args with
  | [.row n sz_v f_v, .func g []] => some ((sz_v = 2 ∧ IntR n 2 f_v) ∧ (g = 64 ∧ n ≤ 1000000), .bool (!allU (fun i => lvB ((ivf f_v) i)) n))
  | _ => none
theorem hasLv_eq (n : Nat) (sz_v : Nat) (f_v : Nat → Nat → SV) (g : Nat) : hasLvBase [.row n sz_v f_v, .func g []] = some ((sz_v = 2 ∧ IntR n 2 f_v) ∧ (g = 64 ∧ n ≤ 1000000), .bool (!allU (fun i => lvB ((ivf f_v) i)) n)) := rfl
theorem hasLv_base : Base Try.prog 65 hasLvBase := by
  intro args p v hq hp
  unfold hasLvBase at hq
  split at hq
  rotate_left
  · cases hq
  rename_i n sz_v f_v g
  cases hq
  obtain ⟨⟨rfl, i_v⟩, pre⟩ := hp
  refine base_of (C := cx [] [] [(51, withinBase)] [] none) (cx_ok trivial ⟨within_base, trivial⟩) rfl (g := 65) (fn := Try.f65)
    (args' := [.row n 2 (rowF .i64 (ivf f_v)), .func g []]) (fn_65) rfl 1000 (by
    simp only [BdL, Bd, and_self, and_true, true_and]
    exact (fun i j hi hj => by rw [i_v i j hi hj]; trivial)) ⟨SameD.int i_v, SameD.rfl' _, trivial⟩ ?_
  generalize ivf f_v = v at *
  simp only [rowF_eq]
  simp only [within_eq, Try.f64, Try.f66, Try.f65, go_sem, ↓reduceIte, Nat.reduceAdd, Nat.reduceSub, Nat.reduceMul, Nat.reduceEqDiff, Nat.reduceLT, Nat.reduceLeDiff, Int.reduceToNat, Int.reduceLE, Int.reduceLT, Int.reduceEq, Int.reduceNeg, reduceCtorEq]
  obtain ⟨rfl, hn⟩ := pre
  refine loop_ofH { i : Nat // i ≤ n ∧ ∀ j, j < i → (fun i => lvB (v i)) j = true } (fun i => [(8, .int .i64 (i.1 : Int)), (7, .int .i64 (n : Int)), (1, .func 64 []), (0, .row n 2 fun i j => .int .i64 (v i j))]) (fun h _ => h) (fun i => n - i.1) (fun _ => ⟨rfl, rfl⟩) ⟨0, by omega, by omega⟩ (by (apply sub_of <;> simp only [go_sem, ↓reduceIte, Nat.reduceAdd, Nat.reduceSub, Nat.reduceMul, Nat.reduceEqDiff, Nat.reduceLT, Nat.reduceLeDiff, Int.reduceToNat, Int.reduceLE, Int.reduceLT, Int.reduceEq, Int.reduceNeg, reduceCtorEq] <;> (try simp [catF]) <;> (try exact fun j _ => Bd_nth (by simp [BdL, Bd]) j) <;> (try exact bd_setL (by simp [bdAs, BdL, Bd])) <;> (try exact nestF_bd _ _ _ _ _ _ _ _ _))) ?_
  rintro ⟨i, hi, h3⟩
  simp only [within_eq, Try.f64, Try.f66, Try.f65, go_sem, ↓reduceIte, Nat.reduceAdd, Nat.reduceSub, Nat.reduceMul, Nat.reduceEqDiff, Nat.reduceLT, Nat.reduceLeDiff, Int.reduceToNat, Int.reduceLE, Int.reduceLT, Int.reduceEq, Int.reduceNeg, reduceCtorEq]
  have hw3 : IntKind.i64.wrap ((i : Int) + 1) = ((i + 1 : Nat) : Int) := by rw [wrap_id (by omega) (by omega)]; omega
  have h0 : (0 : Int) ≤ (i : Int) := by omega
  refine ⟨fun e1 => ?_, fun e1 => ?_⟩
  · simp only [decide_eq_true_eq] at e1
    have ik : i < n := by omega
    refine ⟨⟨by omega, by omega⟩, fun e2 => ?_, fun e2 => ⟨fun e3 => ?_, fun e3 => ?_⟩⟩
    · rw [allU_false (p := fun i => lvB (v i)) ik (by simp only [Bool.not_eq_true'] at e2; simp [lvB, e2])]; simp [h0]
    · rw [allU_false (p := fun i => lvB (v i)) ik (by simp only [Bool.not_eq_true'] at e3; simp [lvB, e3])]; simp [h0]
    refine ⟨⟨i + 1, by omega, below h3 (by simp only [Bool.not_eq_false'] at e2 e3; simp [lvB, e2, e3])⟩, by simp only []; omega, ?_⟩
    apply sub_of <;> simp only [hw3, go_sem, ↓reduceIte, Nat.reduceAdd, Nat.reduceSub, Nat.reduceMul, Nat.reduceEqDiff, Nat.reduceLT, Nat.reduceLeDiff, Int.reduceToNat, Int.reduceLE, Int.reduceLT, Int.reduceEq, Int.reduceNeg, reduceCtorEq] <;> (try simp) <;> (try exact fun j _ => Bd_nth (by simp [BdL, Bd]) j) <;> (try exact bd_setL (by simp [bdAs, BdL, Bd])) <;> (try exact nestF_bd _ _ _ _ _ _ _ _ _)
  · simp only [decide_eq_false_iff_not] at e1
    obtain rfl : i = n := by omega
    rw [allU_true h3]; rfl
/-- A compressor. -/
def prB (A : Nat → Int) (m : Nat) (v : Nat → Nat → Int) : Bool := in3 (A 3) 1 12 && (in3 (A 2) 1 (A 3) && (in3 (A 4) 0 (A 3) && (in3 (A 1) 0 10000 && (in3 (m : Int) 1 2 && allU (fun i => lvB (v i)) m))))
def isPressBase : BaseF := fun args => match args with
  | [.agg [.row m sz_v f_v, .int .i64 st, .int .i64 le, .int .i64 oi, .int .i64 on]] => some ((sz_v = 2 ∧ IntR m 2 f_v) ∧ (m ≤ 1000000), .bool (in3 oi 1 12 && (in3 le 1 oi && (in3 on 0 oi && (in3 st 0 10000 && (in3 (m : Int) 1 2 && allU (fun i => lvB ((ivf f_v) i)) m))))))
  | _ => none
theorem isPress_eq (m : Nat) (sz_v : Nat) (f_v : Nat → Nat → SV) (st : Int) (le : Int) (oi : Int) (on : Int) : isPressBase [.agg [.row m sz_v f_v, .int .i64 st, .int .i64 le, .int .i64 oi, .int .i64 on]] = some ((sz_v = 2 ∧ IntR m 2 f_v) ∧ (m ≤ 1000000), .bool (in3 oi 1 12 && (in3 le 1 oi && (in3 on 0 oi && (in3 st 0 10000 && (in3 (m : Int) 1 2 && allU (fun i => lvB ((ivf f_v) i)) m)))))) := rfl
theorem isPress_base : Base Try.prog 57 isPressBase := by
  intro args p v hq hp
  unfold isPressBase at hq
  split at hq
  rotate_left
  · cases hq
  rename_i m sz_v f_v st le oi on
  cases hq
  obtain ⟨⟨rfl, i_v⟩, pre⟩ := hp
  refine base_of (C := cx [] [] [(51, withinBase), (53, isCentsBase), (65, hasLvBase)] [] none) (cx_ok trivial ⟨within_base, isCents_base, hasLv_base, trivial⟩) rfl (g := 57) (fn := Try.f57)
    (args' := [.agg [.row m 2 (rowF .i64 (ivf f_v)), .int .i64 st, .int .i64 le, .int .i64 oi, .int .i64 on]]) (fn_57) rfl 1000 (by
    simp only [BdL, Bd, and_self, and_true, true_and]
    exact (fun i j hi hj => by rw [i_v i j hi hj]; trivial)) ⟨SameD.agg ⟨SameD.int i_v, SameD.rfl' _, SameD.rfl' _, SameD.rfl' _, SameD.rfl' _, trivial⟩, trivial⟩ ?_
  generalize ivf f_v = v at *
  simp only [rowF_eq]
  simp only [within_eq, isCents_eq, hasLv_eq, Try.f57, go_sem, ↓reduceIte, Nat.reduceAdd, Nat.reduceSub, Nat.reduceMul, Nat.reduceEqDiff, Nat.reduceLT, Nat.reduceLeDiff, Int.reduceToNat, Int.reduceLE, Int.reduceLT, Int.reduceEq, Int.reduceNeg, reduceCtorEq]
  exact ⟨fun a1 => ⟨fun a2 => ⟨fun a3 => ⟨fun a4 => ⟨fun a5 => ⟨pre, by simp [a1, a2, a3, a4, a5]⟩, fun a5 => by simp [a5]⟩, fun a4 => by simp [a4]⟩, fun a3 => by simp [a3]⟩, fun a2 => by simp [a2]⟩, fun a1 => by simp [a1]⟩
/-- What a need or a price is at most. -/
def ntLim : Nat → Int
  | 50 => 300
  | _ => 10000
def hasIntBase : BaseF := fun args => match args with
  | [.row n sz_v f_v, .func g []] => some ((sz_v = 1 ∧ IntR n 1 f_v) ∧ ((g = 50 ∨ g = 52) ∧ n ≤ 1000000), .bool (!allU (fun i => in3 ((ivf f_v) i 0) 0 (ntLim g)) n))
  | _ => none
theorem hasInt_eq (n : Nat) (sz_v : Nat) (f_v : Nat → Nat → SV) (g : Nat) : hasIntBase [.row n sz_v f_v, .func g []] = some ((sz_v = 1 ∧ IntR n 1 f_v) ∧ ((g = 50 ∨ g = 52) ∧ n ≤ 1000000), .bool (!allU (fun i => in3 ((ivf f_v) i 0) 0 (ntLim g)) n)) := rfl
theorem hasInt_base : Base Try.prog 54 hasIntBase := by
  intro args p v hq hp
  unfold hasIntBase at hq
  split at hq
  rotate_left
  · cases hq
  rename_i n sz_v f_v g
  cases hq
  obtain ⟨⟨rfl, i_v⟩, pre⟩ := hp
  refine base_of (C := cx [] [] [(51, withinBase), (53, isCentsBase)] [] none) (cx_ok trivial ⟨within_base, isCents_base, trivial⟩) rfl (g := 54) (fn := Try.f54)
    (args' := [.row n 1 (rowF .i64 (ivf f_v)), .func g []]) (fn_54) rfl 1000 (by
    simp only [BdL, Bd, and_self, and_true, true_and]
    exact (fun i j hi hj => by rw [i_v i j hi hj]; trivial)) ⟨SameD.int i_v, SameD.rfl' _, trivial⟩ ?_
  generalize ivf f_v = v at *
  simp only [rowF_eq]
  simp only [within_eq, isCents_eq, Try.f50, Try.f52, Try.f62, Try.f54, go_sem, ↓reduceIte, Nat.reduceAdd, Nat.reduceSub, Nat.reduceMul, Nat.reduceEqDiff, Nat.reduceLT, Nat.reduceLeDiff, Int.reduceToNat, Int.reduceLE, Int.reduceLT, Int.reduceEq, Int.reduceNeg, reduceCtorEq]
  obtain ⟨rfl | rfl, hn⟩ := pre
  · refine loop_ofH { i : Nat // i ≤ n ∧ ∀ j, j < i → (fun i => in3 (v i 0) 0 300) j = true } (fun i => [(8, .int .i64 (i.1 : Int)), (7, .int .i64 (n : Int)), (1, .func 50 []), (0, .row n 1 fun i j => .int .i64 (v i j))]) (fun h _ => h) (fun i => n - i.1) (fun _ => ⟨rfl, rfl⟩) ⟨0, by omega, by omega⟩ (by (apply sub_of <;> simp only [go_sem, ↓reduceIte, Nat.reduceAdd, Nat.reduceSub, Nat.reduceMul, Nat.reduceEqDiff, Nat.reduceLT, Nat.reduceLeDiff, Int.reduceToNat, Int.reduceLE, Int.reduceLT, Int.reduceEq, Int.reduceNeg, reduceCtorEq] <;> (try simp [catF]) <;> (try exact fun j _ => Bd_nth (by simp [BdL, Bd]) j) <;> (try exact bd_setL (by simp [bdAs, BdL, Bd])) <;> (try exact nestF_bd _ _ _ _ _ _ _ _ _))) ?_
    rintro ⟨i, hi, h3⟩
    simp only [within_eq, isCents_eq, Try.f50, Try.f52, Try.f62, Try.f54, go_sem, ↓reduceIte, Nat.reduceAdd, Nat.reduceSub, Nat.reduceMul, Nat.reduceEqDiff, Nat.reduceLT, Nat.reduceLeDiff, Int.reduceToNat, Int.reduceLE, Int.reduceLT, Int.reduceEq, Int.reduceNeg, reduceCtorEq]
    have hw3 : IntKind.i64.wrap ((i : Int) + 1) = ((i + 1 : Nat) : Int) := by rw [wrap_id (by omega) (by omega)]; omega
    have h0 : (0 : Int) ≤ (i : Int) := by omega
    refine ⟨fun e1 => ?_, fun e1 => ?_⟩
    · simp only [decide_eq_true_eq] at e1
      have ik : i < n := by omega
      refine ⟨⟨by omega, by omega⟩, fun e2 => ?_, fun e2 => ?_⟩
      · simp only [ntLim]; rw [allU_false (p := fun i => in3 (v i 0) 0 300) ik (by simpa using e2)]; simp [h0]
      refine ⟨⟨i + 1, by omega, below h3 (by simpa using e2)⟩, by simp only []; omega, ?_⟩
      apply sub_of <;> simp only [hw3, go_sem, ↓reduceIte, Nat.reduceAdd, Nat.reduceSub, Nat.reduceMul, Nat.reduceEqDiff, Nat.reduceLT, Nat.reduceLeDiff, Int.reduceToNat, Int.reduceLE, Int.reduceLT, Int.reduceEq, Int.reduceNeg, reduceCtorEq] <;> (try simp) <;> (try exact fun j _ => Bd_nth (by simp [BdL, Bd]) j) <;> (try exact bd_setL (by simp [bdAs, BdL, Bd])) <;> (try exact nestF_bd _ _ _ _ _ _ _ _ _)
    · simp only [decide_eq_false_iff_not] at e1
      obtain rfl : i = n := by omega
      simp only [ntLim]; rw [allU_true h3]; rfl
  · refine loop_ofH { i : Nat // i ≤ n ∧ ∀ j, j < i → (fun i => in3 (v i 0) 0 10000) j = true } (fun i => [(8, .int .i64 (i.1 : Int)), (7, .int .i64 (n : Int)), (1, .func 52 []), (0, .row n 1 fun i j => .int .i64 (v i j))]) (fun h _ => h) (fun i => n - i.1) (fun _ => ⟨rfl, rfl⟩) ⟨0, by omega, by omega⟩ (by (apply sub_of <;> simp only [go_sem, ↓reduceIte, Nat.reduceAdd, Nat.reduceSub, Nat.reduceMul, Nat.reduceEqDiff, Nat.reduceLT, Nat.reduceLeDiff, Int.reduceToNat, Int.reduceLE, Int.reduceLT, Int.reduceEq, Int.reduceNeg, reduceCtorEq] <;> (try simp [catF]) <;> (try exact fun j _ => Bd_nth (by simp [BdL, Bd]) j) <;> (try exact bd_setL (by simp [bdAs, BdL, Bd])) <;> (try exact nestF_bd _ _ _ _ _ _ _ _ _))) ?_
    rintro ⟨i, hi, h3⟩
    simp only [within_eq, isCents_eq, Try.f50, Try.f52, Try.f62, Try.f54, go_sem, ↓reduceIte, Nat.reduceAdd, Nat.reduceSub, Nat.reduceMul, Nat.reduceEqDiff, Nat.reduceLT, Nat.reduceLeDiff, Int.reduceToNat, Int.reduceLE, Int.reduceLT, Int.reduceEq, Int.reduceNeg, reduceCtorEq]
    have hw3 : IntKind.i64.wrap ((i : Int) + 1) = ((i + 1 : Nat) : Int) := by rw [wrap_id (by omega) (by omega)]; omega
    have h0 : (0 : Int) ≤ (i : Int) := by omega
    refine ⟨fun e1 => ?_, fun e1 => ?_⟩
    · simp only [decide_eq_true_eq] at e1
      have ik : i < n := by omega
      refine ⟨⟨by omega, by omega⟩, fun e2 => ?_, fun e2 => ?_⟩
      · simp only [ntLim]; rw [allU_false (p := fun i => in3 (v i 0) 0 10000) ik (by simpa using e2)]; simp [h0]
      refine ⟨⟨i + 1, by omega, below h3 (by simpa using e2)⟩, by simp only []; omega, ?_⟩
      apply sub_of <;> simp only [hw3, go_sem, ↓reduceIte, Nat.reduceAdd, Nat.reduceSub, Nat.reduceMul, Nat.reduceEqDiff, Nat.reduceLT, Nat.reduceLeDiff, Int.reduceToNat, Int.reduceLE, Int.reduceLT, Int.reduceEq, Int.reduceNeg, reduceCtorEq] <;> (try simp) <;> (try exact fun j _ => Bd_nth (by simp [BdL, Bd]) j) <;> (try exact bd_setL (by simp [bdAs, BdL, Bd])) <;> (try exact nestF_bd _ _ _ _ _ _ _ _ _)
    · simp only [decide_eq_false_iff_not] at e1
      obtain rfl : i = n := by omega
      simp only [ntLim]; rw [allU_true h3]; rfl
def hasPressBase : BaseF := fun args => match args with
  | [.row n sz_A f_A, .func g []] => some ((sz_A = 5 ∧ NestR n 5 0 2 f_A) ∧ (g = 56 ∧ n ≤ 1000000 ∧ ∀ i, i < n → (nsM 0 f_A) i ≤ 1000000), .bool (!allU (fun i => prB ((nsA f_A) i) ((nsM 0 f_A) i) ((nsV 0 f_A) i)) n))
  | _ => none
theorem hasPress_eq (n : Nat) (sz_A : Nat) (f_A : Nat → Nat → SV) (g : Nat) : hasPressBase [.row n sz_A f_A, .func g []] = some ((sz_A = 5 ∧ NestR n 5 0 2 f_A) ∧ (g = 56 ∧ n ≤ 1000000 ∧ ∀ i, i < n → (nsM 0 f_A) i ≤ 1000000), .bool (!allU (fun i => prB ((nsA f_A) i) ((nsM 0 f_A) i) ((nsV 0 f_A) i)) n)) := rfl
theorem hasPress_base : Base Try.prog 55 hasPressBase := by
  intro args p v hq hp
  unfold hasPressBase at hq
  split at hq
  rotate_left
  · cases hq
  rename_i n sz_A f_A g
  cases hq
  obtain ⟨⟨rfl, i_A⟩, pre⟩ := hp
  refine base_of (C := cx [] [] [(57, isPressBase)] [] none) (cx_ok trivial ⟨isPress_base, trivial⟩) rfl (g := 55) (fn := Try.f55)
    (args' := [.row n 5 (nestF 0 2 (nsA f_A) (nsM 0 f_A) (nsV 0 f_A)), .func g []]) (fn_55) rfl 1000 (by
    simp only [BdL, Bd, and_self, and_true, true_and]
    exact (fun i j hi hj => nest_bd i_A i j hi hj)) ⟨SameD.nest i_A, SameD.rfl' _, trivial⟩ ?_
  generalize nsA f_A = A at *
  generalize nsM 0 f_A = M at *
  generalize nsV 0 f_A = V at *
  simp only [isPress_eq, Try.f56, Try.f63, nestF_eq, nestR_lit, nsM_lit, nsV_lit, Try.f55, go_sem, ↓reduceIte, Nat.reduceAdd, Nat.reduceSub, Nat.reduceMul, Nat.reduceEqDiff, Nat.reduceLT, Nat.reduceLeDiff, Int.reduceToNat, Int.reduceLE, Int.reduceLT, Int.reduceEq, Int.reduceNeg, reduceCtorEq]
  obtain ⟨rfl, hn, hM⟩ := pre
  refine loop_ofH { i : Nat // i ≤ n ∧ ∀ j, j < i → (fun i => prB (A i) (M i) (V i)) j = true } (fun i => [(8, .int .i64 (i.1 : Int)), (7, .int .i64 (n : Int)), (1, .func 56 []), (0, .row n 5 (nestF 0 2 A M V))]) (fun h _ => h) (fun i => n - i.1) (fun _ => ⟨rfl, rfl⟩) ⟨0, by omega, by omega⟩ (by (apply sub_of <;> simp only [go_sem, ↓reduceIte, Nat.reduceAdd, Nat.reduceSub, Nat.reduceMul, Nat.reduceEqDiff, Nat.reduceLT, Nat.reduceLeDiff, Int.reduceToNat, Int.reduceLE, Int.reduceLT, Int.reduceEq, Int.reduceNeg, reduceCtorEq] <;> (try simp [catF]) <;> (try exact fun j _ => Bd_nth (by simp [BdL, Bd]) j) <;> (try exact bd_setL (by simp [bdAs, BdL, Bd])) <;> (try exact nestF_bd _ _ _ _ _ _ _ _ _))) ?_
  rintro ⟨i, hi, h3⟩
  simp only [isPress_eq, Try.f56, Try.f63, nestF_eq, nestR_lit, nsM_lit, nsV_lit, Try.f55, go_sem, ↓reduceIte, Nat.reduceAdd, Nat.reduceSub, Nat.reduceMul, Nat.reduceEqDiff, Nat.reduceLT, Nat.reduceLeDiff, Int.reduceToNat, Int.reduceLE, Int.reduceLT, Int.reduceEq, Int.reduceNeg, reduceCtorEq]
  have hw3 : IntKind.i64.wrap ((i : Int) + 1) = ((i + 1 : Nat) : Int) := by rw [wrap_id (by omega) (by omega)]; omega
  have h0 : (0 : Int) ≤ (i : Int) := by omega
  refine ⟨fun e1 => ?_, fun e1 => ?_⟩
  · simp only [decide_eq_true_eq] at e1
    have ik : i < n := by omega
    refine ⟨⟨by omega, by omega⟩, hM i ik, fun e2 => ?_, fun e2 => ?_⟩
    · rw [allU_false (p := fun i => prB (A i) (M i) (V i)) ik (by simpa only [Bool.not_eq_true', prB] using e2)]; simp [h0]
    refine ⟨⟨i + 1, by omega, below h3 (by simpa only [Bool.not_eq_false', prB] using e2)⟩, by simp only []; omega, ?_⟩
    apply sub_of <;> simp only [hw3, go_sem, ↓reduceIte, Nat.reduceAdd, Nat.reduceSub, Nat.reduceMul, Nat.reduceEqDiff, Nat.reduceLT, Nat.reduceLeDiff, Int.reduceToNat, Int.reduceLE, Int.reduceLT, Int.reduceEq, Int.reduceNeg, reduceCtorEq] <;> (try simp) <;> (try exact fun j _ => Bd_nth (by simp [BdL, Bd]) j) <;> (try exact bd_setL (by simp [bdAs, BdL, Bd])) <;> (try exact nestF_bd _ _ _ _ _ _ _ _ _)
  · simp only [decide_eq_false_iff_not] at e1
    obtain rfl : i = n := by omega
    rw [allU_true h3]; rfl
/-- Compressors. -/
def psB (n : Nat) (A : Nat → Nat → Int) (M : Nat → Nat) (V : Nat → Nat → Nat → Int) (h : Nat) (nd : Nat → Nat → Int) (q : Nat) (pr : Nat → Nat → Int) (st ro pk fr : Int) : Bool :=
  decide ((h : Int) = (q : Int)) && (decide ((h : Int) ≤ 12) && (allU (fun i => in3 (nd i 0) 0 300) h && (allU (fun i => in3 (pr i 0) 0 10000) q && (in3 (n : Int) 1 3 && (allU (fun i => prB (A i) (M i) (V i)) n && (in3 ro 0 100 && (in3 st 0 ro && (in3 pk 0 10000 && in3 fr 0 3000))))))))
theorem prB_ns {A : Nat → Nat → Int} {M : Nat → Nat} {V : Nat → Nat → Nat → Int} (i m : Nat) (v : Nat → Nat → Int) : prB (nsA (nestF 0 2 A M V) i) m v = prB (A i) m v := by
  simp only [prB, nsA_lit i (show 1 ≠ 0 by omega), nsA_lit i (show 2 ≠ 0 by omega), nsA_lit i (show 3 ≠ 0 by omega), nsA_lit i (show 4 ≠ 0 by omega)]
def arePsBase : BaseF := fun args => match args with
  | [.agg [.row n sz_A f_A, .row h sz_nd f_nd, .row q sz_pr f_pr, .int .i64 st, .int .i64 ro, .int .i64 pk, .int .i64 fr]] => some ((sz_A = 5 ∧ NestR n 5 0 2 f_A) ∧ (sz_nd = 1 ∧ IntR h 1 f_nd) ∧ (sz_pr = 1 ∧ IntR q 1 f_pr) ∧ ((n ≤ 1000000 ∧ ∀ i, i < n → (nsM 0 f_A) i ≤ 1000000) ∧ h ≤ 1000000 ∧ q ≤ 1000000), .bool (psB n (nsA f_A) (nsM 0 f_A) (nsV 0 f_A) h (ivf f_nd) q (ivf f_pr) st ro pk fr))
  | _ => none
theorem arePs_eq (n : Nat) (sz_A : Nat) (f_A : Nat → Nat → SV) (h : Nat) (sz_nd : Nat) (f_nd : Nat → Nat → SV) (q : Nat) (sz_pr : Nat) (f_pr : Nat → Nat → SV) (st : Int) (ro : Int) (pk : Int) (fr : Int) : arePsBase [.agg [.row n sz_A f_A, .row h sz_nd f_nd, .row q sz_pr f_pr, .int .i64 st, .int .i64 ro, .int .i64 pk, .int .i64 fr]] = some ((sz_A = 5 ∧ NestR n 5 0 2 f_A) ∧ (sz_nd = 1 ∧ IntR h 1 f_nd) ∧ (sz_pr = 1 ∧ IntR q 1 f_pr) ∧ ((n ≤ 1000000 ∧ ∀ i, i < n → (nsM 0 f_A) i ≤ 1000000) ∧ h ≤ 1000000 ∧ q ≤ 1000000), .bool (psB n (nsA f_A) (nsM 0 f_A) (nsV 0 f_A) h (ivf f_nd) q (ivf f_pr) st ro pk fr)) := rfl
theorem arePs_base : Base Try.prog 31 arePsBase := by
  intro args p v hq hp
  unfold arePsBase at hq
  split at hq
  rotate_left
  · cases hq
  rename_i n sz_A f_A h sz_nd f_nd q sz_pr f_pr st ro pk fr
  cases hq
  obtain ⟨⟨rfl, i_A⟩, ⟨rfl, i_nd⟩, ⟨rfl, i_pr⟩, pre⟩ := hp
  refine base_of (C := cx [] [] [(51, withinBase), (53, isCentsBase), (54, hasIntBase), (55, hasPressBase)] [] none) (cx_ok trivial ⟨within_base, isCents_base, hasInt_base, hasPress_base, trivial⟩) rfl (g := 31) (fn := Try.f31)
    (args' := [.agg [.row n 5 (nestF 0 2 (nsA f_A) (nsM 0 f_A) (nsV 0 f_A)), .row h 1 (rowF .i64 (ivf f_nd)), .row q 1 (rowF .i64 (ivf f_pr)), .int .i64 st, .int .i64 ro, .int .i64 pk, .int .i64 fr]]) (fn_31) rfl 1000 (by
    simp only [BdL, Bd, and_self, and_true, true_and]
    exact ⟨(fun i j hi hj => nest_bd i_A i j hi hj), (fun i j hi hj => by rw [i_nd i j hi hj]; trivial), (fun i j hi hj => by rw [i_pr i j hi hj]; trivial)⟩) ⟨SameD.agg ⟨SameD.nest i_A, SameD.int i_nd, SameD.int i_pr, SameD.rfl' _, SameD.rfl' _, SameD.rfl' _, SameD.rfl' _, trivial⟩, trivial⟩ ?_
  generalize nsA f_A = A at *
  generalize nsM 0 f_A = M at *
  generalize nsV 0 f_A = V at *
  generalize ivf f_nd = nd at *
  generalize ivf f_pr = pr at *
  simp only [rowF_eq]
  simp only [within_eq, isCents_eq, hasInt_eq, hasPress_eq, nestF_eq, nestR_lit, nsM_lit, nsV_lit, prB_ns, Try.f31, go_sem, ↓reduceIte, Nat.reduceAdd, Nat.reduceSub, Nat.reduceMul, Nat.reduceEqDiff, Nat.reduceLT, Nat.reduceLeDiff, Int.reduceToNat, Int.reduceLE, Int.reduceLT, Int.reduceEq, Int.reduceNeg, reduceCtorEq]
  unfold psB
  repeat' first | refine And.intro (fun _ => ?_) (fun _ => ?_) | refine And.intro ?_ ?_
  all_goals first | omega | exact pre.1.2 | (clear pre; simp_all [ntLim]; done) | (clear pre; simp_all [ntLim]; intros; omega)
end Go.Eng
end

/- press: the reference's validity. -/
section
namespace Go.Eng
open Go Go.RowKit Go.Proofs
set_option maxRecDepth 100000
set_option maxHeartbeats 4000000
attribute [local irreducible] OwnT DefS
def pressRBase : BaseF := fun args => match args with
  | [.agg [.row m sz_v f_v, .int .i64 st, .int .i64 le, .int .i64 oi, .int .i64 on]] => some ((sz_v = 2 ∧ IntR m 2 f_v) ∧ (m ≤ 1000000), .bool (in3 oi 1 12 && (in3 le 1 oi && (in3 on 0 oi && (in3 st 0 10000 && (in3 (m : Int) 1 2 && allU (fun i => lvB ((ivf f_v) i)) m))))))
  | _ => none
theorem pressR_eq (m : Nat) (sz_v : Nat) (f_v : Nat → Nat → SV) (st : Int) (le : Int) (oi : Int) (on : Int) : pressRBase [.agg [.row m sz_v f_v, .int .i64 st, .int .i64 le, .int .i64 oi, .int .i64 on]] = some ((sz_v = 2 ∧ IntR m 2 f_v) ∧ (m ≤ 1000000), .bool (in3 oi 1 12 && (in3 le 1 oi && (in3 on 0 oi && (in3 st 0 10000 && (in3 (m : Int) 1 2 && allU (fun i => lvB ((ivf f_v) i)) m)))))) := rfl
theorem pressR_base : Base Try.prog 42 pressRBase := by
  intro args p v hq hp
  unfold pressRBase at hq
  split at hq
  rotate_left
  · cases hq
  rename_i m sz_v f_v st le oi on
  cases hq
  obtain ⟨⟨rfl, i_v⟩, pre⟩ := hp
  refine base_of (C := cx [] [] [(41, inBase)] [] none) (cx_ok trivial ⟨in_base, trivial⟩) rfl (g := 42) (fn := Try.f42)
    (args' := [.agg [.row m 2 (rowF .i64 (ivf f_v)), .int .i64 st, .int .i64 le, .int .i64 oi, .int .i64 on]]) (fn_42) rfl 1000 (by
    simp only [BdL, Bd, and_self, and_true, true_and]
    exact (fun i j hi hj => by rw [i_v i j hi hj]; trivial)) ⟨SameD.agg ⟨SameD.int i_v, SameD.rfl' _, SameD.rfl' _, SameD.rfl' _, SameD.rfl' _, trivial⟩, trivial⟩ ?_
  generalize ivf f_v = v at *
  simp only [rowF_eq]
  simp only [in_eq, Try.f42, go_sem, ↓reduceIte, Nat.reduceAdd, Nat.reduceSub, Nat.reduceMul, Nat.reduceEqDiff, Nat.reduceLT, Nat.reduceLeDiff, Int.reduceToNat, Int.reduceLE, Int.reduceLT, Int.reduceEq, Int.reduceNeg, reduceCtorEq]
  refine loop_ofH { i : Nat // i ≤ m ∧ i ≤ 3 ∧ ∀ j, j < i → (fun i => lvB (v i)) j = true } (fun i => [(3, .int .i64 (i.1 : Int)), (1, .ptr 0 0)]) (fun h _ => h) (fun i => m - i.1) (fun _ => ⟨rfl, rfl⟩) ⟨0, by omega, by omega, by omega⟩ (by (apply sub_of <;> simp only [go_sem, ↓reduceIte, Nat.reduceAdd, Nat.reduceSub, Nat.reduceMul, Nat.reduceEqDiff, Nat.reduceLT, Nat.reduceLeDiff, Int.reduceToNat, Int.reduceLE, Int.reduceLT, Int.reduceEq, Int.reduceNeg, reduceCtorEq] <;> (try simp [catF]) <;> (try exact fun j _ => Bd_nth (by simp [BdL, Bd]) j) <;> (try exact bd_setL (by simp [bdAs, BdL, Bd])) <;> (try exact nestF_bd _ _ _ _ _ _ _ _ _))) ?_
  rintro ⟨i, hi, hi3, h3⟩
  simp only [in_eq, Try.f42, go_sem, ↓reduceIte, Nat.reduceAdd, Nat.reduceSub, Nat.reduceMul, Nat.reduceEqDiff, Nat.reduceLT, Nat.reduceLeDiff, Int.reduceToNat, Int.reduceLE, Int.reduceLT, Int.reduceEq, Int.reduceNeg, reduceCtorEq]
  have hw3 : IntKind.i64.wrap ((i : Int) + 1) = ((i + 1 : Nat) : Int) := by rw [wrap_id (by omega) (by omega)]; omega
  have bad : i < m → lvB (v i) = false → SV.bool false = .bool (in3 oi 1 12 && (in3 le 1 oi && (in3 on 0 oi && (in3 st 0 10000 && (in3 (m : Int) 1 2 && allU (fun i => lvB (v i)) m))))) := fun h1 h2 => by
    rw [allU_false (p := fun i => lvB (v i)) h1 h2]; simp
  refine ⟨fun e1 => ⟨fun e2 => ?_, fun e2 => ?_⟩, fun e1 => ?_⟩
  · simp only [decide_eq_true_eq] at e1 e2
    refine ⟨⟨by omega, by omega⟩, fun e3 => bad (by omega) (by simp only [Bool.not_eq_true'] at e3; simp [lvB, e3]), fun e3 => ⟨⟨by omega, by omega⟩, fun e4 => bad (by omega) (by simp only [Bool.not_eq_true'] at e4; simp [lvB, e4]), fun e4 => ⟨⟨i + 1, by omega, by omega, below h3 ?_⟩, by simp only []; omega, ?_⟩⟩⟩
    · simp only [Bool.not_eq_false'] at e3 e4; simp [lvB, e3, e4]
    · apply sub_of <;> simp only [hw3, go_sem, ↓reduceIte, Nat.reduceAdd, Nat.reduceSub, Nat.reduceMul, Nat.reduceEqDiff, Nat.reduceLT, Nat.reduceLeDiff, Int.reduceToNat, Int.reduceLE, Int.reduceLT, Int.reduceEq, Int.reduceNeg, reduceCtorEq] <;> (try simp) <;> (try exact fun j _ => Bd_nth (by simp [BdL, Bd]) j) <;> (try exact bd_setL (by simp [bdAs, BdL, Bd])) <;> (try exact nestF_bd _ _ _ _ _ _ _ _ _)
  · simp only [decide_eq_true_eq, decide_eq_false_iff_not] at e1 e2
    have hm : in3 (m : Int) 1 2 = false := by simp [in3]; omega
    exact spl_f hm (by simp [hm])
  · simp only [decide_eq_false_iff_not] at e1
    obtain rfl : i = m := by omega
    rw [allU_true h3]
    exact ⟨fun a1 => ⟨fun a2 => ⟨fun a3 => ⟨fun a4 => by simp [a1, a2, a3, a4], fun a4 => by simp [a4]⟩, fun a3 => by simp [a3]⟩, fun a2 => by simp [a2]⟩, fun a1 => by simp [a1]⟩
def pressesBase : BaseF := fun args => match args with
  | [.agg [.row n sz_A f_A, .row h sz_nd f_nd, .row q sz_pr f_pr, .int .i64 st, .int .i64 ro, .int .i64 pk, .int .i64 fr]] => some ((sz_A = 5 ∧ NestR n 5 0 2 f_A) ∧ (sz_nd = 1 ∧ IntR h 1 f_nd) ∧ (sz_pr = 1 ∧ IntR q 1 f_pr) ∧ ((n ≤ 1000000 ∧ ∀ i, i < n → (nsM 0 f_A) i ≤ 1000000) ∧ h ≤ 1000000 ∧ q ≤ 1000000), .bool (psB n (nsA f_A) (nsM 0 f_A) (nsV 0 f_A) h (ivf f_nd) q (ivf f_pr) st ro pk fr))
  | _ => none
theorem presses_eq (n : Nat) (sz_A : Nat) (f_A : Nat → Nat → SV) (h : Nat) (sz_nd : Nat) (f_nd : Nat → Nat → SV) (q : Nat) (sz_pr : Nat) (f_pr : Nat → Nat → SV) (st : Int) (ro : Int) (pk : Int) (fr : Int) : pressesBase [.agg [.row n sz_A f_A, .row h sz_nd f_nd, .row q sz_pr f_pr, .int .i64 st, .int .i64 ro, .int .i64 pk, .int .i64 fr]] = some ((sz_A = 5 ∧ NestR n 5 0 2 f_A) ∧ (sz_nd = 1 ∧ IntR h 1 f_nd) ∧ (sz_pr = 1 ∧ IntR q 1 f_pr) ∧ ((n ≤ 1000000 ∧ ∀ i, i < n → (nsM 0 f_A) i ≤ 1000000) ∧ h ≤ 1000000 ∧ q ≤ 1000000), .bool (psB n (nsA f_A) (nsM 0 f_A) (nsV 0 f_A) h (ivf f_nd) q (ivf f_pr) st ro pk fr)) := rfl
theorem presses_base : Base Try.prog 17 pressesBase := by
  intro args p v hq hp
  unfold pressesBase at hq
  split at hq
  rotate_left
  · cases hq
  rename_i n sz_A f_A h sz_nd f_nd q sz_pr f_pr st ro pk fr
  cases hq
  obtain ⟨⟨rfl, i_A⟩, ⟨rfl, i_nd⟩, ⟨rfl, i_pr⟩, pre⟩ := hp
  refine base_of (C := cx [] [] [(41, inBase), (42, pressRBase)] [] none) (cx_ok trivial ⟨in_base, pressR_base, trivial⟩) rfl (g := 17) (fn := Try.f17)
    (args' := [.agg [.row n 5 (nestF 0 2 (nsA f_A) (nsM 0 f_A) (nsV 0 f_A)), .row h 1 (rowF .i64 (ivf f_nd)), .row q 1 (rowF .i64 (ivf f_pr)), .int .i64 st, .int .i64 ro, .int .i64 pk, .int .i64 fr]]) (fn_17) rfl 1000 (by
    simp only [BdL, Bd, and_self, and_true, true_and]
    exact ⟨(fun i j hi hj => nest_bd i_A i j hi hj), (fun i j hi hj => by rw [i_nd i j hi hj]; trivial), (fun i j hi hj => by rw [i_pr i j hi hj]; trivial)⟩) ⟨SameD.agg ⟨SameD.nest i_A, SameD.int i_nd, SameD.int i_pr, SameD.rfl' _, SameD.rfl' _, SameD.rfl' _, SameD.rfl' _, trivial⟩, trivial⟩ ?_
  generalize nsA f_A = A at *
  generalize nsM 0 f_A = M at *
  generalize nsV 0 f_A = V at *
  generalize ivf f_nd = nd at *
  generalize ivf f_pr = pr at *
  simp only [rowF_eq]
  simp only [in_eq, pressR_eq, nestF_eq, nestR_lit, nsM_lit, nsV_lit, prB_ns, Try.f17, go_sem, ↓reduceIte, Nat.reduceAdd, Nat.reduceSub, Nat.reduceMul, Nat.reduceEqDiff, Nat.reduceLT, Nat.reduceLeDiff, Int.reduceToNat, Int.reduceLE, Int.reduceLT, Int.reduceEq, Int.reduceNeg, reduceCtorEq]
  obtain ⟨⟨pn, pM⟩, ph, pq⟩ := pre
  refine ⟨fun a1 => by simp only [Bool.not_eq_true'] at a1; simp [psB, a1], fun a1 => ⟨fun a2 => by simp only [Bool.not_eq_true'] at a2; simp only [psB, a2, Bool.false_and], fun a2 => ⟨fun a3 => ?_, fun a3 => ?_⟩⟩⟩
  · have : decide ((h : Int) ≤ 12) = false := by simp only [decide_eq_true_eq] at a3; exact decide_eq_false (by omega)
    simp only [psB, this, Bool.false_and, Bool.and_false]
  simp only [Bool.not_eq_false', decide_eq_true_eq] at a1 a2
  simp only [decide_eq_false_iff_not] at a3
  obtain rfl : h = q := by omega
  refine loop_ofH { i : Nat // i ≤ n ∧ ∀ j, j < i → (fun i => prB (A i) (M i) (V i)) j = true } (fun i => [(3, .int .i64 (i.1 : Int)), (1, .ptr 0 0)]) (fun h _ => h) (fun i => n - i.1) (fun _ => ⟨rfl, rfl⟩) ⟨0, by omega, by omega⟩ (by (apply sub_of <;> simp only [go_sem, ↓reduceIte, Nat.reduceAdd, Nat.reduceSub, Nat.reduceMul, Nat.reduceEqDiff, Nat.reduceLT, Nat.reduceLeDiff, Int.reduceToNat, Int.reduceLE, Int.reduceLT, Int.reduceEq, Int.reduceNeg, reduceCtorEq] <;> (try simp [catF]) <;> (try exact fun j _ => Bd_nth (by simp [BdL, Bd]) j) <;> (try exact bd_setL (by simp [bdAs, BdL, Bd])) <;> (try exact nestF_bd _ _ _ _ _ _ _ _ _))) ?_
  rintro ⟨i, hi, h3⟩
  simp only [in_eq, pressR_eq, nestF_eq, nestR_lit, nsM_lit, nsV_lit, prB_ns, Try.f17, go_sem, ↓reduceIte, Nat.reduceAdd, Nat.reduceSub, Nat.reduceMul, Nat.reduceEqDiff, Nat.reduceLT, Nat.reduceLeDiff, Int.reduceToNat, Int.reduceLE, Int.reduceLT, Int.reduceEq, Int.reduceNeg, reduceCtorEq]
  have hw3 : IntKind.i64.wrap ((i : Int) + 1) = ((i + 1 : Nat) : Int) := by rw [wrap_id (by omega) (by omega)]; omega
  refine ⟨fun e1 => ?_, fun e1 => ?_⟩
  · simp only [decide_eq_true_eq] at e1
    have ik : i < n := by omega
    refine ⟨⟨by omega, by omega⟩, pM i ik, fun e2 => ?_, fun e2 => ⟨⟨i + 1, by omega, below h3 (by simpa only [Bool.not_eq_false', prB] using e2)⟩, by simp only []; omega, ?_⟩⟩
    · have := allU_false (p := fun i => prB (A i) (M i) (V i)) ik (by simpa only [Bool.not_eq_true', prB] using e2)
      simp only [psB, this, Bool.false_and, Bool.and_false]
    · apply sub_of <;> simp only [hw3, go_sem, ↓reduceIte, Nat.reduceAdd, Nat.reduceSub, Nat.reduceMul, Nat.reduceEqDiff, Nat.reduceLT, Nat.reduceLeDiff, Int.reduceToNat, Int.reduceLE, Int.reduceLT, Int.reduceEq, Int.reduceNeg, reduceCtorEq] <;> (try simp) <;> (try exact fun j _ => Bd_nth (by simp [BdL, Bd]) j) <;> (try exact bd_setL (by simp [bdAs, BdL, Bd])) <;> (try exact nestF_bd _ _ _ _ _ _ _ _ _)
  simp only [decide_eq_false_iff_not] at e1
  obtain rfl : i = n := by omega
  refine loop_ofH { j : Nat // j ≤ h ∧ (∀ k, k < j → (fun i => in3 (nd i 0) 0 300) k = true) ∧ ∀ k, k < j → (fun i => in3 (pr i 0) 0 10000) k = true } (fun j => [(4, .int .i64 (j.1 : Int)), (1, .ptr 0 0)]) (fun h _ => h) (fun j => h - j.1) (fun _ => ⟨rfl, rfl⟩) ⟨0, by omega, by omega, by omega⟩ (by (apply sub_of <;> simp only [go_sem, ↓reduceIte, Nat.reduceAdd, Nat.reduceSub, Nat.reduceMul, Nat.reduceEqDiff, Nat.reduceLT, Nat.reduceLeDiff, Int.reduceToNat, Int.reduceLE, Int.reduceLT, Int.reduceEq, Int.reduceNeg, reduceCtorEq] <;> (try simp [catF]) <;> (try exact fun j _ => Bd_nth (by simp [BdL, Bd]) j) <;> (try exact bd_setL (by simp [bdAs, BdL, Bd])) <;> (try exact nestF_bd _ _ _ _ _ _ _ _ _))) ?_
  rintro ⟨j, hj, h4, h5⟩
  simp only [in_eq, pressR_eq, nestF_eq, nestR_lit, nsM_lit, nsV_lit, prB_ns, Try.f17, go_sem, ↓reduceIte, Nat.reduceAdd, Nat.reduceSub, Nat.reduceMul, Nat.reduceEqDiff, Nat.reduceLT, Nat.reduceLeDiff, Int.reduceToNat, Int.reduceLE, Int.reduceLT, Int.reduceEq, Int.reduceNeg, reduceCtorEq]
  have hw4 : IntKind.i64.wrap ((j : Int) + 1) = ((j + 1 : Nat) : Int) := by rw [wrap_id (by omega) (by omega)]; omega
  refine ⟨fun e2 => ?_, fun e2 => ?_⟩
  · simp only [decide_eq_true_eq] at e2
    have jk : j < h := by omega
    refine ⟨⟨by omega, by omega⟩, fun e3 => ?_, fun e3 => ⟨⟨by omega, by omega⟩, fun e4 => ?_, fun e4 => ⟨⟨j + 1, by omega, below h4 (by simpa using e3), below h5 (by simpa using e4)⟩, by simp only []; omega, ?_⟩⟩⟩
    · have := allU_false (p := fun i => in3 (nd i 0) 0 300) jk (by simpa using e3)
      simp only [psB, this, Bool.false_and, Bool.and_false]
    · have := allU_false (p := fun i => in3 (pr i 0) 0 10000) jk (by simpa using e4)
      simp only [psB, this, Bool.false_and, Bool.and_false]
    · apply sub_of <;> simp only [hw4, go_sem, ↓reduceIte, Nat.reduceAdd, Nat.reduceSub, Nat.reduceMul, Nat.reduceEqDiff, Nat.reduceLT, Nat.reduceLeDiff, Int.reduceToNat, Int.reduceLE, Int.reduceLT, Int.reduceEq, Int.reduceNeg, reduceCtorEq] <;> (try simp) <;> (try exact fun j _ => Bd_nth (by simp [BdL, Bd]) j) <;> (try exact bd_setL (by simp [bdAs, BdL, Bd])) <;> (try exact nestF_bd _ _ _ _ _ _ _ _ _)
  simp only [decide_eq_false_iff_not] at e2
  obtain rfl : j = h := by omega
  have d1 : decide ((j : Int) = (j : Int)) = true := decide_eq_true rfl
  have d2 : decide ((j : Int) ≤ 12) = true := decide_eq_true (by omega)
  simp only [psB, d1, d2, allU_true h4, allU_true h5, allU_true h3, a1, Bool.true_and]
  exact ⟨fun a4 => ⟨fun a5 => ⟨fun a6 => by simp [a4, a5, a6], fun a6 => by simp [a6]⟩, fun a5 => by simp [a5]⟩, fun a4 => by simp [a4]⟩
end Go.Eng
end

/- press: what an hour does. No program in sight. -/
section
namespace Go.Eng
open Go Go.RowKit Go.Proofs
set_option maxRecDepth 100000
set_option maxHeartbeats 4000000
attribute [local irreducible] OwnT DefS
structure T3 where
  (a b c : Int)
deriving DecidableEq
def T3.get (x : T3) : Nat → Int
  | 0 => x.a
  | 1 => x.b
  | _ => x.c
def T3.set (x : T3) (i : Nat) (v : Int) : T3 :=
  match i with
  | 0 => ⟨v, x.b, x.c⟩
  | 1 => ⟨x.a, v, x.c⟩
  | _ => ⟨x.a, x.b, v⟩
/-- How long each has run, what is stored, the greatest power but for what is free. -/
structure PS where
  (on : T3) (sto pk : Int)
deriving DecidableEq
/-- Within an hour: the power and the starts so far. -/
structure PA where
  (on : T3) (sto pow sta : Int)
/-- The compressors. -/
structure PD where
  n : Nat
  A : Nat → Nat → Int
  M : Nat → Nat
  V : Nat → Nat → Nat → Int
  h : Nat
  nd : Nat → Nat → Int
  pr : Nat → Nat → Int
  (st ro pk fr : Int)
structure PD.Ok (D : PD) : Prop where
  n : 1 ≤ D.n ∧ D.n ≤ 3
  h : D.h ≤ 12
  nd : ∀ i, i < D.h → 0 ≤ D.nd i 0 ∧ D.nd i 0 ≤ 300
  pr : ∀ i, i < D.h → 0 ≤ D.pr i 0 ∧ D.pr i 0 ≤ 10000
  oil : ∀ i, i < D.n → 1 ≤ D.A i 3 ∧ D.A i 3 ≤ 12
  least : ∀ i, i < D.n → 1 ≤ D.A i 2 ∧ D.A i 2 ≤ D.A i 3
  on : ∀ i, i < D.n → 0 ≤ D.A i 4 ∧ D.A i 4 ≤ D.A i 3
  start : ∀ i, i < D.n → 0 ≤ D.A i 1 ∧ D.A i 1 ≤ 10000
  M : ∀ i, i < D.n → 1 ≤ D.M i ∧ D.M i ≤ 2
  pow : ∀ i k, i < D.n → k < D.M i → 1 ≤ D.V i k 0 ∧ D.V i k 0 ≤ 1000
  cold : ∀ i k, i < D.n → k < D.M i → 0 ≤ D.V i k 1 ∧ D.V i k 1 ≤ 100
  ro : 0 ≤ D.ro ∧ D.ro ≤ 100
  st : 0 ≤ D.st ∧ D.st ≤ D.ro
  pk : 0 ≤ D.pk ∧ D.pk ≤ 10000
  fr : 0 ≤ D.fr ∧ D.fr ≤ 3000
theorem psB_iff {n : Nat} {A : Nat → Nat → Int} {M : Nat → Nat} {V : Nat → Nat → Nat → Int} {h : Nat} {nd : Nat → Nat → Int} {q : Nat} {pr : Nat → Nat → Int} {st ro pk fr : Int} :
    psB n A M V h nd q pr st ro pk fr = true ↔ q = h ∧ PD.Ok ⟨n, A, M, V, h, nd, pr, st, ro, pk, fr⟩ := by
  simp only [psB, prB, lvB, Bool.and_eq_true, decide_eq_true_eq, allU_iff, in3_iff]
  constructor
  · rintro ⟨h1, h2, h3, h4, h5, h6, h7, h8, h9, h10⟩
    obtain rfl : q = h := by omega
    exact ⟨rfl, ⟨by simp only []; omega, by simp only []; omega, h3, h4, fun i hi => (h6 i hi).1, fun i hi => (h6 i hi).2.1, fun i hi => (h6 i hi).2.2.1, fun i hi => (h6 i hi).2.2.2.1, fun i hi => by have := (h6 i hi).2.2.2.2.1; simp only []; omega,
      fun i k hi hk => ((h6 i hi).2.2.2.2.2 k hk).1, fun i k hi hk => ((h6 i hi).2.2.2.2.2 k hk).2, h7, h8, h9, h10⟩⟩
  · rintro ⟨rfl, H⟩
    have h1 := H.n; have h2 := H.h; have h3 := H.M
    simp only [] at h1 h2 h3
    exact ⟨rfl, by omega, H.nd, H.pr, by omega, fun i hi => ⟨H.oil i hi, H.least i hi, H.on i hi, H.start i hi, by have := h3 i hi; omega, fun k hk => ⟨H.pow i k hi hk, H.cold i k hi hk⟩⟩, H.ro, H.st, H.pk, H.fr⟩
/-- One compressor in an hour. -/
def stepP (D : PD) (on c : T3) (i : Nat) (a : PA) : Option PA :=
  if c.get i = 0 then (if on.get i = 0 ∨ D.A i 2 ≤ on.get i then some a else none)
  else if on.get i < D.A i 3 then some ⟨a.on.set i (on.get i + 1), a.sto + D.V i (c.get i - 1).toNat 1, a.pow + D.V i (c.get i - 1).toNat 0, if on.get i = 0 then a.sta + D.A i 1 else a.sta⟩ else none
def stepsP (D : PD) (on c : T3) (s : Int) : Nat → Option PA
  | 0 => some ⟨⟨0, 0, 0⟩, s, 0, 0⟩
  | i + 1 => match stepsP D on c s i with
    | some a => stepP D on c i a
    | none => none
theorem stepsP_none {D : PD} {on c : T3} {s : Int} {i : Nat} (h : stepsP D on c s i = none) : ∀ j, i ≤ j → stepsP D on c s j = none := by
  intro j hj
  induction j with
  | zero => obtain rfl : i = 0 := by omega
            exact h
  | succ j ih =>
    rcases Nat.lt_or_ge j i with h1 | h1
    · obtain rfl : i = j + 1 := by omega
      exact h
    · simp only [stepsP, ih h1]
/-- What an hour comes to: an error, or what is then and what it costs. -/
structure HR where
  (e : Int) (s : PS) (en sta : Int)
def badH (e : Int) : HR := ⟨e, ⟨⟨0, 0, 0⟩, 0, 0⟩, 0, 0⟩
def hourP (D : PD) (s : PS) (hr : Nat) (c : T3) : HR :=
  match stepsP D s.on c (s.sto - D.nd hr 0) D.n with
  | none => badH 11
  | some a => if a.sto < 0 then badH 10 else if D.ro < a.sto then badH 9 else ⟨0, ⟨a.on, a.sto, max s.pk (a.pow - D.fr)⟩, a.pow * D.pr hr 0, a.sta⟩
theorem mulB {x y : Int} {m k : Int} (h1 : 0 ≤ x ∧ x ≤ m) (h2 : 0 ≤ y ∧ y ≤ k) : 0 ≤ x * y ∧ x * y ≤ m * k :=
  ⟨Int.mul_nonneg h1.1 h2.1, Int.mul_le_mul h1.2 h2.2 h2.1 (by omega)⟩
/-- A state that can be, and choices that can. -/
def stOk (D : PD) (s : PS) : Prop := (∀ i, i < 3 → 0 ≤ s.on.get i ∧ s.on.get i ≤ 12) ∧ (0 ≤ s.sto ∧ s.sto ≤ 100) ∧ (0 ≤ s.pk ∧ s.pk ≤ 3000)
def chOk (D : PD) (c : T3) : Prop := ∀ i, i < D.n → 0 ≤ c.get i ∧ c.get i ≤ D.M i
def PA.Ok (a : PA) (i : Nat) (s : Int) : Prop := (∀ j, j < 3 → 0 ≤ a.on.get j ∧ a.on.get j ≤ 12) ∧ (s ≤ a.sto ∧ a.sto ≤ s + 100 * i) ∧ (0 ≤ a.pow ∧ a.pow ≤ 1000 * i) ∧ (0 ≤ a.sta ∧ a.sta ≤ 10000 * i)
theorem T3.get_set (x : T3) (v : Int) : ∀ (i j : Nat), i < 3 → j < 3 → (x.set i v).get j = if j = i then v else x.get j := by
  intro i j hi hj
  rcases (by omega : i = 0 ∨ i = 1 ∨ i = 2) with rfl | rfl | rfl <;> rcases (by omega : j = 0 ∨ j = 1 ∨ j = 2) with rfl | rfl | rfl <;> rfl
theorem stepP_ok {D : PD} (hD : D.Ok) {on c : T3} (ho : ∀ i, i < 3 → 0 ≤ on.get i ∧ on.get i ≤ 12) (hc : chOk D c) {i : Nat} (hi : i < D.n) {a a' : PA} {s : Int} (ha : a.Ok i s) (h : stepP D on c i a = some a') : a'.Ok (i + 1) s := by
  obtain ⟨a1, a2, a3, a4⟩ := ha
  have hn := hD.n
  unfold stepP at h
  split at h
  · split at h
    · cases h
      exact ⟨a1, by omega, by omega, by omega⟩
    · cases h
  · rename_i hc0
    split at h
    · rename_i hon
      cases h
      have hci := hc i hi
      have hM := hD.M i hi
      have h1 := hD.pow i (c.get i - 1).toNat hi (by omega)
      have h2 := hD.cold i (c.get i - 1).toNat hi (by omega)
      have h3 := hD.start i hi
      have h4 := hD.oil i hi
      have h5 := ho i (by omega)
      refine ⟨fun j hj => ?_, by simp only []; omega, by simp only []; omega, ?_⟩
      · simp only []
        rw [T3.get_set _ _ _ _ (by omega) hj]
        split
        · omega
        · exact a1 j hj
      · simp only []
        split <;> omega
    · cases h
theorem stepsP_ok {D : PD} (hD : D.Ok) {on c : T3} (ho : ∀ i, i < 3 → 0 ≤ on.get i ∧ on.get i ≤ 12) (hc : chOk D c) {s : Int} : ∀ {i : Nat}, i ≤ D.n → ∀ {a : PA}, stepsP D on c s i = some a → a.Ok i s
  | 0, _, a, h => by
    cases h
    refine ⟨fun j hj => ?_, by simp, by simp, by simp⟩
    rcases (by omega : j = 0 ∨ j = 1 ∨ j = 2) with rfl | rfl | rfl <;> simp [T3.get]
  | i + 1, hi, a, h => by
    simp only [stepsP] at h
    split at h
    · rename_i b hb
      exact stepP_ok hD ho hc (by omega) (stepsP_ok hD ho hc (by omega) hb) h
    · cases h
theorem hourP_ok {D : PD} (hD : D.Ok) {s : PS} (hs : stOk D s) {c : T3} (hc : chOk D c) {hr : Nat} (hh : hr < D.h) (he : (hourP D s hr c).e = 0) :
    stOk D (hourP D s hr c).s ∧ (0 ≤ (hourP D s hr c).en ∧ (hourP D s hr c).en ≤ 30000000) ∧ (0 ≤ (hourP D s hr c).sta ∧ (hourP D s hr c).sta ≤ 30000) := by
  unfold hourP at he ⊢
  split at he
  · simp [badH] at he
  · rename_i a ha
    split at he
    · simp [badH] at he
    · split at he
      · simp [badH] at he
      · rename_i h1 h2
        simp only [if_neg h1, if_neg h2]
        obtain ⟨a1, a2, a3, a4⟩ := stepsP_ok hD hs.1 hc (Nat.le_refl _) ha
        have hn := hD.n
        have hp := hD.pr hr hh
        have hro := hD.ro
        have hfr := hD.fr
        have hpk := hs.2.2
        have q1 := mulB (x := a.pow) (y := D.pr hr 0) (m := 3000) (k := 10000) (by omega) (by omega)
        exact ⟨⟨a1, (by omega : 0 ≤ a.sto ∧ a.sto ≤ 100), (by omega : 0 ≤ max s.pk (a.pow - D.fr) ∧ max s.pk (a.pow - D.fr) ≤ 3000)⟩, (by omega : 0 ≤ a.pow * D.pr hr 0 ∧ a.pow * D.pr hr 0 ≤ 30000000), (by omega : 0 ≤ a.sta ∧ a.sta ≤ 30000)⟩
end Go.Eng
end

/- press: an hour. -/
section
namespace Go.Eng
open Go Go.RowKit Go.Proofs
set_option maxRecDepth 100000
set_option maxHeartbeats 4000000
attribute [local irreducible] OwnT DefS
def psS (s : PS) : SV := .agg [.int .i64 s.on.a, .int .i64 s.on.b, .int .i64 s.on.c, .int .i64 s.sto, .int .i64 s.pk]
def tS (c : T3) : SV := .agg [.int .i64 c.a, .int .i64 c.b, .int .i64 c.c]
def prC (D : PD) : List SV := [.row D.n 5 (nestF 0 2 D.A D.M D.V), .row D.h 1 (fun i j => .int .i64 (D.nd i j)), .row D.h 1 (fun i j => .int .i64 (D.pr i j)), .int .i64 D.st, .int .i64 D.ro, .int .i64 D.pk, .int .i64 D.fr]
def resP (r : HR) : Out := if r.e = 0 then .ret (.tup [psS r.s, .int .i64 r.en, .int .i64 r.sta]) else .pan (.iface 106 (.agg [.int .i64 r.e]))
theorem prC_bd (D : PD) (L K : Nat) : BdL L K (prC D) := by
  simp only [prC, BdL, Bd, and_self, and_true, implies_true]
  exact nestF_bd _ _ _ _ _ _ _ _ _
theorem prC_bds (D : PD) (L K : Nat) : (∀ i j, i < D.n → j < 5 → Bd L K (nestF 0 2 D.A D.M D.V i j)) ∧ ∀ j, j < 7 → Bd L K (nth (prC D) j) := ⟨nestF_bd _ _ _ _ _ _ _ _ _, fun j _ => Bd_nth (prC_bd D L K) j⟩
theorem resP_fl (r : HR) : FlO (resP r) := by
  unfold resP
  split <;> simp [FlO, Fl, FlL, Fl1, ScL, Sc, psS]
theorem resP_bad {e : Int} (h : e ≠ 0) : resP (badH e) = .pan (.iface 106 (.agg [.int .i64 e])) := by simp [resP, badH, h]
theorem T3.nth3 (x : T3) {i : Nat} (h : i < 3) : nth [.int .i64 x.a, .int .i64 x.b, .int .i64 x.c] (i * 1) = .int .i64 (x.get i) := by
  rcases (by omega : i = 0 ∨ i = 1 ∨ i = 2) with rfl | rfl | rfl <;> rfl
theorem T3.nth5 (x : T3) (y z : SV) {i : Nat} (h : i < 3) : nth [.int .i64 x.a, .int .i64 x.b, .int .i64 x.c, y, z] (i * 1) = .int .i64 (x.get i) := by
  rcases (by omega : i = 0 ∨ i = 1 ∨ i = 2) with rfl | rfl | rfl <;> rfl
theorem T3.over5 (x : T3) (y z : SV) (v : Int) {i : Nat} (h : i < 3) : over [.int .i64 x.a, .int .i64 x.b, .int .i64 x.c, y, z] (i * 1) [.int .i64 v] = [.int .i64 (x.set i v).a, .int .i64 (x.set i v).b, .int .i64 (x.set i v).c, y, z] := by
  rcases (by omega : i = 0 ∨ i = 1 ∨ i = 2) with rfl | rfl | rfl <;> rfl
theorem pass0 {D : PD} (hD : D.Ok) {s : PS} (hs : stOk D s) {c : T3} (hc : chOk D c) {hr : Nat} (hh : hr < D.h) :
    CallsS Try.prog 37 [.rptr 7 (fun j => nth (prC D) j), psS s, .int .i64 (hr : Int), tS c] ⟨[], []⟩ (fun o _ => FlO o ∧ o = resP (hourP D s hr c)) := by
  have ho := hs.1
  refine calls_mono (K := fun o _ => o = resP (hourP D s hr c)) (fun o _ e => ⟨e ▸ resP_fl _, e⟩) ?_
  refine calls_of_run (C := cx [] [] [] [(37, 1, p37_1), (37, 13, p37_13), (37, 18, p37_18), (37, 19, p37_19), (37, 20, p37_20)] none) (cx_ok trivial trivial) rfl fn_37 rfl 1000 ?_
  simp only [Try.f37, Try.f60, psS, tS, prC, p37_1, p37_13, p37_18, p37_19, p37_20, go_sem, ↓reduceIte, Nat.reduceAdd, Nat.reduceSub, Nat.reduceMul, Nat.reduceEqDiff, Nat.reduceLT, Nat.reduceLeDiff, Int.reduceToNat, Int.reduceLE, Int.reduceLT, Int.reduceEq, Int.reduceNeg, reduceCtorEq]
  have hnd := hD.nd hr hh
  have hs1 := hs.2.1
  have hn := hD.n
  have w0 : IntKind.i64.wrap (s.sto - D.nd hr 0) = s.sto - D.nd hr 0 := wrap_id (by omega) (by omega)
  rw [w0]
  generalize hs0 : s.sto - D.nd hr 0 = s0
  refine ⟨⟨by kernel_rfl, by kernel_rfl⟩, by omega, ?_⟩
  refine loop_ofH { x : Nat × PA // x.1 ≤ D.n ∧ stepsP D s.on c s0 x.1 = some x.2 } (fun x => [(34, .int .i64 (x.1.1 : Int)), (33, .int .i64 (D.n : Int)), (32, .row D.n 5 (nestF 0 2 D.A D.M D.V)), (11, .int .i64 x.1.2.pow), (10, .int .i64 x.1.2.sta), (8, .ptr 2 0), (7, .ptr 1 0), (5, .ptr 0 0), (2, .int .i64 (hr : Int)), (0, .rptr 7 fun j => nth (prC D) j)])
    (fun _ x => ⟨[.live 65 [.int .i64 s.on.a, .int .i64 s.on.b, .int .i64 s.on.c, .int .i64 s.sto, .int .i64 s.pk], .live 63 [.int .i64 c.a, .int .i64 c.b, .int .i64 c.c], .live 65 [.int .i64 x.1.2.on.a, .int .i64 x.1.2.on.b, .int .i64 x.1.2.on.c, .int .i64 x.1.2.sto, .int .i64 s.pk]], []⟩) (fun x => D.n - x.1.1) (fun _ => ⟨rfl, rfl⟩) ⟨(0, ⟨⟨0, 0, 0⟩, s0, 0, 0⟩), by simp only []; omega, rfl⟩ (by simp only [prC]; (apply sub_of <;> simp only [go_sem, ↓reduceIte, Nat.reduceAdd, Nat.reduceSub, Nat.reduceMul, Nat.reduceEqDiff, Nat.reduceLT, Nat.reduceLeDiff, Int.reduceToNat, Int.reduceLE, Int.reduceLT, Int.reduceEq, Int.reduceNeg, reduceCtorEq] <;> (try simp [catF]) <;> (try exact fun j _ => Bd_nth (by simp [BdL, Bd]) j) <;> (try exact bd_setL (by simp [bdAs, BdL, Bd])) <;> (try exact nestF_bd _ _ _ _ _ _ _ _ _)); exact prC_bds D _ _) ?_
  rintro ⟨⟨i, a⟩, hi, ha⟩
  simp only at hi ha
  rcases Nat.lt_or_ge i D.n with hin | hin
  · have h3 : i < 3 := by omega
    have n3 := fun x => T3.nth3 x h3
    have n5 := fun x y z => T3.nth5 x y z h3
    have v5 := fun x y z v => T3.over5 x y z v h3
    simp only [Try.f37, Try.f60, nestF_eq, n3, n5, v5, prC, p37_1, p37_13, p37_18, p37_19, p37_20, go_sem, ↓reduceIte, Nat.reduceAdd, Nat.reduceSub, Nat.reduceMul, Nat.reduceEqDiff, Nat.reduceLT, Nat.reduceLeDiff, Int.reduceToNat, Int.reduceLE, Int.reduceLT, Int.reduceEq, Int.reduceNeg, reduceCtorEq]
    have hci := hc i hin
    have hM := hD.M i hin
    have hoi := ho i h3
    have hoil := hD.oil i hin
    have hst := hD.start i hin
    have hok := stepsP_ok hD ho hc (by omega) ha
    have hstep : stepsP D s.on c s0 (i + 1) = stepP D s.on c i a := by simp only [stepsP, ha]
    have bad : stepP D s.on c i a = none → Out.pan (.iface 106 (.agg [.int .i64 11])) = resP (hourP D s hr c) := fun h => by
      rw [hourP, hs0, stepsP_none (hstep.trans h) _ (by omega)]
      exact (resP_bad (by decide)).symm
    have hw3 : IntKind.i64.wrap ((i : Int) + 1) = ((i + 1 : Nat) : Int) := by rw [wrap_id (by omega) (by omega)]; omega
    refine ⟨fun e1 => ⟨⟨by omega, by omega⟩, ⟨by omega, by omega⟩, by omega, ⟨by omega, by omega⟩, by omega, fun e2 => ⟨fun e3 => ?_, fun e3 => ⟨fun e4 => ?_, fun e4 => ?_⟩⟩, fun e2 => ⟨fun e3 => ?_, fun e3 => ?_⟩⟩, fun e1 => absurd e1 (by simp; omega)⟩
    all_goals simp only [decide_eq_true_eq, decide_eq_false_iff_not, Bool.not_eq_true', Bool.not_eq_false'] at e2 e3
    · have hs1 : stepP D s.on c i a = some a := by simp only [stepP, if_pos e2, e3, true_or, if_true]
      refine ⟨⟨(i + 1, a), by simp only []; omega, hstep.trans hs1⟩, by simp only []; omega, ?_⟩
      apply sub_of <;> simp only [hw3, go_sem, ↓reduceIte, Nat.reduceAdd, Nat.reduceSub, Nat.reduceMul, Nat.reduceEqDiff, Nat.reduceLT, Nat.reduceLeDiff, Int.reduceToNat, Int.reduceLE, Int.reduceLT, Int.reduceEq, Int.reduceNeg, reduceCtorEq] <;> (try simp) <;> exact prC_bds D _ _
    · simp only [decide_eq_true_eq, decide_eq_false_iff_not, Bool.not_eq_true', Bool.not_eq_false'] at e4
      exact bad (by simp only [stepP, if_pos e2, e3, false_or, if_neg e4])
    · simp only [decide_eq_true_eq, decide_eq_false_iff_not, Bool.not_eq_true', Bool.not_eq_false'] at e4
      have hs1 : stepP D s.on c i a = some a := by simp only [stepP, if_pos e2, e3, false_or, if_pos e4]
      refine ⟨⟨(i + 1, a), by simp only []; omega, hstep.trans hs1⟩, by simp only []; omega, ?_⟩
      apply sub_of <;> simp only [hw3, go_sem, ↓reduceIte, Nat.reduceAdd, Nat.reduceSub, Nat.reduceMul, Nat.reduceEqDiff, Nat.reduceLT, Nat.reduceLeDiff, Int.reduceToNat, Int.reduceLE, Int.reduceLT, Int.reduceEq, Int.reduceNeg, reduceCtorEq] <;> (try simp) <;> exact prC_bds D _ _
    · exact bad (by simp only [stepP, if_neg e2, if_neg e3])
    · have hk : IntKind.i64.wrap (c.get i - 1) = c.get i - 1 := wrap_id (by omega) (by omega)
      have hpo := hD.pow i (c.get i - 1).toNat hin (by omega)
      have hco := hD.cold i (c.get i - 1).toNat hin (by omega)
      obtain ⟨b1, b2, b3, b4⟩ := hok
      have w1 : IntKind.i64.wrap (s.on.get i + 1) = s.on.get i + 1 := wrap_id (by omega) (by omega)
      have w2 : IntKind.i64.wrap (a.sto + D.V i (c.get i - 1).toNat 1) = a.sto + D.V i (c.get i - 1).toNat 1 := wrap_id (by omega) (by omega)
      have w3 : IntKind.i64.wrap (a.pow + D.V i (c.get i - 1).toNat 0) = a.pow + D.V i (c.get i - 1).toNat 0 := wrap_id (by omega) (by omega)
      have w4 : IntKind.i64.wrap (a.sta + D.A i 1) = a.sta + D.A i 1 := wrap_id (by omega) (by omega)
      rw [hk]
      refine ⟨fun e4 => ⟨⟨by omega, by omega⟩, by omega, ⟨by kernel_rfl, by kernel_rfl⟩, ⟨by omega, by omega⟩, by omega, ⟨by omega, by omega⟩, ⟨⟨by omega, by omega⟩, by omega, by omega, by omega⟩, ?_⟩, fun e4 => ⟨⟨by omega, by omega⟩, by omega, ⟨by kernel_rfl, by kernel_rfl⟩, ⟨by omega, by omega⟩, by omega, ⟨by omega, by omega⟩, ⟨⟨by omega, by omega⟩, by omega, by omega, by omega⟩, ?_⟩⟩
      all_goals simp only [decide_eq_true_eq, decide_eq_false_iff_not] at e4
      · have hs1 : stepP D s.on c i a = some ⟨a.on.set i (s.on.get i + 1), a.sto + D.V i (c.get i - 1).toNat 1, a.pow + D.V i (c.get i - 1).toNat 0, a.sta + D.A i 1⟩ := by simp only [stepP, if_neg e2, if_pos e3, if_pos e4]
        refine ⟨⟨(i + 1, _), by simp only []; omega, hstep.trans hs1⟩, by simp only []; omega, ?_⟩
        apply sub_of <;> simp only [hw3, w1, w2, w3, w4, go_sem, ↓reduceIte, Nat.reduceAdd, Nat.reduceSub, Nat.reduceMul, Nat.reduceEqDiff, Nat.reduceLT, Nat.reduceLeDiff, Int.reduceToNat, Int.reduceLE, Int.reduceLT, Int.reduceEq, Int.reduceNeg, reduceCtorEq] <;> (try simp) <;> exact prC_bds D _ _
      · have hs1 : stepP D s.on c i a = some ⟨a.on.set i (s.on.get i + 1), a.sto + D.V i (c.get i - 1).toNat 1, a.pow + D.V i (c.get i - 1).toNat 0, a.sta⟩ := by simp only [stepP, if_neg e2, if_pos e3, if_neg e4]
        refine ⟨⟨(i + 1, _), by simp only []; omega, hstep.trans hs1⟩, by simp only []; omega, ?_⟩
        apply sub_of <;> simp only [hw3, w1, w2, w3, w4, go_sem, ↓reduceIte, Nat.reduceAdd, Nat.reduceSub, Nat.reduceMul, Nat.reduceEqDiff, Nat.reduceLT, Nat.reduceLeDiff, Int.reduceToNat, Int.reduceLE, Int.reduceLT, Int.reduceEq, Int.reduceNeg, reduceCtorEq] <;> (try simp) <;> exact prC_bds D _ _
  · obtain rfl : i = D.n := by omega
    obtain ⟨b1, b2, b3, b4⟩ := stepsP_ok hD ho hc (by omega) ha
    have hfr := hD.fr
    have hpr := hD.pr hr hh
    have hpk := hs.2.2
    have q1 := mulB (x := a.pow) (y := D.pr hr 0) (m := 3000) (k := 10000) (by omega) (by omega)
    have w1 : IntKind.i64.wrap (a.pow - D.fr) = a.pow - D.fr := wrap_id (by omega) (by omega)
    have w2 : IntKind.i64.wrap (a.pow * D.pr hr 0) = a.pow * D.pr hr 0 := wrap_id (by omega) (by omega)
    have hR : hourP D s hr c = if a.sto < 0 then badH 10 else if D.ro < a.sto then badH 9 else ⟨0, ⟨a.on, a.sto, max s.pk (a.pow - D.fr)⟩, a.pow * D.pr hr 0, a.sta⟩ := by simp only [hourP, hs0, ha]
    rw [hR]
    have hd : decide ((D.n : Int) < (D.n : Int)) = false := decide_eq_false (by omega)
    simp only [Try.f37, Try.f60, nestF_eq, prC, hd, w1, w2, p37_1, p37_13, p37_18, p37_19, p37_20, go_sem, ↓reduceIte, Nat.reduceAdd, Nat.reduceSub, Nat.reduceMul, Nat.reduceEqDiff, Nat.reduceLT, Nat.reduceLeDiff, Int.reduceToNat, Int.reduceLE, Int.reduceLT, Int.reduceEq, Int.reduceNeg, reduceCtorEq]
    refine ⟨fun e2 => ?_, fun e2 => ⟨⟨by kernel_rfl, by kernel_rfl⟩, fun e3 => ?_, fun e3 => ⟨⟨by kernel_rfl, by kernel_rfl⟩, ⟨by kernel_rfl, by kernel_rfl⟩, ⟨by omega, by omega⟩, ⟨by omega, by omega⟩, ?_⟩⟩⟩
    all_goals simp only [decide_eq_true_eq, decide_eq_false_iff_not, Bool.not_eq_true', Bool.not_eq_false'] at e2
    · rw [if_pos (by omega)]
      exact (resP_bad (by decide)).symm
    all_goals simp only [decide_eq_true_eq, decide_eq_false_iff_not, Bool.not_eq_true', Bool.not_eq_false'] at e3
    · rw [if_neg (by omega), if_pos (by omega)]
      exact (resP_bad (by decide)).symm
    · rw [if_neg (by omega), if_neg (by omega)]
      rfl
end Go.Eng
end

/- press: an hour that is tried. -/
section
namespace Go.Eng
open Go Go.RowKit Go.Proofs
set_option maxRecDepth 100000
set_option maxHeartbeats 4000000
attribute [local irreducible] OwnT DefS
theorem setB_last : ∀ (l : List Blk) (a b : Blk), setB (snocB l a) (lenB l) b = snocB l b
  | [], _, _ => rfl
  | x :: l, a, b => by simp [setB, snocB, lenB, setB_last l a b]
theorem def59_none (h : HS) (e : Nat) : DefS Try.prog 59 [.ptr e 0] none h (fun p' h' => p' = none ∧ h' = h) := by
  refine defS_of_run (C := cx [] [] [] [] (some [])) (cx_ok trivial trivial) (g := 59) (fn := Try.f59) fn_59 rfl rfl rfl 1000 1000 ?_
  simp only [Try.f59, go_sem, ↓reduceIte, Nat.reduceAdd, Nat.reduceSub, Nat.reduceMul, Nat.reduceEqDiff, Nat.reduceLT, Nat.reduceLeDiff, Int.reduceToNat, Int.reduceLE, Int.reduceLT, Int.reduceEq, Int.reduceNeg, reduceCtorEq]
theorem def59_some (h : HS) (e : Nat) (m k : Int) (he : getB h.blks e = .live 30 [.int .i64 k]) : DefS Try.prog 59 [.ptr e 0] (some (.iface 106 (.agg [.int .i64 m]))) h (fun p' h' => p' = none ∧ h' = { h with blks := setB (snocB h.blks (.live 106 [.int .i64 m])) e (.live 30 [.int .i64 m]) }) := by
  have hlt := getB_lt he
  have ha : ∀ b, getB (snocB h.blks b) (lenB h.blks) = b := fun b => by simp [getB_snoc]
  have hb : ∀ b, getB (snocB h.blks b) e = .live 30 [.int .i64 k] := fun b => by rw [getB_snoc, if_neg (by omega), he]
  refine defS_of_run (C := cx [] [] [] [] (some [])) (cx_ok trivial trivial) (g := 59) (fn := Try.f59) fn_59 rfl rfl rfl 1000 1000 ?_
  simp only [Try.f59, he, ha, hb, setB_last, go_sem, ↓reduceIte, Nat.reduceAdd, Nat.reduceSub, Nat.reduceMul, Nat.reduceEqDiff, Nat.reduceLT, Nat.reduceLeDiff, Int.reduceToNat, Int.reduceLE, Int.reduceLT, Int.reduceEq, Int.reduceNeg, reduceCtorEq]
def hrS (r : HR) : SV := .tup [psS r.s, .int .i64 r.en, .int .i64 r.sta, .int .i64 r.e]
theorem hourP_bad {D : PD} {s : PS} {hr : Nat} {c : T3} (h : (hourP D s hr c).e ≠ 0) : hourP D s hr c = badH (hourP D s hr c).e := by
  unfold hourP at h ⊢
  split
  · rfl
  · rename_i a ha
    rw [ha] at h
    simp only [] at h ⊢
    split at h
    · rename_i h1; simp only [if_pos h1]; rfl
    · rename_i h1
      split at h
      · rename_i h2; simp only [if_neg h1, if_pos h2]; rfl
      · exact absurd rfl h
def triedBase : BaseF := fun args => match args with
  | [.rptr sz_1 c_1, .agg [.int .i64 oa, .int .i64 ob, .int .i64 oc, .int .i64 sto, .int .i64 spk], .int .i64 hr, .agg [.int .i64 ca, .int .i64 cb, .int .i64 cc]] => (match c_1 0, c_1 1, c_1 2, c_1 3, c_1 4, c_1 5, c_1 6 with | .row n sz_A f_A, .row h sz_nd f_nd, .row q sz_pr f_pr, .int .i64 st, .int .i64 ro, .int .i64 pk, .int .i64 fr => some ((sz_1 = 7) ∧ (sz_A = 5 ∧ NestR n 5 0 2 f_A) ∧ (sz_nd = 1 ∧ IntR h 1 f_nd) ∧ (sz_pr = 1 ∧ IntR q 1 f_pr) ∧ (q = h ∧ PD.Ok ⟨n, (nsA f_A), (nsM 0 f_A), (nsV 0 f_A), h, (ivf f_nd), (ivf f_pr), st, ro, pk, fr⟩ ∧ stOk ⟨n, (nsA f_A), (nsM 0 f_A), (nsV 0 f_A), h, (ivf f_nd), (ivf f_pr), st, ro, pk, fr⟩ ⟨⟨oa, ob, oc⟩, sto, spk⟩ ∧ chOk ⟨n, (nsA f_A), (nsM 0 f_A), (nsV 0 f_A), h, (ivf f_nd), (ivf f_pr), st, ro, pk, fr⟩ ⟨ca, cb, cc⟩ ∧ 0 ≤ hr ∧ hr < h), hrS (hourP ⟨n, (nsA f_A), (nsM 0 f_A), (nsV 0 f_A), h, (ivf f_nd), (ivf f_pr), st, ro, pk, fr⟩ ⟨⟨oa, ob, oc⟩, sto, spk⟩ hr.toNat ⟨ca, cb, cc⟩)) | _, _, _, _, _, _, _ => none)
  | _ => none
theorem tried_eq (sz_1 : Nat) (c_1 : Nat → SV) (oa : Int) (ob : Int) (oc : Int) (sto : Int) (spk : Int) (hr : Int) (ca : Int) (cb : Int) (cc : Int) : triedBase [.rptr sz_1 c_1, .agg [.int .i64 oa, .int .i64 ob, .int .i64 oc, .int .i64 sto, .int .i64 spk], .int .i64 hr, .agg [.int .i64 ca, .int .i64 cb, .int .i64 cc]] = (match c_1 0, c_1 1, c_1 2, c_1 3, c_1 4, c_1 5, c_1 6 with | .row n sz_A f_A, .row h sz_nd f_nd, .row q sz_pr f_pr, .int .i64 st, .int .i64 ro, .int .i64 pk, .int .i64 fr => some ((sz_1 = 7) ∧ (sz_A = 5 ∧ NestR n 5 0 2 f_A) ∧ (sz_nd = 1 ∧ IntR h 1 f_nd) ∧ (sz_pr = 1 ∧ IntR q 1 f_pr) ∧ (q = h ∧ PD.Ok ⟨n, (nsA f_A), (nsM 0 f_A), (nsV 0 f_A), h, (ivf f_nd), (ivf f_pr), st, ro, pk, fr⟩ ∧ stOk ⟨n, (nsA f_A), (nsM 0 f_A), (nsV 0 f_A), h, (ivf f_nd), (ivf f_pr), st, ro, pk, fr⟩ ⟨⟨oa, ob, oc⟩, sto, spk⟩ ∧ chOk ⟨n, (nsA f_A), (nsM 0 f_A), (nsV 0 f_A), h, (ivf f_nd), (ivf f_pr), st, ro, pk, fr⟩ ⟨ca, cb, cc⟩ ∧ 0 ≤ hr ∧ hr < h), hrS (hourP ⟨n, (nsA f_A), (nsM 0 f_A), (nsV 0 f_A), h, (ivf f_nd), (ivf f_pr), st, ro, pk, fr⟩ ⟨⟨oa, ob, oc⟩, sto, spk⟩ hr.toNat ⟨ca, cb, cc⟩)) | _, _, _, _, _, _, _ => none) := rfl
theorem tried_base : Base Try.prog 34 triedBase := by
  intro args p v hq hp
  unfold triedBase at hq
  split at hq
  rotate_left
  · cases hq
  rename_i sz_1 c_1 oa ob oc sto spk hr ca cb cc
  split at hq
  rotate_left
  · cases hq
  rename_i n sz_A f_A h sz_nd f_nd q sz_pr f_pr st ro pk fr h_1_0 h_1_1 h_1_2 h_1_3 h_1_4 h_1_5 h_1_6
  cases hq
  obtain ⟨rfl, ⟨rfl, i_A⟩, ⟨rfl, i_nd⟩, ⟨rfl, i_pr⟩, pre⟩ := hp
  refine ⟨(by
    simp only [BdL, Bd, and_self, and_true, true_and]
    exact (fun j hj => by
      have hj : j = 0 ∨ j = 1 ∨ j = 2 ∨ j = 3 ∨ j = 4 ∨ j = 5 ∨ j = 6 := by omega
      rcases hj with rfl | rfl | rfl | rfl | rfl | rfl | rfl
      · rw [h_1_0]; simp only [BdL, Bd, and_self, and_true, true_and]; exact (fun i j hi hj => nest_bd i_A i j hi hj)
      · rw [h_1_1]; simp only [BdL, Bd, and_self, and_true, true_and]; exact (fun i j hi hj => by rw [i_nd i j hi hj]; trivial)
      · rw [h_1_2]; simp only [BdL, Bd, and_self, and_true, true_and]; exact (fun i j hi hj => by rw [i_pr i j hi hj]; trivial)
      · rw [h_1_3]; simp only [BdL, Bd, and_self, and_true, true_and]
      · rw [h_1_4]; simp only [BdL, Bd, and_self, and_true, true_and]
      · rw [h_1_5]; simp only [BdL, Bd, and_self, and_true, true_and]
      · rw [h_1_6]; simp only [BdL, Bd, and_self, and_true, true_and])), calls_mono (fun _ _ ⟨u, e1, e2, e3⟩ => ⟨u, e1, .inl ⟨e2, by rw [e3]; exact SameD.rfl' _⟩⟩) (calls_congr (args' := [.rptr 7 (fun j => nth [.row n 5 (nestF 0 2 (nsA f_A) (nsM 0 f_A) (nsV 0 f_A)), .row h 1 (rowF .i64 (ivf f_nd)), .row q 1 (rowF .i64 (ivf f_pr)), .int .i64 st, .int .i64 ro, .int .i64 pk, .int .i64 fr] j), .agg [.int .i64 oa, .int .i64 ob, .int .i64 oc, .int .i64 sto, .int .i64 spk], .int .i64 hr, .agg [.int .i64 ca, .int .i64 cb, .int .i64 cc]]) ⟨SameD.rptr (fun j hj => by
      have hj : j = 0 ∨ j = 1 ∨ j = 2 ∨ j = 3 ∨ j = 4 ∨ j = 5 ∨ j = 6 := by omega
      rcases hj with rfl | rfl | rfl | rfl | rfl | rfl | rfl
      · rw [h_1_0]; exact SameD.nest i_A
      · rw [h_1_1]; exact SameD.int i_nd
      · rw [h_1_2]; exact SameD.int i_pr
      · rw [h_1_3]; exact SameD.rfl' _
      · rw [h_1_4]; exact SameD.rfl' _
      · rw [h_1_5]; exact SameD.rfl' _
      · rw [h_1_6]; exact SameD.rfl' _), SameD.rfl' _, SameD.rfl' _, SameD.rfl' _, trivial⟩ (calls_of_defer (C := cx [37] [] [] [] (some [8, 9, 10, 11])) (cx_ok trivial trivial) (g := 34) (fn := Try.f34) (fn_34) rfl rfl
    (args := [.rptr 7 (fun j => nth [.row n 5 (nestF 0 2 (nsA f_A) (nsM 0 f_A) (nsV 0 f_A)), .row h 1 (rowF .i64 (ivf f_nd)), .row q 1 (rowF .i64 (ivf f_pr)), .int .i64 st, .int .i64 ro, .int .i64 pk, .int .i64 fr] j), .agg [.int .i64 oa, .int .i64 ob, .int .i64 oc, .int .i64 sto, .int .i64 spk], .int .i64 hr, .agg [.int .i64 ca, .int .i64 cb, .int .i64 cc]]) (K := fun o h' => ∃ u, o = .ret u ∧ Fl u ∧ u = hrS (hourP ⟨n, (nsA f_A), (nsM 0 f_A), (nsV 0 f_A), h, (ivf f_nd), (ivf f_pr), st, ro, pk, fr⟩ ⟨⟨oa, ob, oc⟩, sto, spk⟩ hr.toNat ⟨ca, cb, cc⟩)) 1000 1000 ?_))⟩
  generalize nsA f_A = A at *
  generalize nsM 0 f_A = M at *
  generalize nsV 0 f_A = V at *
  generalize ivf f_nd = nd at *
  generalize ivf f_pr = pr at *
  simp only [rowF_eq]
  simp only [nestF_eq, nestR_lit, nsM_lit, nsV_lit, Try.f34, go_sem, ↓reduceIte, Nat.reduceAdd, Nat.reduceSub, Nat.reduceMul, Nat.reduceEqDiff, Nat.reduceLT, Nat.reduceLeDiff, Int.reduceToNat, Int.reduceLE, Int.reduceLT, Int.reduceEq, Int.reduceNeg, reduceCtorEq]
  obtain ⟨rfl, hD, hs, hc, hh0, hh⟩ := pre
  obtain ⟨k, rfl⟩ : ∃ k : Nat, hr = k := ⟨hr.toNat, by omega⟩
  have hp := pass0 hD hs hc (hr := k) (by simp only []; omega)
  simp only [prC, psS, tS] at hp
  unfold callS
  refine calls_mono ?_ (calls_lend (K := fun o => o = resP (hourP ⟨n, A, M, V, q, nd, pr, st, ro, pk, fr⟩ ⟨⟨oa, ob, oc⟩, sto, spk⟩ k ⟨ca, cb, cc⟩)) ?_ ?_)
  rotate_left
  · simp only [go_sem, ↓reduceIte, Nat.reduceAdd, Nat.reduceSub, Nat.reduceMul, Nat.reduceEqDiff, Nat.reduceLT, Nat.reduceLeDiff, Int.reduceToNat, Int.reduceLE, Int.reduceLT, Int.reduceEq, Int.reduceNeg, reduceCtorEq]
    exact fun j _ => Bd_nth (prC_bd ⟨n, A, M, V, q, nd, pr, st, ro, pk, fr⟩ 0 0) j
  · simp only [go_sem, ↓reduceIte, Nat.reduceAdd, Nat.reduceSub, Nat.reduceMul, Nat.reduceEqDiff, Nat.reduceLT, Nat.reduceLeDiff, Int.reduceToNat, Int.reduceLE, Int.reduceLT, Int.reduceEq, Int.reduceNeg, reduceCtorEq]
    exact hp
  rintro o h' ⟨rfl, rfl⟩
  simp only [Int.toNat_natCast]
  by_cases he : (hourP ⟨n, A, M, V, q, nd, pr, st, ro, pk, fr⟩ ⟨⟨oa, ob, oc⟩, sto, spk⟩ k ⟨ca, cb, cc⟩).e = 0
  · generalize hourP ⟨n, A, M, V, q, nd, pr, st, ro, pk, fr⟩ ⟨⟨oa, ob, oc⟩, sto, spk⟩ k ⟨ca, cb, cc⟩ = r at he
    simp only [resP, he, if_true, nestF_eq, nestR_lit, nsM_lit, nsV_lit, Try.f34, psS, hrS, go_sem, ↓reduceIte, Nat.reduceAdd, Nat.reduceSub, Nat.reduceMul, Nat.reduceEqDiff, Nat.reduceLT, Nat.reduceLeDiff, Int.reduceToNat, Int.reduceLE, Int.reduceLT, Int.reduceEq, Int.reduceNeg, reduceCtorEq]
    refine defS_mono (def59_none _ _) (fun p' h' ⟨e1, e2⟩ => ?_)
    rw [e1, e2]
    simp only [nestF_eq, nestR_lit, nsM_lit, nsV_lit, Try.f34, go_sem, ↓reduceIte, Nat.reduceAdd, Nat.reduceSub, Nat.reduceMul, Nat.reduceEqDiff, Nat.reduceLT, Nat.reduceLeDiff, Int.reduceToNat, Int.reduceLE, Int.reduceLT, Int.reduceEq, Int.reduceNeg, reduceCtorEq]
  · rw [hourP_bad he]
    generalize (hourP ⟨n, A, M, V, q, nd, pr, st, ro, pk, fr⟩ ⟨⟨oa, ob, oc⟩, sto, spk⟩ k ⟨ca, cb, cc⟩).e = m at he
    rw [resP_bad he]
    simp only [nestF_eq, nestR_lit, nsM_lit, nsV_lit, Try.f34, psS, hrS, badH, go_sem, ↓reduceIte, Nat.reduceAdd, Nat.reduceSub, Nat.reduceMul, Nat.reduceEqDiff, Nat.reduceLT, Nat.reduceLeDiff, Int.reduceToNat, Int.reduceLE, Int.reduceLT, Int.reduceEq, Int.reduceNeg, reduceCtorEq]
    refine defS_mono (def59_some _ _ m 0 rfl) (fun p' h' ⟨e1, e2⟩ => ?_)
    rw [e1, e2]
    simp only [nestF_eq, nestR_lit, nsM_lit, nsV_lit, Try.f34, go_sem, ↓reduceIte, Nat.reduceAdd, Nat.reduceSub, Nat.reduceMul, Nat.reduceEqDiff, Nat.reduceLT, Nat.reduceLeDiff, Int.reduceToNat, Int.reduceLE, Int.reduceLT, Int.reduceEq, Int.reduceNeg, reduceCtorEq]
end Go.Eng
end

/- press: the state at first. -/
section
namespace Go.Eng
open Go Go.RowKit Go.Proofs
set_option maxRecDepth 100000
set_option maxHeartbeats 4000000
attribute [local irreducible] OwnT DefS
def onI (A : Nat → Nat → Int) (i : Nat) : T3 := ⟨if 0 < i then A 0 4 else 0, if 1 < i then A 1 4 else 0, if 2 < i then A 2 4 else 0⟩
theorem onI_set (A : Nat → Nat → Int) {i : Nat} (h : i < 3) : (onI A i).set i (A i 4) = onI A (i + 1) := by
  rcases (by omega : i = 0 ∨ i = 1 ∨ i = 2) with rfl | rfl | rfl <;> rfl
theorem onI_get (A : Nat → Nat → Int) {i j : Nat} (h : j < i) (hj : j < 3) : (onI A i).get j = A j 4 := by
  rcases (by omega : j = 0 ∨ j = 1 ∨ j = 2) with rfl | rfl | rfl <;> simp [onI, T3.get, h]
theorem onI_get0 (A : Nat → Nat → Int) {i j : Nat} (h : ¬ j < i) (hj : j < 3) : (onI A i).get j = 0 := by
  rcases (by omega : j = 0 ∨ j = 1 ∨ j = 2) with rfl | rfl | rfl <;> simp [onI, T3.get] <;> omega
def begP (D : PD) : PS := ⟨onI D.A D.n, D.st, 0⟩
theorem begP_ok {D : PD} (hD : D.Ok) : stOk D (begP D) := by
  refine ⟨fun i hi => ?_, ?_, ?_⟩
  · simp only [begP]
    by_cases h : i < D.n
    · rw [onI_get _ h hi]
      have := hD.on i h
      have := hD.oil i h
      omega
    · rw [onI_get0 _ h hi]; omega
  · have := hD.st; have := hD.ro; simp only [begP]; omega
  · simp only [begP]; omega
def beginBase : BaseF := fun args => match args with
  | [.rptr sz_1 c_1] => (match c_1 0, c_1 1, c_1 2, c_1 3, c_1 4, c_1 5, c_1 6 with | .row n sz_A f_A, .row h sz_nd f_nd, .row q sz_pr f_pr, .int .i64 st, .int .i64 ro, .int .i64 pk, .int .i64 fr => some ((sz_1 = 7) ∧ (sz_A = 5 ∧ NestR n 5 0 2 f_A) ∧ (sz_nd = 1 ∧ IntR h 1 f_nd) ∧ (sz_pr = 1 ∧ IntR q 1 f_pr) ∧ (n ≤ 3), psS ⟨onI (nsA f_A) n, st, 0⟩) | _, _, _, _, _, _, _ => none)
  | _ => none
theorem begin_eq (sz_1 : Nat) (c_1 : Nat → SV) : beginBase [.rptr sz_1 c_1] = (match c_1 0, c_1 1, c_1 2, c_1 3, c_1 4, c_1 5, c_1 6 with | .row n sz_A f_A, .row h sz_nd f_nd, .row q sz_pr f_pr, .int .i64 st, .int .i64 ro, .int .i64 pk, .int .i64 fr => some ((sz_1 = 7) ∧ (sz_A = 5 ∧ NestR n 5 0 2 f_A) ∧ (sz_nd = 1 ∧ IntR h 1 f_nd) ∧ (sz_pr = 1 ∧ IntR q 1 f_pr) ∧ (n ≤ 3), psS ⟨onI (nsA f_A) n, st, 0⟩) | _, _, _, _, _, _, _ => none) := rfl
theorem begin_base : Base Try.prog 35 beginBase := by
  intro args p v hq hp
  unfold beginBase at hq
  split at hq
  rotate_left
  · cases hq
  rename_i sz_1 c_1
  split at hq
  rotate_left
  · cases hq
  rename_i n sz_A f_A h sz_nd f_nd q sz_pr f_pr st ro pk fr h_1_0 h_1_1 h_1_2 h_1_3 h_1_4 h_1_5 h_1_6
  cases hq
  obtain ⟨rfl, ⟨rfl, i_A⟩, ⟨rfl, i_nd⟩, ⟨rfl, i_pr⟩, pre⟩ := hp
  refine base_of (C := cx [] [] [] [] none) (cx_ok trivial trivial) rfl (g := 35) (fn := Try.f35)
    (args' := [.rptr 7 (fun j => nth [.row n 5 (nestF 0 2 (nsA f_A) (nsM 0 f_A) (nsV 0 f_A)), .row h 1 (rowF .i64 (ivf f_nd)), .row q 1 (rowF .i64 (ivf f_pr)), .int .i64 st, .int .i64 ro, .int .i64 pk, .int .i64 fr] j)]) (fn_35) rfl 1000 (by
    simp only [BdL, Bd, and_self, and_true, true_and]
    exact (fun j hj => by
      have hj : j = 0 ∨ j = 1 ∨ j = 2 ∨ j = 3 ∨ j = 4 ∨ j = 5 ∨ j = 6 := by omega
      rcases hj with rfl | rfl | rfl | rfl | rfl | rfl | rfl
      · rw [h_1_0]; simp only [BdL, Bd, and_self, and_true, true_and]; exact (fun i j hi hj => nest_bd i_A i j hi hj)
      · rw [h_1_1]; simp only [BdL, Bd, and_self, and_true, true_and]; exact (fun i j hi hj => by rw [i_nd i j hi hj]; trivial)
      · rw [h_1_2]; simp only [BdL, Bd, and_self, and_true, true_and]; exact (fun i j hi hj => by rw [i_pr i j hi hj]; trivial)
      · rw [h_1_3]; simp only [BdL, Bd, and_self, and_true, true_and]
      · rw [h_1_4]; simp only [BdL, Bd, and_self, and_true, true_and]
      · rw [h_1_5]; simp only [BdL, Bd, and_self, and_true, true_and]
      · rw [h_1_6]; simp only [BdL, Bd, and_self, and_true, true_and])) ⟨SameD.rptr (fun j hj => by
      have hj : j = 0 ∨ j = 1 ∨ j = 2 ∨ j = 3 ∨ j = 4 ∨ j = 5 ∨ j = 6 := by omega
      rcases hj with rfl | rfl | rfl | rfl | rfl | rfl | rfl
      · rw [h_1_0]; exact SameD.nest i_A
      · rw [h_1_1]; exact SameD.int i_nd
      · rw [h_1_2]; exact SameD.int i_pr
      · rw [h_1_3]; exact SameD.rfl' _
      · rw [h_1_4]; exact SameD.rfl' _
      · rw [h_1_5]; exact SameD.rfl' _
      · rw [h_1_6]; exact SameD.rfl' _), trivial⟩ ?_
  generalize nsA f_A = A at *
  generalize nsM 0 f_A = M at *
  generalize nsV 0 f_A = V at *
  generalize ivf f_nd = nd at *
  generalize ivf f_pr = pr at *
  simp only [rowF_eq]
  simp only [nestF_eq, nestR_lit, nsM_lit, nsV_lit, Try.f35, go_sem, ↓reduceIte, Nat.reduceAdd, Nat.reduceSub, Nat.reduceMul, Nat.reduceEqDiff, Nat.reduceLT, Nat.reduceLeDiff, Int.reduceToNat, Int.reduceLE, Int.reduceLT, Int.reduceEq, Int.reduceNeg, reduceCtorEq]
  refine loop_ofH { i : Nat // i ≤ n } (fun i => [(16, .int .i64 (i.1 : Int)), (15, .int .i64 (n : Int)), (14, .row n 5 (nestF 0 2 A M V)), (3, .ptr 1 0), (2, .ptr 0 0)])
    (fun h i => ⟨[getB h.blks 0, .live 65 [.int .i64 (onI A i.1).a, .int .i64 (onI A i.1).b, .int .i64 (onI A i.1).c, .int .i64 st, .int .i64 0]], []⟩) (fun i => n - i.1) (fun _ => ⟨rfl, rfl⟩) ⟨0, by omega⟩ (by (apply sub_of <;> simp only [go_sem, ↓reduceIte, Nat.reduceAdd, Nat.reduceSub, Nat.reduceMul, Nat.reduceEqDiff, Nat.reduceLT, Nat.reduceLeDiff, Int.reduceToNat, Int.reduceLE, Int.reduceLT, Int.reduceEq, Int.reduceNeg, reduceCtorEq] <;> (try simp [catF]) <;> (try exact fun j _ => Bd_nth (by simp [BdL, Bd]) j) <;> (try exact bd_setL (by simp [bdAs, BdL, Bd])) <;> (try exact nestF_bd _ _ _ _ _ _ _ _ _)); exact ⟨rfl, rfl, rfl⟩) ?_
  rintro ⟨i, hi⟩
  rcases Nat.lt_or_ge i n with hin | hin
  · have h3 : i < 3 := by omega
    have v5 := fun x y z v => T3.over5 x y z v h3
    have hw3 : IntKind.i64.wrap ((i : Int) + 1) = ((i + 1 : Nat) : Int) := by rw [wrap_id (by omega) (by omega)]; omega
    simp only [v5, onI_set A h3, nestF_eq, nestR_lit, nsM_lit, nsV_lit, Try.f35, go_sem, ↓reduceIte, Nat.reduceAdd, Nat.reduceSub, Nat.reduceMul, Nat.reduceEqDiff, Nat.reduceLT, Nat.reduceLeDiff, Int.reduceToNat, Int.reduceLE, Int.reduceLT, Int.reduceEq, Int.reduceNeg, reduceCtorEq]
    refine ⟨fun _ => ⟨⟨by omega, by omega⟩, ⟨by omega, by omega⟩, by omega, ⟨i + 1, by omega⟩, by simp only []; omega, ?_⟩, fun e => absurd e (by simp; omega)⟩
    apply sub_of <;> simp only [hw3, go_sem, ↓reduceIte, Nat.reduceAdd, Nat.reduceSub, Nat.reduceMul, Nat.reduceEqDiff, Nat.reduceLT, Nat.reduceLeDiff, Int.reduceToNat, Int.reduceLE, Int.reduceLT, Int.reduceEq, Int.reduceNeg, reduceCtorEq] <;> (try simp) <;> (try exact fun j _ => Bd_nth (by simp [BdL, Bd]) j) <;> (try exact bd_setL (by simp [bdAs, BdL, Bd])) <;> (try exact nestF_bd _ _ _ _ _ _ _ _ _)
  · obtain rfl : i = n := by omega
    simp only [nestF_eq, nestR_lit, nsM_lit, nsV_lit, Try.f35, go_sem, ↓reduceIte, Nat.reduceAdd, Nat.reduceSub, Nat.reduceMul, Nat.reduceEqDiff, Nat.reduceLT, Nat.reduceLeDiff, Int.reduceToNat, Int.reduceLE, Int.reduceLT, Int.reduceEq, Int.reduceNeg, reduceCtorEq]
    exact ⟨fun e => absurd e (by simp), fun _ => rfl⟩
end Go.Eng
end

/- press: all choices, and the best way on. No program in sight. -/
section
namespace Go.Eng
open Go Go.RowKit Go.Proofs
set_option maxRecDepth 100000
set_option maxHeartbeats 4000000
attribute [local irreducible] OwnT DefS
def rad (D : PD) (i : Nat) : Nat := if i < D.n then D.M i + 1 else 1
def tot (D : PD) : Nat := rad D 0 * (rad D 1 * rad D 2)
/-- The q-th choices. -/
def dig (D : PD) (q : Nat) : T3 := ⟨(q / (rad D 1 * rad D 2) : Nat), (q / rad D 2 % rad D 1 : Nat), (q % rad D 2 : Nat)⟩
/-- From m on they are off. -/
def zr (m : Nat) (c : T3) : T3 := ⟨if m ≤ 0 then 0 else c.a, if m ≤ 1 then 0 else c.b, if m ≤ 2 then 0 else c.c⟩
theorem zr_set (c : T3) {m : Nat} (h : m < 3) : (zr (m + 1) c).set m 0 = zr m c := by
  rcases (by omega : m = 0 ∨ m = 1 ∨ m = 2) with rfl | rfl | rfl <;> simp [zr, T3.set]
theorem zr_get (c : T3) {m i : Nat} (h : i < m) (h3 : i < 3) : (zr m c).get i = c.get i := by
  rcases (by omega : i = 0 ∨ i = 1 ∨ i = 2) with rfl | rfl | rfl <;> simp [zr, T3.get] <;> omega
theorem M_cases {D : PD} (hD : D.Ok) : (D.n = 1 ∧ (D.M 0 = 1 ∨ D.M 0 = 2)) ∨ (D.n = 2 ∧ (D.M 0 = 1 ∨ D.M 0 = 2) ∧ (D.M 1 = 1 ∨ D.M 1 = 2)) ∨ (D.n = 3 ∧ (D.M 0 = 1 ∨ D.M 0 = 2) ∧ (D.M 1 = 1 ∨ D.M 1 = 2) ∧ (D.M 2 = 1 ∨ D.M 2 = 2)) := by
  have hn := hD.n
  have h0 := hD.M 0 (by omega)
  by_cases h1 : 1 < D.n
  · have g1 := hD.M 1 h1
    by_cases h2 : 2 < D.n
    · have g2 := hD.M 2 h2
      exact .inr (.inr ⟨by omega, by omega, by omega, by omega⟩)
    · exact .inr (.inl ⟨by omega, by omega, by omega⟩)
  · exact .inl ⟨by omega, by omega⟩
theorem dig_ok {D : PD} (hD : D.Ok) {q : Nat} (hq : q < tot D) : chOk D (dig D q) := by
  intro i hi
  unfold tot at hq
  rcases M_cases hD with ⟨e, m0 | m0⟩ | ⟨e, m0 | m0, m1 | m1⟩ | ⟨e, m0 | m0, m1 | m1, m2 | m2⟩
  all_goals
    simp only [rad, e, m0, dig] at hq ⊢
    simp at hq ⊢
    rw [e] at hi
    rcases (by omega : i = 0 ∨ i = 1 ∨ i = 2) with rfl | rfl | rfl
    all_goals first | omega | (simp only [T3.get]; simp [*] at hq ⊢; omega)
theorem dig_zr {D : PD} (hD : D.Ok) (q : Nat) : zr D.n (dig D q) = dig D q := by
  rcases M_cases hD with ⟨e, m0⟩ | ⟨e, m0, m1⟩ | ⟨e, m0, m1, m2⟩
  all_goals simp [zr, dig, e, rad, Nat.mod_one]
theorem dig_next {D : PD} (hD : D.Ok) {q m : Nat} (hq : q < tot D) (hm : m < D.n) (hx : ∀ t, m < t → t < D.n → (dig D q).get t = D.M t) (hne : (dig D q).get m ≠ D.M m) :
    q + 1 < tot D ∧ (zr (m + 1) (dig D q)).set m ((dig D q).get m + 1) = dig D (q + 1) := by
  unfold tot at hq ⊢
  have x1 := hx 1
  have x2 := hx 2
  rcases (by have := hD.n; omega : m = 0 ∨ m = 1 ∨ m = 2) with rfl | rfl | rfl
  all_goals
    rcases M_cases hD with ⟨e, m0 | m0⟩ | ⟨e, m0 | m0, m1 | m1⟩ | ⟨e, m0 | m0, m1 | m1, m2 | m2⟩
  all_goals
    simp [rad, *, T3.get, dig, zr, T3.set] at hq x1 x2 hne hm ⊢
  all_goals
    try omega
theorem dig_last {D : PD} (hD : D.Ok) {q : Nat} (hq : q < tot D) (hx : ∀ t, t < D.n → (dig D q).get t = D.M t) : q + 1 = tot D := by
  unfold tot at hq ⊢
  have x0 := hx 0
  have x1 := hx 1
  have x2 := hx 2
  rcases M_cases hD with ⟨e, m0 | m0⟩ | ⟨e, m0 | m0, m1 | m1⟩ | ⟨e, m0 | m0, m1 | m1, m2 | m2⟩
  all_goals
    simp [rad, *, T3.get, dig] at hq x0 x1 x2 ⊢
  all_goals
    try omega
theorem tot_pos (D : PD) : 0 < tot D := by
  unfold tot rad
  refine Nat.mul_pos ?_ (Nat.mul_pos ?_ ?_) <;> split <;> omega
theorem dig_0 (D : PD) : dig D 0 = ⟨0, 0, 0⟩ := by simp [dig]
theorem tot_le {D : PD} (hD : D.Ok) : tot D ≤ 27 := by
  unfold tot
  rcases M_cases hD with ⟨e, m0 | m0⟩ | ⟨e, m0 | m0, m1 | m1⟩ | ⟨e, m0 | m0, m1 | m1, m2 | m2⟩
  all_goals simp [rad, *]
def candM (D : PD) (rest : PS → Option (Int × T3)) (s : PS) (hr : Nat) (c : T3) : Option Int :=
  if (hourP D s hr c).e = 0 then (match rest (hourP D s hr c).s with
    | some x => some ((hourP D s hr c).en + (hourP D s hr c).sta + x.1)
    | none => none) else none
def pickM (D : PD) (f : T3 → Option Int) : Nat → Option (Int × T3)
  | 0 => none
  | q + 1 => match f (dig D q) with
    | none => pickM D f q
    | some x => match pickM D f q with
      | none => some (x, dig D q)
      | some y => if x < y.1 then some (x, dig D q) else some y
/-- The least that is left to be paid with k hours left, and the choices with which; none: no plan can be. -/
def bestM (D : PD) : Nat → PS → Option (Int × T3)
  | 0, s => some (s.pk * D.pk, ⟨0, 0, 0⟩)
  | k + 1, s => pickM D (candM D (bestM D k) s (D.h - (k + 1))) (tot D)
theorem pickM_all {D : PD} {f : T3 → Option Int} {P : Int × T3 → Prop} : ∀ (k : Nat), (∀ q x, q < k → f (dig D q) = some x → P (x, dig D q)) → ∀ y, pickM D f k = some y → P y
  | 0, _, y, h => by cases h
  | k + 1, h, y, hy => by
    simp only [pickM] at hy
    split at hy
    · exact pickM_all k (fun q x hq => h q x (by omega)) y hy
    · rename_i x hx
      split at hy
      · cases hy; exact h k x (by omega) hx
      · rename_i z hz
        split at hy
        · cases hy; exact h k x (by omega) hx
        · cases hy; exact pickM_all k (fun q x hq => h q x (by omega)) _ hz
theorem bestM_ok {D : PD} (hD : D.Ok) : ∀ (k : Nat) (s : PS), k ≤ D.h → stOk D s → ∀ y, bestM D k s = some y → (0 ≤ y.1 ∧ y.1 ≤ 30000000 + k * 30030000) ∧ chOk D y.2
  | 0, s, _, hs, y, h => by
    cases h
    have hpk := hD.pk
    have q1 := mulB (x := s.pk) (y := D.pk) (m := 3000) (k := 10000) hs.2.2 hpk
    refine ⟨by simp only []; omega, fun i hi => ?_⟩
    have := (hD.M i hi).1
    rcases (by have := hD.n; omega : i = 0 ∨ i = 1 ∨ i = 2) with rfl | rfl | rfl <;> simp [T3.get]
  | k + 1, s, hk, hs, y, h => by
    simp only [bestM] at h
    refine pickM_all (P := fun y => (0 ≤ y.1 ∧ y.1 ≤ 30000000 + ((k + 1 : Nat) : Int) * 30030000) ∧ chOk D y.2) _ (fun q x hq hx => ?_) y h
    have hc := dig_ok hD hq
    unfold candM at hx
    split at hx
    · rename_i he
      split at hx
      · rename_i z hz
        cases hx
        obtain ⟨h1, h2, h3⟩ := hourP_ok hD hs hc (by omega) he
        obtain ⟨g1, g2⟩ := bestM_ok hD k _ (by omega) h1 z hz
        refine ⟨?_, hc⟩
        simp only []
        omega
      · cases hx
    · cases hx
end Go.Eng
end

/- press: the best way on, with what is known of before. -/
section
namespace Go.Eng
open Go Go.RowKit Go.Proofs
set_option maxRecDepth 100000
set_option maxHeartbeats 4000000
attribute [local irreducible] OwnT DefS
def keyL (hr : Int) (s : PS) : List Int := [hr, s.on.a, s.on.b, s.on.c, s.sto, s.pk]
def wx : Option (Int × T3) → Int
  | none => 0
  | some x => x.1
def wc : Option (Int × T3) → T3
  | none => ⟨0, 0, 0⟩
  | some x => x.2
def wayL (x : Option (Int × T3)) : List Int := [b2i x.isNone, wx x, (wc x).a, (wc x).b, (wc x).c]
def wayC (x : Option (Int × T3)) : List SV := [.bool x.isNone, .int .i64 (wx x), .int .i64 (wc x).a, .int .i64 (wc x).b, .int .i64 (wc x).c]
theorem stepP_ns {n : Nat} {A : Nat → Nat → Int} {M : Nat → Nat} {V : Nat → Nat → Nat → Int} {h : Nat} {nd pr : Nat → Nat → Int} {st ro pk fr : Int} (on c : T3) (i : Nat) (a : PA) :
    stepP ⟨n, nsA (nestF 0 2 A M V), M, V, h, nd, pr, st, ro, pk, fr⟩ on c i a = stepP ⟨n, A, M, V, h, nd, pr, st, ro, pk, fr⟩ on c i a := by
  simp only [stepP, nsA_lit i (show 1 ≠ 0 by omega), nsA_lit i (show 2 ≠ 0 by omega), nsA_lit i (show 3 ≠ 0 by omega)]
theorem stepsP_ns {n : Nat} {A : Nat → Nat → Int} {M : Nat → Nat} {V : Nat → Nat → Nat → Int} {h : Nat} {nd pr : Nat → Nat → Int} {st ro pk fr : Int} (on c : T3) (s : Int) : ∀ i,
    stepsP ⟨n, nsA (nestF 0 2 A M V), M, V, h, nd, pr, st, ro, pk, fr⟩ on c s i = stepsP ⟨n, A, M, V, h, nd, pr, st, ro, pk, fr⟩ on c s i
  | 0 => rfl
  | i + 1 => by simp only [stepsP, stepsP_ns on c s i, stepP_ns]
theorem hourP_ns {n : Nat} {A : Nat → Nat → Int} {M : Nat → Nat} {V : Nat → Nat → Nat → Int} {h : Nat} {nd pr : Nat → Nat → Int} {st ro pk fr : Int} (s : PS) (hr : Nat) (c : T3) :
    hourP ⟨n, nsA (nestF 0 2 A M V), M, V, h, nd, pr, st, ro, pk, fr⟩ s hr c = hourP ⟨n, A, M, V, h, nd, pr, st, ro, pk, fr⟩ s hr c := by
  simp only [hourP, stepsP_ns]
theorem Ok_ns {n : Nat} {A : Nat → Nat → Int} {M : Nat → Nat} {V : Nat → Nat → Nat → Int} {h : Nat} {nd pr : Nat → Nat → Int} {st ro pk fr : Int} :
    PD.Ok ⟨n, nsA (nestF 0 2 A M V), M, V, h, nd, pr, st, ro, pk, fr⟩ = PD.Ok ⟨n, A, M, V, h, nd, pr, st, ro, pk, fr⟩ := by
  have e1 : ∀ i, nsA (nestF 0 2 A M V) i 1 = A i 1 := fun i => nsA_lit i (by omega)
  have e2 : ∀ i, nsA (nestF 0 2 A M V) i 2 = A i 2 := fun i => nsA_lit i (by omega)
  have e3 : ∀ i, nsA (nestF 0 2 A M V) i 3 = A i 3 := fun i => nsA_lit i (by omega)
  have e4 : ∀ i, nsA (nestF 0 2 A M V) i 4 = A i 4 := fun i => nsA_lit i (by omega)
  apply propext
  constructor
  · intro H
    have h5 := H.oil; have h6 := H.least; have h7 := H.on; have h8 := H.start
    simp only [e1, e2, e3, e4] at h5 h6 h7 h8
    exact ⟨H.n, H.h, H.nd, H.pr, h5, h6, h7, h8, H.M, H.pow, H.cold, H.ro, H.st, H.pk, H.fr⟩
  · intro H
    have h5 := H.oil; have h6 := H.least; have h7 := H.on; have h8 := H.start
    refine ⟨H.n, H.h, H.nd, H.pr, ?_, ?_, ?_, ?_, H.M, H.pow, H.cold, H.ro, H.st, H.pk, H.fr⟩ <;> simp only [e1, e2, e3, e4] <;> assumption
def Known (D : PD) (es : List (List Int × List Int)) : Prop :=
  ∀ (i : Nat) (s : PS) (v : List Int), i ≤ D.h → findM es (keyL i s) = some v → v = wayL (bestM D (D.h - i) s)
theorem findM_put : ∀ (es : List (List Int × List Int)) (k v k' : List Int), findM (putM es k v) k' = if k = k' then some v else findM es k'
  | [], k, v, k' => by simp [putM, findM]
  | (k0, v0) :: es, k, v, k' => by
    simp only [putM]
    split
    · rename_i h; subst h
      simp only [findM]
      split <;> rfl
    · rename_i h
      simp only [findM, findM_put es k v k']
      by_cases h1 : k0 = k'
      · subst h1
        rw [if_pos rfl, if_neg (fun e => h e.symm), if_pos rfl]
      · rw [if_neg h1, if_neg h1]
theorem known_put {D : PD} {es : List (List Int × List Int)} (h : Known D es) {i : Nat} {s : PS} {v : List Int} (hv : v = wayL (bestM D (D.h - i) s)) : Known D (putM es (keyL i s) v) := by
  intro i' s' v' hi hf
  rw [findM_put] at hf
  split at hf
  · rename_i e
    obtain ⟨⟨sa, sb, sc⟩, st, sp⟩ := s
    obtain ⟨⟨ta, tb, tc⟩, tt, tp⟩ := s'
    simp only [keyL, List.cons.injEq, and_true] at e
    obtain ⟨e1, rfl, rfl, rfl, rfl, rfl⟩ := e
    obtain rfl : i = i' := by omega
    cases hf
    exact hv
  · exact h i' s' v' hi hf
def mpS (es : List (List Int × List Int)) : MapS := ⟨67, 69, true, [.i, .i, .i, .i, .i, .i], true, [.b, .i, .i, .i, .i], es⟩
def bestH (D : PD) (es : List (List Int × List Int)) : List Blk :=
  [.live 25 (prC D), .mp (mpS es), .live 60 [.mapp 1], .live 61 [.func 32 [.ptr 0 0, .ptr 2 0, .ptr 3 0]]]
def catB : List Blk → List Blk → List Blk
  | [], k => k
  | x :: l, k => x :: catB l k
theorem lenB_cat : ∀ (k l : List Blk), lenB (catB k l) = lenB k + lenB l
  | [], l => by simp [catB, lenB]
  | x :: k, l => by simp only [catB, lenB, lenB_cat k l]; omega
def spS (hr : Int) (s : PS) : SV := .agg [.int .i64 hr, .int .i64 s.on.a, .int .i64 s.on.b, .int .i64 s.on.c, .int .i64 s.sto, .int .i64 s.pk]
theorem prC_ren (D : PD) (b v : Nat → Nat) : renL b v (prC D) = prC D := by
  have h : (fun i j => renS b v (nestF 0 2 D.A D.M D.V i j)) = nestF 0 2 D.A D.M D.V := by
    funext i j
    simp only [nestF]
    split <;> simp only [renS]
  simp only [prC, renL, renS, h]
theorem prC_sub (D : PD) : subL (prC D) (prC D) := by simp [prC, subL, subX]
theorem best_trim {D : PD} {args : List SV} {es : List (List Int × List Int)} {w : Option (Int × T3)}
    (h : CallsS Try.prog 32 args ⟨bestH D es, []⟩ (fun o h' => ∃ es' ext V, Known D es' ∧ o = .ret (.agg (wayC w)) ∧ h' = ⟨catB (bestH D es') ext, V⟩)) :
    CallsS Try.prog 32 args ⟨bestH D es, []⟩ (fun o h' => ∃ es', Known D es' ∧ o = .ret (.agg (wayC w)) ∧ h' = ⟨bestH D es', []⟩) := by
  refine calls_trim h ?_
  rintro o h' ⟨es', ext, V, h1, rfl, rfl⟩
  refine ⟨.agg (wayC w), .agg (wayC w), ⟨bestH D es', []⟩, ⟨rfl, es', h1, rfl, rfl⟩, ⟨?_, ?_, ?_, ?_, ?_, ?_⟩, ⟨?_, ?_⟩, ⟨?_, ?_⟩⟩ <;> simp only [wayC, bestH, catB, go_sem, ↓reduceIte, Nat.reduceAdd, Nat.reduceSub, Nat.reduceMul, Nat.reduceEqDiff, Nat.reduceLT, Nat.reduceLeDiff, Int.reduceToNat, Int.reduceLE, Int.reduceLT, Int.reduceEq, Int.reduceNeg, reduceCtorEq] <;> (try simp)
  all_goals first | exact prC_bd D _ _ | exact prC_sub D
theorem best_frame {D : PD} {hr : Int} {s : PS} {es : List (List Int × List Int)} {w : Option (Int × T3)} (rest : List Blk) (V : List Vc)
    (h : CallsS Try.prog 32 [spS hr s, .ptr 0 0, .ptr 2 0, .ptr 3 0] ⟨bestH D es, []⟩ (fun o h' => ∃ es', Known D es' ∧ o = .ret (.agg (wayC w)) ∧ h' = ⟨bestH D es', []⟩)) :
    CallsS Try.prog 32 [spS hr s, .ptr 0 0, .ptr 2 0, .ptr 3 0] ⟨catB (bestH D es) rest, V⟩ (fun o h' => ∃ es', Known D es' ∧ o = .ret (.agg (wayC w)) ∧ h' = ⟨catB (bestH D es') rest, V⟩) := by
  have := calls_ren (h := ⟨catB (bestH D es) rest, V⟩) [0, 1, 2, 3] [] h (by decide) (by decide) (by simp [spS, BdL, Bd]) (by simp [bestH, bdB, BdL, Bd]; exact prC_bd D _ _) (by simp only [go_sem, ↓reduceIte, Nat.reduceAdd, Nat.reduceSub, Nat.reduceMul, Nat.reduceEqDiff, Nat.reduceLT, Nat.reduceLeDiff, Int.reduceToNat, Int.reduceLE, Int.reduceLT, Int.reduceEq, Int.reduceNeg, reduceCtorEq])
    (by simp only [bestH, catB, prC_ren, go_sem, ↓reduceIte, Nat.reduceAdd, Nat.reduceSub, Nat.reduceMul, Nat.reduceEqDiff, Nat.reduceLT, Nat.reduceLeDiff, Int.reduceToNat, Int.reduceLE, Int.reduceLT, Int.reduceEq, Int.reduceNeg, reduceCtorEq]) (by simp only [go_sem, ↓reduceIte, Nat.reduceAdd, Nat.reduceSub, Nat.reduceMul, Nat.reduceEqDiff, Nat.reduceLT, Nat.reduceLeDiff, Int.reduceToNat, Int.reduceLE, Int.reduceLT, Int.reduceEq, Int.reduceNeg, reduceCtorEq]) (by intro k hk; simp only [lenB_cat, bestH, go_sem, ↓reduceIte, Nat.reduceAdd, Nat.reduceSub, Nat.reduceMul, Nat.reduceEqDiff, Nat.reduceLT, Nat.reduceLeDiff, Int.reduceToNat, Int.reduceLE, Int.reduceLT, Int.reduceEq, Int.reduceNeg, reduceCtorEq]; simp at hk; omega) (by simp)
    (by rintro o h' ⟨es', h1, rfl, rfl⟩; simp [wayC, bestH, bdO, bdB, bdV, BdL, Bd, lenB, lenV]; exact prC_bd D _ _)
  refine calls_mono ?_ this
  rintro o h' ⟨o0, h0', ⟨es', h1, rfl, rfl⟩, rfl, rfl⟩
  refine ⟨es', h1, ?_, ?_⟩
  · simp only [wayC, go_sem, ↓reduceIte, Nat.reduceAdd, Nat.reduceSub, Nat.reduceMul, Nat.reduceEqDiff, Nat.reduceLT, Nat.reduceLeDiff, Int.reduceToNat, Int.reduceLE, Int.reduceLT, Int.reduceEq, Int.reduceNeg, reduceCtorEq]
  · simp only [bestH, catB, prC_ren, go_sem, ↓reduceIte, Nat.reduceAdd, Nat.reduceSub, Nat.reduceMul, Nat.reduceEqDiff, Nat.reduceLT, Nat.reduceLeDiff, Int.reduceToNat, Int.reduceLE, Int.reduceLT, Int.reduceEq, Int.reduceNeg, reduceCtorEq]
end Go.Eng
end

/- press: the best way on, evaluated. -/
section
namespace Go.Eng
open Go Go.RowKit Go.Proofs
set_option maxRecDepth 100000
set_option maxHeartbeats 4000000
attribute [local irreducible] OwnT DefS
theorem T3.over3 (x : T3) (v : Int) {i : Nat} (h : i < 3) : over [.int .i64 x.a, .int .i64 x.b, .int .i64 x.c] (i * 1) [.int .i64 v] = [.int .i64 (x.set i v).a, .int .i64 (x.set i v).b, .int .i64 (x.set i v).c] := by
  rcases (by omega : i = 0 ∨ i = 1 ∨ i = 2) with rfl | rfl | rfl <;> rfl
theorem wx_some (x : Int × T3) : wx (some x) = x.1 := rfl
theorem wc_some (x : Int × T3) : wc (some x) = x.2 := rfl
theorem best_calls {D : PD} (hD : D.Ok) : ∀ (k i : Nat) (s : PS) (es : List (List Int × List Int)), i + k = D.h → stOk D s → Known D es →
    CallsS Try.prog 32 [spS i s, .ptr 0 0, .ptr 2 0, .ptr 3 0] ⟨bestH D es, []⟩ (fun o h' => ∃ es', Known D es' ∧ o = .ret (.agg (wayC (bestM D k s))) ∧ h' = ⟨bestH D es', []⟩) := by
  have hh := hD.h
  have hpk := hD.pk
  intro k
  induction k with
  | zero =>
    intro i s es hi hs hes
    obtain rfl : i = D.h := by omega
    have q1 := mulB (x := s.pk) (y := D.pk) (m := 3000) (k := 10000) hs.2.2 hpk
    have w1 : IntKind.i64.wrap (s.pk * D.pk) = s.pk * D.pk := wrap_id (by omega) (by omega)
    refine best_trim (calls_of_run (C := cx [32] [] [(34, triedBase)] [] none) (cx_ok trivial ⟨tried_base, trivial⟩) rfl fn_32 rfl 1000 ?_)
    simp only [Try.f32, spS, bestH, mpS, prC, w1, go_sem, ↓reduceIte, Nat.reduceAdd, Nat.reduceSub, Nat.reduceMul, Nat.reduceEqDiff, Nat.reduceLT, Nat.reduceLeDiff, Int.reduceToNat, Int.reduceLE, Int.reduceLT, Int.reduceEq, Int.reduceNeg, reduceCtorEq]
    refine ⟨es, [.live 67 [.int .i64 D.h, .int .i64 s.on.a, .int .i64 s.on.b, .int .i64 s.on.c, .int .i64 s.sto, .int .i64 s.pk], .live 69 [.bool false, .int .i64 (s.pk * D.pk), .int .i64 0, .int .i64 0, .int .i64 0]], [], hes, rfl, rfl⟩
  | succ k ih =>
    intro i s es hi hs hes
    refine best_trim (calls_of_run (C := cx [32] [] [(34, triedBase)] [(58, 3, p58_3)] none) (cx_ok trivial ⟨tried_base, trivial⟩) rfl fn_32 rfl 1000 ?_)
    simp only [Try.f32, Try.f33, Try.f58, spS, bestH, mpS, prC, tried_eq, p58_3, go_sem, ↓reduceIte, Nat.reduceAdd, Nat.reduceSub, Nat.reduceMul, Nat.reduceEqDiff, Nat.reduceLT, Nat.reduceLeDiff, Int.reduceToNat, Int.reduceLE, Int.reduceLT, Int.reduceEq, Int.reduceNeg, reduceCtorEq]
    have ei : ((i : Int) = (D.h : Int)) = False := eq_false (by omega)
    simp only [ei, go_sem, ↓reduceIte, Nat.reduceAdd, Nat.reduceSub, Nat.reduceMul, Nat.reduceEqDiff, Nat.reduceLT, Nat.reduceLeDiff, Int.reduceToNat, Int.reduceLE, Int.reduceLT, Int.reduceEq, Int.reduceNeg, reduceCtorEq]
    have hlk : hasM es [(i : Int), s.on.a, s.on.b, s.on.c, s.sto, s.pk] = true → lookM es [(i : Int), s.on.a, s.on.b, s.on.c, s.sto, s.pk] = wayL (bestM D (k + 1) s) := fun h => by
      unfold hasM at h
      unfold lookM
      cases hf : findM es [(i : Int), s.on.a, s.on.b, s.on.c, s.sto, s.pk] with
      | none => rw [hf] at h; cases h
      | some v =>
        have := hes i s v (by omega) hf
        rw [show D.h - i = k + 1 by omega] at this
        simpa using this
    refine ⟨fun c2 => ?_, fun c2 => ?_⟩
    · rw [hlk c2]
      refine ⟨es, [.live 67 [.int .i64 (i : Int), .int .i64 s.on.a, .int .i64 s.on.b, .int .i64 s.on.c, .int .i64 s.sto, .int .i64 s.pk], .live 69 (wayC (bestM D (k + 1) s)), .live 69 (wayC (bestM D (k + 1) s))], [], hes, ?_, ?_⟩
      · simp only [wayL, wayC, gt]
        cases (bestM D (k + 1) s).isNone <;> simp [b2i]
      · simp only [wayL, wayC, gt, catB]
        cases (bestM D (k + 1) s).isNone <;> simp [b2i]
    have hbest : bestM D (k + 1) s = pickM D (candM D (bestM D k) s i) (tot D) := by
      simp only [bestM, show D.h - (k + 1) = i by omega]
    generalize hF : candM D (bestM D k) s i = F at hbest
    refine loop_ofH { x : Nat × List (List Int × List Int) // x.1 < tot D ∧ Known D x.2 } (fun x => [(3, .ptr 10 0), (1, .ptr 8 0), (0, .yield 9)])
      (fun h x => ⟨[.live 25 (prC D), .mp (mpS x.1.2), .live 60 [.mapp 1], .live 61 [.func 32 [.ptr 0 0, .ptr 2 0, .ptr 3 0]], getB h.blks 4, .live 69 [.bool false, .int .i64 0, .int .i64 0, .int .i64 0, .int .i64 0], getB h.blks 6, .live 69 (wayC (pickM D F x.1.1)), .live 74 [.ptr 0 0], getB h.blks 9, .live 63 [.int .i64 (dig D x.1.1).a, .int .i64 (dig D x.1.1).b, .int .i64 (dig D x.1.1).c]], []⟩)
      (fun x => tot D - x.1.1) (fun _ => ⟨rfl, rfl⟩) ⟨(0, es), tot_pos D, hes⟩ (by simp only [prC, mpS, wayC, pickM, dig_0]; (apply sub_of <;> simp only [go_sem, ↓reduceIte, Nat.reduceAdd, Nat.reduceSub, Nat.reduceMul, Nat.reduceEqDiff, Nat.reduceLT, Nat.reduceLeDiff, Int.reduceToNat, Int.reduceLE, Int.reduceLT, Int.reduceEq, Int.reduceNeg, reduceCtorEq] <;> (try simp [catF]) <;> (try exact fun j _ => Bd_nth (by simp [BdL, Bd]) j) <;> (try exact bd_setL (by simp [bdAs, BdL, Bd])) <;> (try exact nestF_bd _ _ _ _ _ _ _ _ _)); all_goals first | exact ⟨rfl, rfl, rfl, rfl⟩ | exact ⟨nestF_bd _ _ _ _ _ _ _ _ _, bd_setL (by simp [bdAs, BdL, Bd])⟩) ?_
    rintro ⟨⟨q, es⟩, hq, hes⟩
    simp only at hq hes
    simp only [Try.f32, Try.f33, Try.f58, prC, mpS, wayC, hrS, psS, tried_eq, nestR_lit, nsM_lit, nsV_lit, hourP_ns, Ok_ns, p58_3, go_sem, ↓reduceIte, Nat.reduceAdd, Nat.reduceSub, Nat.reduceMul, Nat.reduceEqDiff, Nat.reduceLT, Nat.reduceLeDiff, Int.reduceToNat, Int.reduceLE, Int.reduceLT, Int.reduceEq, Int.reduceNeg, reduceCtorEq]
    have hcd := dig_ok hD hq
    generalize hR : hourP _ _ _ _ = R
    have hR : hourP D s i (dig D q) = R := hR
    refine ⟨⟨hD, hs, hcd, by omega, by omega⟩, fun e1 => ?brnA, fun e1 => ?brnB⟩
    all_goals simp only [Bool.not_eq_true', Bool.not_eq_false', decide_eq_true_eq, decide_eq_false_iff_not] at e1
    case' brnA =>
      have hK := hes
      have hp : pickM D F (q + 1) = pickM D F q := by
        have : F (dig D q) = none := by rw [← hF, candM, hR, if_neg e1]
        simp only [pickM, this]
    case' brnB =>
      have hok := hourP_ok hD hs hcd (hr := i) (by omega) (by rw [hR]; exact e1)
      rw [hR] at hok
      obtain ⟨o1, o2, o3⟩ := hok
      have hcall := ih (i + 1) R.s es (by omega) o1 hes
      have hb := bestM_ok hD k R.s (by omega) o1
      have w1 : IntKind.i64.wrap ((i : Int) + 1) = ((i + 1 : Nat) : Int) := by rw [wrap_id (by omega) (by omega)]; omega
      rw [w1]
      have hFq : F (dig D q) = match bestM D k R.s with | some x => some (R.en + R.sta + x.1) | none => none := by
        rw [← hF, candM, hR, if_pos e1]
        all_goals (cases bestM D k R.s <;> rfl)
      generalize bestM D k R.s = A at hcall hb hFq
      unfold callS
      refine calls_mono ?_ (best_frame _ _ hcall)
      rintro o h' ⟨es', hK, rfl, rfl⟩
      simp only [Try.f32, Try.f33, Try.f58, bestH, catB, prC, mpS, wayC, hrS, psS, tried_eq, nestR_lit, nsM_lit, nsV_lit, hourP_ns, Ok_ns, p58_3, go_sem, ↓reduceIte, Nat.reduceAdd, Nat.reduceSub, Nat.reduceMul, Nat.reduceEqDiff, Nat.reduceLT, Nat.reduceLeDiff, Int.reduceToNat, Int.reduceLE, Int.reduceLT, Int.reduceEq, Int.reduceNeg, reduceCtorEq]
      refine ⟨fun c1 => ⟨fun c2 => ?brn1, fun c2 => ⟨fun c3 => ?brn2, fun c3 => ?brn3⟩⟩, fun c1 => ?brn4⟩
    case' brn4 =>
      have hp : pickM D F (q + 1) = pickM D F q := by
        obtain rfl : A = none := by simpa using c1
        simp only [pickM, hFq]
    case' brn1 =>
      obtain ⟨a, rfl⟩ : ∃ a, A = some a := by cases A with | none => cases c1 | some a => exact ⟨a, rfl⟩
      have hb1 := (hb a rfl).1
      have hp : pickM D F (q + 1) = some (IntKind.i64.wrap (IntKind.i64.wrap (R.en + R.sta) + wx (some a)), dig D q) := by
        rw [wx_some, wrap_id (x := R.en + R.sta) (by omega) (by omega), wrap_id (by omega) (by omega)]
        have : pickM D F q = none := by simpa using c2
        simp only [pickM, hFq, this]
    case' brn2 =>
      obtain ⟨a, rfl⟩ : ∃ a, A = some a := by cases A with | none => cases c1 | some a => exact ⟨a, rfl⟩
      have hb1 := (hb a rfl).1
      have hp : pickM D F (q + 1) = some (IntKind.i64.wrap (IntKind.i64.wrap (R.en + R.sta) + wx (some a)), dig D q) := by
        rw [wx_some, wrap_id (x := R.en + R.sta) (by omega) (by omega), wrap_id (by omega) (by omega)] at c3 ⊢
        obtain ⟨y, hy⟩ : ∃ y, pickM D F q = some y := by cases hpq : pickM D F q with | none => rw [hpq] at c2; cases c2 | some y => exact ⟨y, rfl⟩
        rw [hy, wx_some] at c3
        simp only [pickM, hFq, hy, if_pos (of_decide_eq_true c3)]
    case' brn3 =>
      obtain ⟨a, rfl⟩ : ∃ a, A = some a := by cases A with | none => cases c1 | some a => exact ⟨a, rfl⟩
      have hb1 := (hb a rfl).1
      have hp : pickM D F (q + 1) = pickM D F q := by
        rw [wx_some, wrap_id (x := R.en + R.sta) (by omega) (by omega), wrap_id (by omega) (by omega)] at c3
        obtain ⟨y, hy⟩ : ∃ y, pickM D F q = some y := by cases hpq : pickM D F q with | none => rw [hpq] at c2; cases c2 | some y => exact ⟨y, rfl⟩
        rw [hy, wx_some] at c3
        simp only [pickM, hFq, hy, if_neg (of_decide_eq_false c3)]
    all_goals
      have wn : IntKind.i64.wrap ((D.n : Int) - 1) = (D.n : Int) - 1 := by have := hD.n; exact wrap_id (by omega) (by omega)
      refine loop_ofH { m : Nat // m ≤ D.n ∧ ∀ t, m ≤ t → t < D.n → (dig D q).get t = D.M t } (fun m => [(4, .int .i64 ((m.1 : Int) - 1)), (3, .ptr 10 0), (1, .ptr 8 0), (0, .yield 9)])
        (fun h m => ⟨setB h.blks 10 (.live 63 [.int .i64 (zr m.1 (dig D q)).a, .int .i64 (zr m.1 (dig D q)).b, .int .i64 (zr m.1 (dig D q)).c]), h.vecs⟩) (fun m => m.1) (fun _ => ⟨by simp only [lenB_set], rfl⟩) ⟨D.n, Nat.le_refl _, fun t h1 h2 => absurd h1 (by omega)⟩ (by simp only [dig_zr hD, wn]; (apply sub_of <;> simp only [go_sem, ↓reduceIte, Nat.reduceAdd, Nat.reduceSub, Nat.reduceMul, Nat.reduceEqDiff, Nat.reduceLT, Nat.reduceLeDiff, Int.reduceToNat, Int.reduceLE, Int.reduceLT, Int.reduceEq, Int.reduceNeg, reduceCtorEq] <;> (try simp [catF]) <;> (try exact fun j _ => Bd_nth (by simp [BdL, Bd]) j) <;> (try exact bd_setL (by simp [bdAs, BdL, Bd])) <;> (try exact nestF_bd _ _ _ _ _ _ _ _ _)); exact ⟨nestF_bd _ _ _ _ _ _ _ _ _, bd_setL (by simp [bdAs, BdL, Bd])⟩) ?_
      rintro ⟨m, hm, hmx⟩
      cases m with
      | zero =>
        have hl := dig_last hD hq (fun t => hmx t (Nat.zero_le _))
        have z1 : (0 ≤ ((0 : Nat) : Int) - 1) = False := eq_false (by omega)
        have z2 : (((0 : Nat) : Int) - 1 < 0) = True := eq_true (by omega)
        simp only [Try.f32, Try.f33, Try.f58, z1, z2, prC, mpS, wayC, hrS, psS, tried_eq, nestR_lit, nsM_lit, nsV_lit, hourP_ns, Ok_ns, p58_3, go_sem, ↓reduceIte, Nat.reduceAdd, Nat.reduceSub, Nat.reduceMul, Nat.reduceEqDiff, Nat.reduceLT, Nat.reduceLeDiff, Int.reduceToNat, Int.reduceLE, Int.reduceLT, Int.reduceEq, Int.reduceNeg, reduceCtorEq]
        refine ⟨⟨by kernel_rfl, by kernel_rfl⟩, ?_⟩
        rw [hbest, ← hl, hp]
        refine ⟨putM _ (keyL i s) (wayL _), _, _, known_put hK (by rw [show D.h - i = k + 1 by omega, hbest, ← hl, hp]), rfl, rfl⟩
      | succ m =>
        have h3 : m < 3 := by have := hD.n; omega
        have n3 := fun x => T3.nth3 x h3
        have v3 := fun x v => T3.over3 x v h3
        have hm1 : ((m + 1 : Nat) : Int) - 1 = (m : Int) := by omega
        have z2 : (((m : Nat) : Int) < 0) = False := eq_false (by omega)
        have z1 : (0 ≤ ((m : Nat) : Int)) = True := eq_true (by omega)
        simp only [Try.f32, Try.f33, Try.f58, n3, v3, hm1, z1, z2, zr_get _ (Nat.lt_succ_self m) h3, zr_set _ h3, nestF_eq, prC, mpS, wayC, hrS, psS, tried_eq, nestR_lit, nsM_lit, nsV_lit, hourP_ns, Ok_ns, p58_3, go_sem, ↓reduceIte, Nat.reduceAdd, Nat.reduceSub, Nat.reduceMul, Nat.reduceEqDiff, Nat.reduceLT, Nat.reduceLeDiff, Int.reduceToNat, Int.reduceLE, Int.reduceLT, Int.reduceEq, Int.reduceNeg, reduceCtorEq]
        have hg := dig_ok hD hq m (by omega)
        have hMm := hD.M m (by omega)
        have w4 : IntKind.i64.wrap ((dig D q).get m + 1) = (dig D q).get m + 1 := wrap_id (by omega) (by omega)
        have w5 : IntKind.i64.wrap ((m : Int) - 1) = (m : Int) - 1 := wrap_id (by omega) (by omega)
        refine ⟨⟨by kernel_rfl, by kernel_rfl⟩, by omega, by omega, by omega, fun e5 => ?_, fun e5 => ?_⟩
        all_goals simp only [decide_eq_true_eq, decide_eq_false_iff_not] at e5
        · refine ⟨by omega, by omega, ⟨m, by omega, fun t h1 h2 => ?_⟩, by simp only []; omega, ?_⟩
          · rcases Nat.lt_or_ge m t with h | h
            · exact hmx t h h2
            · obtain rfl : t = m := by omega
              exact e5
          · apply sub_of <;> simp only [w5, go_sem, ↓reduceIte, Nat.reduceAdd, Nat.reduceSub, Nat.reduceMul, Nat.reduceEqDiff, Nat.reduceLT, Nat.reduceLeDiff, Int.reduceToNat, Int.reduceLE, Int.reduceLT, Int.reduceEq, Int.reduceNeg, reduceCtorEq] <;> (try simp) <;> exact ⟨nestF_bd _ _ _ _ _ _ _ _ _, bd_setL (by simp [bdAs, BdL, Bd])⟩
        · obtain ⟨g1, g2⟩ := dig_next hD hq (by omega) (fun t h1 h2 => hmx t (by omega) h2) e5
          refine ⟨by omega, by omega, by omega, by omega, ⟨(q + 1, _), g1, hK⟩, by simp only []; omega, ?_⟩
          apply sub_of <;> simp only [w4, g2, hp, wx_some, wc_some, Option.isNone_some, mpS, go_sem, ↓reduceIte, Nat.reduceAdd, Nat.reduceSub, Nat.reduceMul, Nat.reduceEqDiff, Nat.reduceLT, Nat.reduceLeDiff, Int.reduceToNat, Int.reduceLE, Int.reduceLT, Int.reduceEq, Int.reduceNeg, reduceCtorEq] <;> (try simp) <;> exact ⟨nestF_bd _ _ _ _ _ _ _ _ _, bd_setL (by simp [bdAs, BdL, Bd])⟩
end Go.Eng
end
