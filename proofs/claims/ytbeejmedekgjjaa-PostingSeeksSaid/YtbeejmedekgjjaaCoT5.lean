/- (a name: the document's coder as chapter 19 has it) -/
import Derived.Test.YtbeejmedekgjjaaCoT
